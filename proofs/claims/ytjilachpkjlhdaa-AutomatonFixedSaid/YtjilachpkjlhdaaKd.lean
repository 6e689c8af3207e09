/- Lemmas used by all laws. -/
import Derived.Test.YtjilachpkjlhdaaKa
import Derived.Test.YtjilachpkjlhdaaKb
import Derived.Test.YtjilachpkjlhdaaKc
import Derived.WalkKit
import Derived.WalkSpells
import Derived.WalkLawsBesides
import Derived.Orders
import Derived.Laws.MakeOwn
import Derived.Deep.AppendSrc
import Derived.Lib.AppendZerosOnto
import Derived.Defers
import Derived.Laws.BytesString
import Derived.Laws.StructEq
import Derived.Scope
import Derived.Deep.LoopGhost
import Derived.OrdersIn
import Derived.ControlIn
import Derived.Sort.LoopGhostIn
import Derived.RangeFuncLeaves
import Derived.RangeFuncRecord
import Derived.Test.YtjilachpkjlhdaaProg
import Derived.RangeFuncFrom
import Derived.RangeFuncNested
set_option linter.unusedSimpArgs false
set_option linter.unusedVariables false
set_option linter.unusedSectionVars false
set_option maxRecDepth 100000
namespace Dak
open Go Go.RowKit
variable [Globs]
variable {P : Program} {F0 : FD} {w0 w : World} {L : Lay} {objs objs0 : List AObj} {nid : Nat}
def lk:List (Nat × AV)->Nat->AV
 | [],_=>.junk
 | (k,v)::r,t=>if k=t then v else lk r t
abbrev T (n:Nat):Operand:=.tmp n
structure Est where
 env:List (Nat × AV)
 objs:List AObj
def KeysOk (n:Nat) (env:List (Nat × AV)):Prop:=∀ t,n<=t->lk env t = .junk
def toT (n:Nat) (env:List (Nat × AV)):List AV:=(List.range n).map (lk env)
def Est.toSt (n:Nat) (s:Est):St:=⟨toT n s.env,s.objs⟩
def evE (env:List (Nat × AV)):Operand->AV
 | .tmp t=>lk env t
 | .const v=>ofV v
 | .func f=>.clo (.func f) []
 | .global g=>gAV g
def putE (env:List (Nat × AV)) (dst:Option Nat) (v:AV):List (Nat × AV) :=
 match dst with
 | some d=>(d,v)::env
 | none=>env
def okD (n:Nat):Option Nat->Prop
 | some d=>d<n
 | none=>True
theorem toT_getD {n:Nat} {env:List (Nat × AV)} (hk:KeysOk n env) (t:Nat):(toT n env).getD t .junk=lk env t:=by
 unfold toT
 by_cases h:t<n
 ·rw [List.getD_eq_getElem?_getD,List.getElem?_eq_getElem (by simpa using h)];simp
 ·rw [List.getD_eq_getElem?_getD,List.getElem?_eq_none (by simp;omega)]
  exact (hk t (by omega)).symm
theorem ev_toT {n:Nat} {env:List (Nat × AV)} (hk:KeysOk n env):St.ev (toT n env)=evE env:=by
 funext x
 cases x with
 | tmp t=>exact toT_getD hk t
 | _=>rfl
theorem put_toT {n:Nat} {env:List (Nat × AV)} {dst:Option Nat} (hd:okD n dst) (v:AV):St.put (toT n env) dst v=toT n (putE env dst v):=by
 cases dst with
 | none=>rfl
 | some d =>
  have hd:d<n:=hd
  refine getD_ext (by rw [put_len];simp [toT]) fun t ht=>?_
  rw [put_len] at ht
  have ht':t<n:=by simpa [toT] using ht
  rw [put_getD ht]
  have e:∀ env,(toT n env).getD t .junk=lk env t:=by
   intro env
   unfold toT
   rw [List.getD_eq_getElem?_getD,List.getElem?_eq_getElem (by simpa using ht')];simp
  rw [e,e]
  simp only [putE,lk,Option.some.injEq]
theorem keys_put {n:Nat} {env:List (Nat × AV)} (hk:KeysOk n env) {dst:Option Nat} (hd:okD n dst) (v:AV):KeysOk n (putE env dst v):=by
 cases dst with
 | none=>exact hk
 | some d =>
  have hd:d<n:=hd
  intro t ht
  simp only [putE,lk]
  rw [if_neg (fun e=>absurd hd (by rw [e];exact Nat.not_lt.2 ht))];exact hk t ht
def RstepE (P:Program) (n:Nat) (c:COper) (K:Est->Prop) (s:Est):Prop :=
 match c.op with
 | .call f args=>okD n c.dst/\∃ r objs',CallM P true s.objs (evE s.env f) (args.map (evE s.env)) r objs'/\K ⟨putE s.env c.dst r,objs'⟩
 | op=>match step1 s.objs (evE s.env) op with
  | some (r,objs)=>okD n c.dst/\K ⟨putE s.env c.dst r,objs⟩
  | none=>False
def RopsE (P:Program) (n:Nat):List COper->(Est->Prop)->Est->Prop
 | [],K,s=>K s
 | c::rest,K,s =>
  match c.guard with
  | none=>RstepE P n c (RopsE P n rest K) s
  | some (t,want)=>match gdB (lk s.env t) with
   | some b=>(b=some want->RstepE P n c (RopsE P n rest K) s)/\(b ≠ some want->okD n c.dst/\RopsE P n rest K ⟨putE s.env c.dst nov,s.objs⟩)
   | none=>False
def LiftE (n:Nat) (K:Est->Prop) (st:St):Prop:=∃ s,K s/\KeysOk n s.env/\st=s.toSt n
theorem ropsE_ok {n:Nat} {K:Est->Prop}:∀ (cs:List COper) (s:Est),KeysOk n s.env->RopsE P n cs K s->Rops P cs (LiftE n K) (s.toSt n)
 | [],s,hk,h=>⟨s,h,hk,rfl⟩
 | c::rest,s,hk,h=>by
  have step:RstepE P n c (RopsE P n rest K) s->Rstep P c (Rops P rest (LiftE n K)) (s.toSt n):=by
   intro h
   have plain:∀ op,op=c.op->(match step1 s.objs (evE s.env) op with | some (r,objs)=>okD n c.dst/\RopsE P n rest K ⟨putE s.env c.dst r,objs⟩ | none=>False) ->
    (match step1 s.objs (St.ev (toT n s.env)) op with | some (r,objs)=>Rops P rest (LiftE n K) ⟨St.put (toT n s.env) c.dst r,objs⟩ | none=>False):=by
    rintro op rfl h
    rw [ev_toT hk]
    split at h
    ·rename_i r objs' hq
     rw [put_toT h.1]
     exact ropsE_ok rest ⟨_,_⟩ (keys_put hk h.1 r) h.2
    ·exact h.elim
   unfold RstepE at h
   unfold Rstep
   split at h
   ·rename_i f args hop
    simp only [hop]
    obtain ⟨hd,r,objs',hc,hK⟩:=h
    refine ⟨r,objs',?_,?_⟩
    ·show CallM P true s.objs (St.ev (toT n s.env) f) (args.map (St.ev (toT n s.env))) r objs'
     rw [ev_toT hk];exact hc
    ·show Rops P rest (LiftE n K) ⟨St.put (toT n s.env) c.dst r,objs'⟩
     rw [put_toT hd]
     exact ropsE_ok rest ⟨_,_⟩ (keys_put hk hd r) hK
   ·rename_i op hne
    have:=plain _ rfl h
    split
    ·rename_i f args hop
     exact absurd hop (hne f args)
    ·exact this
  simp only [RopsE] at h
  simp only [Rops]
  cases hg:c.guard with
  | none=>rw [hg] at h;exact step h
  | some q =>
   obtain ⟨t,want⟩:=q
   rw [hg] at h
   simp only at h ⊢
   have e:(s.toSt n).tmps.getD t .junk=lk s.env t:=toT_getD hk t
   rw [e]
   split at h
   ·rename_i b hb
    rw [hb]
    refine ⟨fun hw=>step (h.1 hw),fun hw=>?_⟩
    obtain ⟨hd,h2⟩:=h.2 hw
    show Rops P rest (LiftE n K) ⟨St.put (toT n s.env) c.dst nov,s.objs⟩
    rw [put_toT hd]
    exact ropsE_ok rest ⟨_,_⟩ (keys_put hk hd _) h2
   ·exact h.elim
def LatesE (s:Est):List COper->Prop
 | []=>True
 | l::ls=>(match l.dst with
  | some t=>qstep s.objs (evE s.env) 0 l.op=some (lk s.env t,none)
  | none=>False)/\LatesE s ls
theorem latesE_ok {n:Nat} {s:Est} (hk:KeysOk n s.env):∀ {ls:List COper},LatesE s ls->LatesOk (s.toSt n) ls
 | [],_=>trivial
 | l::ls,h=>by
  refine ⟨?_,latesE_ok hk h.2⟩
  have h1:=h.1
  split at h1
  ·rename_i t hd
   refine ⟨t,hd,?_⟩
   show qstep s.objs (St.ev (toT n s.env)) 0 l.op=some ((toT n s.env).getD t .junk,none)
   rw [ev_toT hk,toT_getD hk];exact h1
  ·exact h1.elim
def RopsLE (P:Program) (n:Nat):List (COper × List COper)->(Est->Prop)->Est->Prop
 | [],K,s=>K s
 | (c,ls)::rest,K,s =>
  match c.guard with
  | none=>RstepE P n c (fun s=>LatesE s ls/\RopsLE P n rest K s) s
  | some (t,want)=>match gdB (lk s.env t) with
   | some b=>(b=some want->RstepE P n c (fun s=>LatesE s ls/\RopsLE P n rest K s) s) /\
    (b ≠ some want->okD n c.dst/\LatesE ⟨putE s.env c.dst nov,s.objs⟩ ls/\RopsLE P n rest K ⟨putE s.env c.dst nov,s.objs⟩)
   | none=>False
theorem rstepE_ok {n:Nat} {c:COper} {K:Est->Prop} {K':St->Prop} {s:Est} (hk:KeysOk n s.env) (hK:∀ s,KeysOk n s.env->K s->K' (s.toSt n)) (h:RstepE P n c K s):Rstep P c K' (s.toSt n):=by
 have plain:∀ op,op=c.op->(match step1 s.objs (evE s.env) op with | some (r,objs)=>okD n c.dst/\K ⟨putE s.env c.dst r,objs⟩ | none=>False) ->
  (match step1 s.objs (St.ev (toT n s.env)) op with | some (r,objs)=>K' ⟨St.put (toT n s.env) c.dst r,objs⟩ | none=>False):=by
  rintro op rfl h
  rw [ev_toT hk]
  split at h
  ·rename_i r objs' hq
   rw [put_toT h.1]
   exact hK ⟨_,_⟩ (keys_put hk h.1 r) h.2
  ·exact h.elim
 unfold RstepE at h
 unfold Rstep
 generalize c.op=op at *
 cases op with
 | call f args =>
  obtain ⟨hd,r,objs',hc,hKr⟩:=h
  refine ⟨r,objs',?_,?_⟩
  ·show CallM P true s.objs (St.ev (toT n s.env) f) (args.map (St.ev (toT n s.env))) r objs'
   rw [ev_toT hk];exact hc
  ·show K' ⟨St.put (toT n s.env) c.dst r,objs'⟩
   rw [put_toT hd]
   exact hK ⟨_,_⟩ (keys_put hk hd r) hKr
 | _=>exact plain _ rfl h
theorem ropsLE_ok {n:Nat} {K:Est->Prop}:∀ (cs:List (COper × List COper)) (s:Est),KeysOk n s.env->RopsLE P n cs K s->RopsL P cs (LiftE n K) (s.toSt n)
 | [],s,hk,h=>⟨s,h,hk,rfl⟩
 | (c,ls)::rest,s,hk,h=>by
  have next:∀ s:Est,KeysOk n s.env->LatesE s ls/\RopsLE P n rest K s->LatesOk (s.toSt n) ls/\RopsL P rest (LiftE n K) (s.toSt n):=fun s hk h=>⟨latesE_ok hk h.1,ropsLE_ok rest s hk h.2⟩
  simp only [RopsLE] at h
  simp only [RopsL]
  cases hg:c.guard with
  | none=>rw [hg] at h;exact rstepE_ok hk next h
  | some q =>
   obtain ⟨t,want⟩:=q
   rw [hg] at h
   simp only at h ⊢
   have e:(s.toSt n).tmps.getD t .junk=lk s.env t:=toT_getD hk t
   rw [e]
   split at h
   ·rename_i b hb
    rw [hb]
    refine ⟨fun hw=>rstepE_ok hk next (h.1 hw),fun hw=>?_⟩
    obtain ⟨hd,h2⟩:=h.2 hw
    show LatesOk ⟨St.put (toT n s.env) c.dst nov,s.objs⟩ ls/\RopsL P rest (LiftE n K) ⟨St.put (toT n s.env) c.dst nov,s.objs⟩
    rw [put_toT hd]
    exact next ⟨_,_⟩ (keys_put hk hd _) h2
   ·exact h.elim
def QopsE (P:Program) (n:Nat) (objs0:List AObj):List COper->(List (Nat × AV)->List AObj->Prop)->List (Nat × AV)->List AObj->Prop
 | [],K,env,cr=>K env cr
 | c::rest,K,env,cr =>
  let go:Prop:=match c.op with
   | .call f args=>okD n c.dst/\∃ r objs',CallM P false objs0 (evE env f) (args.map (evE env)) r objs'/\callX objs0 objs' cr (QopsE P n objs0 rest K (putE env c.dst r))
   | op=>match qstepK (objs0++cr) objs0 (evE env) (objs0.length+cr.length) op with
    | some (r,none)=>okD n c.dst/\QopsE P n objs0 rest K (putE env c.dst r) cr
    | some (r,some o)=>okD n c.dst/\QopsE P n objs0 rest K (putE env c.dst r) (cr++[o])
    | none=>False
  match c.guard with
  | none=>go
  | some (t,want)=>match gdB (lk env t) with
   | some b=>(b=some want->go)/\(b ≠ some want->okD n c.dst/\QopsE P n objs0 rest K (putE env c.dst nov) cr)
   | none=>False
theorem qopsE_ok {n:Nat} {K:List (Nat × AV)->List AObj->Prop}:∀ (cs:List COper) (env:List (Nat × AV)) (cr:List AObj),KeysOk n env->QopsE P n objs0 cs K env cr ->
 Qops P objs0 cs (fun tmps cr=>∃ env,KeysOk n env/\tmps=toT n env/\K env cr) (toT n env) cr
 | [],env,cr,hk,h=>⟨env,hk,rfl,h⟩
 | c::rest,env,cr,hk,h=>by
  have ih:=fun (env:List (Nat × AV)) (cr:List AObj) (hk:KeysOk n env) (h:QopsE P n objs0 rest K env cr)=>qopsE_ok (K:=K) rest env cr hk h
  have plain:∀ op,op=c.op->(match qstepK (objs0++cr) objs0 (evE env) (objs0.length+cr.length) op with
   | some (r,none)=>okD n c.dst/\QopsE P n objs0 rest K (putE env c.dst r) cr
   | some (r,some o)=>okD n c.dst/\QopsE P n objs0 rest K (putE env c.dst r) (cr++[o])
   | none=>False)->(match qstepK (objs0++cr) objs0 (St.ev (toT n env)) (objs0.length+cr.length) op with
   | some (r,none)=>Qops P objs0 rest (fun tmps cr=>∃ env,KeysOk n env/\tmps=toT n env/\K env cr) (St.put (toT n env) c.dst r) cr
   | some (r,some o)=>Qops P objs0 rest (fun tmps cr=>∃ env,KeysOk n env/\tmps=toT n env/\K env cr) (St.put (toT n env) c.dst r) (cr++[o])
   | none=>False):=by
   rintro op rfl h
   rw [ev_toT hk]
   split at h
   ·rename_i r hq
    rw [put_toT h.1];exact ih _ _ (keys_put hk h.1 r) h.2
   ·rename_i r o hq
    rw [put_toT h.1];exact ih _ _ (keys_put hk h.1 r) h.2
   ·exact h.elim
  have go:(match c.op with
   | .call f args=>okD n c.dst/\∃ r objs',CallM P false objs0 (evE env f) (args.map (evE env)) r objs'/\callX objs0 objs' cr (QopsE P n objs0 rest K (putE env c.dst r))
   | op=>match qstepK (objs0++cr) objs0 (evE env) (objs0.length+cr.length) op with
    | some (r,none)=>okD n c.dst/\QopsE P n objs0 rest K (putE env c.dst r) cr
    | some (r,some o)=>okD n c.dst/\QopsE P n objs0 rest K (putE env c.dst r) (cr++[o])
    | none=>False)->(match c.op with
   | .call f args=>∃ r no,CallQ P objs0 (objs0.length+cr.length) (St.ev (toT n env) f) (args.map (St.ev (toT n env))) r no/\Qops P objs0 rest (fun tmps cr=>∃ env,KeysOk n env/\tmps=toT n env/\K env cr) (St.put (toT n env) c.dst r) (cr++no)
   | op=>match qstepK (objs0++cr) objs0 (St.ev (toT n env)) (objs0.length+cr.length) op with
    | some (r,none)=>Qops P objs0 rest (fun tmps cr=>∃ env,KeysOk n env/\tmps=toT n env/\K env cr) (St.put (toT n env) c.dst r) cr
    | some (r,some o)=>Qops P objs0 rest (fun tmps cr=>∃ env,KeysOk n env/\tmps=toT n env/\K env cr) (St.put (toT n env) c.dst r) (cr++[o])
    | none=>False):=by
   intro h
   generalize c.op=op at *
   cases op with
   | call f args =>
    obtain ⟨hd,r,objs',hc,hX⟩:=h
    obtain ⟨no,hq,hK⟩:=hc.cq hX
    exact ⟨r,no,by rw [ev_toT hk];exact hq,by rw [put_toT hd];exact ih _ _ (keys_put hk hd r) hK⟩
   | _=>exact plain _ rfl h
  simp only [QopsE] at h
  simp only [Qops]
  cases hg:c.guard with
  | none=>rw [hg] at h;exact go h
  | some q =>
   obtain ⟨t,want⟩:=q
   rw [hg] at h
   simp only at h ⊢
   rw [toT_getD hk]
   split at h
   ·rename_i b hb
    rw [hb]
    refine ⟨fun hw=>go (h.1 hw),fun hw=>?_⟩
    obtain ⟨hd,h2⟩:=h.2 hw
    rw [put_toT hd];exact ih _ _ (keys_put hk hd _) h2
   ·exact h.elim
def LiftX (n:Nat) (Q:Exit->Est->Prop):Exit->St->Prop:=fun e st=>LiftE n (Q e) st
def CwpE (P:Program) (F0:FD) (w0:World) (n:Nat) (c:CCode) (Q:Exit->Est->Prop) (s:Est):Prop:=KeysOk n s.env->Cwp P F0 w0 c (LiftX n Q) (s.toSt n)
def thenE (K:Est->Prop) (Q:Exit->Est->Prop):Exit->Est->Prop
 | .normal,s=>K s
 | e,s=>Q e s
def inBlockE (id:Nat) (Q:Exit->Est->Prop):Exit->Est->Prop
 | .exit i,s=>if i=id then Q .normal s else Q (.exit i) s
 | e,s=>Q e s
def noGotoE (Q:Exit->Est->Prop):Exit->Est->Prop
 | .goto _,_=>False
 | e,s=>Q e s
def RGE (P:Program) (n:Nat) (c:COper) (K:Est->Prop) (s:Est):Prop :=
 match c.guard with
 | none=>RstepE P n c K s
 | some (t,want)=>match gdB (lk s.env t) with
  | some b=>(b=some want->RstepE P n c K s)/\(b ≠ some want->okD n c.dst/\K ⟨putE s.env c.dst nov,s.objs⟩)
  | none=>False
def RTE (P:Program) (n:Nat):PT->(Est->Prop)->Est->Prop
 | .done,K,s=>K s
 | .stop,_,_=>True
 | .alt c ls sub next,K,s=>RGE P n c (fun s=>LatesE s ls/\RTE P n sub K s) s/\RTE P n next K s
theorem rtE_ok {n:Nat} {K:Est->Prop}:∀ (t:PT) (s:Est),KeysOk n s.env->RTE P n t K s->RT P t (LiftE n K) (s.toSt n)
 | .done,s,hk,h=>⟨s,h,hk,rfl⟩
 | .stop,_,_,_=>trivial
 | .alt c ls sub next,s,hk,h=>by
  refine ⟨?_,rtE_ok next s hk h.2⟩
  have h:=h.1
  simp only [RGE] at h
  simp only [RG]
  cases hg:c.guard with
  | none=>rw [hg] at h;exact rstepE_ok hk (fun s hk h=>⟨latesE_ok hk h.1,rtE_ok sub s hk h.2⟩) h
  | some q =>
   obtain ⟨t,want⟩:=q
   rw [hg] at h
   simp only at h ⊢
   have e:(s.toSt n).tmps.getD t .junk=lk s.env t:=toT_getD hk t
   rw [e]
   split at h
   ·rename_i b hb
    rw [hb]
    refine ⟨fun hw=>rstepE_ok hk (fun s hk h=>⟨latesE_ok hk h.1,rtE_ok sub s hk h.2⟩) (h.1 hw),fun hw=>?_⟩
    obtain ⟨hd,h2⟩:=h.2 hw
    show LatesOk ⟨St.put (toT n s.env) c.dst nov,s.objs⟩ ls/\RT P sub (LiftE n K) ⟨St.put (toT n s.env) c.dst nov,s.objs⟩
    rw [put_toT hd]
    exact ⟨latesE_ok (s:=⟨_,_⟩) (keys_put hk hd _) h2.1,rtE_ok sub ⟨_,_⟩ (keys_put hk hd _) h2.2⟩
   ·exact h.elim
def vcE (P:Program) (F0:FD) (w0:World) (n:Nat):CCode->(Exit->Est->Prop)->Est->Prop
 | .skip,Q,s=>Q .normal s
 | .region cs,Q,s=>RopsE P n cs (Q .normal) s
 | .drawn pre post,Q,s=>QopsE P n s.objs pre (fun env cr=>RopsLE P n post (Q .normal) ⟨env,s.objs++cr⟩) s.env []
 | .cut pre post t,Q,s=>QopsE P n s.objs pre (fun env cr=>RopsLE P n post (RTE P n t (Q .normal)) ⟨env,s.objs++cr⟩) s.env []
 | .seq a b,Q,s=>vcE P F0 w0 n a (thenE (vcE P F0 w0 n b Q) Q) s
 | .cond c a b,Q,s=>match asB (evE s.env c) with
  | some t=>(t=true->vcE P F0 w0 n a Q s)/\(t=false->vcE P F0 w0 n b Q s)
  | none=>False
 | .block id b,Q,s=>vcE P F0 w0 n b (inBlockE id Q) s
 | .loop b,Q,s=>CwpE P F0 w0 n (.loop b) Q s
 | .rangeF g ps a b,Q,s=>CwpE P F0 w0 n (.rangeF g ps a b) Q s
 | .exit id,Q,s=>Q (.exit id) s
 | .scope b,Q,s=>vcE P F0 w0 n b (noGotoE Q) s
 | .ret,Q,s=>Q .ret s
theorem vcE_ok {n:Nat}:∀ (c:CCode) (Q:Exit->Est->Prop) (s:Est),KeysOk n s.env->vcE P F0 w0 n c Q s->vc P F0 w0 c (LiftX n Q) (s.toSt n):=by
 have rstep:∀ (c:COper) {K K':St->Prop} (st:St),(∀ s,K s->K' s)->Rstep P c K st->Rstep P c K' st:=by
  intro c K K' st h h2
  unfold Rstep at h2 ⊢
  split at h2
  ·obtain ⟨r,o3,h3,h4⟩:=h2;exact ⟨r,o3,h3,h _ h4⟩
  ·split at h2
   ·exact h _ h2
   ·exact h2
 have rlmono:∀ (cs:List (COper × List COper)) {K K':St->Prop} (st:St),(∀ s,K s->K' s)->RopsL P cs K st->RopsL P cs K' st:=by
  intro cs
  induction cs with
  | nil=>intro K K' st h hh;exact h _ hh
  | cons cl rest ih =>
   intro K K' st h hh
   obtain ⟨c,ls⟩:=cl
   simp only [RopsL] at hh ⊢
   split at hh
   ·exact rstep c st (fun s hs=>⟨hs.1,ih s h hs.2⟩) hh
   ·split at hh
    ·exact ⟨fun e=>rstep c st (fun s hs=>⟨hs.1,ih s h hs.2⟩) (hh.1 e),fun e=>⟨(hh.2 e).1,ih _ h (hh.2 e).2⟩⟩
    ·exact hh
 have qmono:∀ (s:Est) (cs:List COper) {K K':List AV->List AObj->Prop} (tmps:List AV) (cr:List AObj),(∀ t c,K t c->K' t c)->Qops P s.objs cs K tmps cr->Qops P s.objs cs K' tmps cr:=by
  intro s cs
  induction cs with
  | nil=>intro K K' tmps cr h hh;exact h _ _ hh
  | cons c rest ih =>
   intro K K' tmps cr h hh
   simp only [Qops] at hh ⊢
   split at hh
   ·split at hh
    ·obtain ⟨r,no,h3,h4⟩:=hh;exact ⟨r,no,h3,ih _ _ h h4⟩
    ·split at hh <;> first | exact ih _ _ h hh | exact hh
   ·split at hh
    ·refine ⟨fun e=>?_,fun e=>ih _ _ h (hh.2 e)⟩
     have hh1:=hh.1 e
     split at hh1
     ·obtain ⟨r,no,h3,h4⟩:=hh1;exact ⟨r,no,h3,ih _ _ h h4⟩
     ·split at hh1 <;> first | exact ih _ _ h hh1 | exact hh1
    ·exact hh
 intro c
 induction c with
 | skip=>intro Q s hk h;exact ⟨s,h,hk,rfl⟩
 | region cs=>intro Q s hk h;exact ropsE_ok cs s hk h
 | drawn pre post =>
  intro Q s hk h
  have h1:=qopsE_ok pre s.env [] hk h
  refine vc_mono (.drawn pre post) (Q:=LiftX n Q) _ (fun _ _ h=>h) ?_
  refine qmono s pre _ _ ?_ h1
  rintro _ cr ⟨env,hk',rfl,hR⟩
  exact ropsLE_ok post ⟨env,s.objs++cr⟩ hk' hR
 | cut pre post t =>
  intro Q s hk h
  have h1:=qopsE_ok pre s.env [] hk h
  refine vc_mono (.cut pre post t) (Q:=LiftX n Q) _ (fun _ _ h=>h) ?_
  refine qmono s pre _ _ ?_ h1
  rintro _ cr ⟨env,hk',rfl,hR⟩
  refine rlmono post _ ?_ (ropsLE_ok post ⟨env,s.objs++cr⟩ hk' hR)
  rintro st ⟨s',h',hk',rfl⟩
  exact rtE_ok t s' hk' h'
 | seq a b iha ihb =>
  intro Q s hk h
  refine vc_mono a (s.toSt n) ?_ (iha _ s hk h)
  rintro e st ⟨s',hq,hk',rfl⟩
  cases e with
  | normal=>exact ihb Q s' hk' hq
  | _=>exact ⟨s',hq,hk',rfl⟩
 | cond c a b iha ihb =>
  intro Q s hk h
  simp only [vcE] at h
  simp only [vc]
  show match asB (St.ev (toT n s.env) c) with | some t=>_ | none=>False
  rw [ev_toT hk]
  split at h
  ·exact ⟨fun e=>iha Q s hk (h.1 e),fun e=>ihb Q s hk (h.2 e)⟩
  ·exact h.elim
 | block id b ih =>
  intro Q s hk h
  refine vc_mono b (s.toSt n) ?_ (ih _ s hk h)
  rintro e st ⟨s',hq,hk',rfl⟩
  cases e with
  | exit i =>
   simp only [inBlockE] at hq
   simp only [inBlock]
   split
   ·rename_i e;rw [if_pos e] at hq;exact ⟨s',hq,hk',rfl⟩
   ·rename_i e;rw [if_neg e] at hq;exact ⟨s',hq,hk',rfl⟩
  | _=>exact ⟨s',hq,hk',rfl⟩
 | loop b=>intro Q s hk h;exact h hk
 | rangeF g ps a b ih=>intro Q s hk h;exact h hk
 | exit id=>intro Q s hk h;exact ⟨s,h,hk,rfl⟩
 | scope b ih =>
  intro Q s hk h
  refine vc_mono b (s.toSt n) ?_ (ih _ s hk h)
  rintro e st ⟨s',hq,hk',rfl⟩
  cases e with
  | goto l=>exact hq.elim
  | _=>exact ⟨s',hq,hk',rfl⟩
 | ret=>intro Q s hk h;exact ⟨s,h,hk,rfl⟩
def WkE (n:Nat) (s s':Est):Prop:=KeysOk n s.env->KeysOk n s'.env/\Wk (s.toSt n) (s'.toSt n)
theorem WkE.refl (n:Nat) (s:Est):WkE n s s:=fun h=>⟨h,.refl _⟩
theorem WkE.trans {n:Nat} {a b c:Est} (h:WkE n a b) (k:WkE n b c):WkE n a c:=fun hk=>⟨(k (h hk).1).1,(h hk).2.trans (k (h hk).1).2⟩
def RoundE (n:Nat) (I:Nat->Est->Prop) (k:Nat) (Q:Exit->Est->Prop):Exit->Est->Prop:=thenE (fun s=>∃ m s',m<k/\WkE n s s'/\I m s') Q
theorem loopE {n:Nat} {b:CCode} {Q:Exit->Est->Prop} {s:Est} (I:Nat->Est->Prop) (k:Nat) (s0:Est) (hw:WkE n s s0) (h0:I k s0) (round:∀ k s,I k s->vcE P F0 w0 n b (RoundE n I k Q) s):CwpE P F0 w0 n (.loop b) Q s:=by
 intro hk
 refine Cwp.loop (fun k st=>∃ s,I k s/\KeysOk n s.env/\st=s.toSt n) k (hw hk).2 ⟨s0,h0,(hw hk).1,rfl⟩ ?_
 rintro k st ⟨s,hI,hk,rfl⟩
 refine vc_mono b (s.toSt n) ?_ (vcE_ok b _ s hk (round k s hI))
 rintro e st ⟨s',hq,hk',rfl⟩
 cases e with
 | normal =>
  obtain ⟨m,s'',hm,hwk,hI'⟩:=hq
  exact ⟨m,_,hm,(hwk hk').2,s'',hI',(hwk hk').1,rfl⟩
 | _=>exact ⟨s',hq,hk',rfl⟩
def resE (s:Est):CRes->Option AV
 | .tmp t=>some (lk s.env t)
 | .cell a ag n=>do
  let cs <-cellsAt s.objs (lk s.env a)
  if ag then if n<=cs.length then some (AV.agg (cs.take n)) else none else cs[0]?
def resAllE (s:Est) (rs:List CRes):Option AV :=
 (rs.mapM (resE s)).map fun
  | [x]=>x
  | xs=>.tup xs
def retE (rs:List CRes) (r:AV):Exit->Est->Prop
 | .normal,s=>∃ y,resAllE s rs=some y/\Snap s.objs y r
 | .ret,s=>∃ y,resAllE s rs=some y/\Snap s.objs y r
 | _,_=>False
def envOf:Nat->List AV->List (Nat × AV)
 | _,[]=>[]
 | k,x::xs=>(k,x)::envOf (k+1) xs
theorem lk_envOf:∀ (xs:List AV) (k t:Nat),lk (envOf k xs) t=if k<=t then xs.getD (t-k) .junk else .junk
 | [],k,t=>by simp [envOf,lk]
 | x::xs,k,t=>by
  simp only [envOf,lk]
  rw [lk_envOf xs (k+1) t]
  by_cases h:k=t
  ·subst h;simp
  ·rw [if_neg h]
   by_cases h2:k<=t
   ·rw [if_pos (by omega),if_pos h2,show t-k=(t-(k+1))+1 from by omega];simp
   ·rw [if_neg (by omega),if_neg h2]
theorem specE {f:FuncId} {c:CCode} {n:Nat} {rs:List CRes} (hf:fnC P f=some (c,n,rs)) {xs:List AV} (hn:xs.length<=n) {r:AV} (h:∀ F0 w0,vcE P F0 w0 n c (retE rs r) ⟨envOf 0 xs,[]⟩):Ctr P f xs r:=by
 refine spec_of hf fun F0 w0=>?_
 have hk:KeysOk n (envOf 0 xs):=by
  intro t ht
  rw [lk_envOf,if_pos (Nat.zero_le _),List.getD_eq_getElem?_getD,List.getElem?_eq_none (by omega)];rfl
 have e:(⟨xs++List.replicate (n-xs.length) .junk,[]⟩:St)=(⟨envOf 0 xs,[]⟩:Est).toSt n:=by
  unfold Est.toSt
  congr 1
  refine getD_ext (by simp [toT];omega) fun t ht=>?_
  rw [toT_getD hk,lk_envOf,if_pos (Nat.zero_le _),Nat.sub_zero]
  rw [List.getD_eq_getElem?_getD,List.getD_eq_getElem?_getD,List.getElem?_append]
  split
  ·rfl
  ·rename_i h1
   rw [List.getElem?_replicate,List.getElem?_eq_none (by omega)]
   split <;> rfl
 rw [e]
 refine vc_mono c _ ?_ (vcE_ok c _ _ hk (h F0 w0))
 rintro e st ⟨s,hq,hk',rfl⟩
 have hr:∀ x,resA (s.toSt n) x=resE s x:=by
  intro x
  cases x with
  | tmp t=>simp only [resA,resE];rw [show (s.toSt n).tmps=toT n s.env from rfl,toT_getD hk']
  | cell a ag m=>simp only [resA,resE];rw [show (s.toSt n).tmps=toT n s.env from rfl,toT_getD hk'];rfl
 have hra:∀ rs,resAll (s.toSt n) rs=resAllE s rs:=by
  intro rs;unfold resAll resAllE;rw [show resA (s.toSt n)=resE s from funext hr]
  cases rs.mapM (resE s) with
  | none=>rfl
  | some ys=>cases ys with
   | nil=>rfl
   | cons y ys=>cases ys <;> rfl
 cases e with
 | normal=>simp only [retQ];rw [hra];exact hq
 | ret=>simp only [retQ];rw [hra];exact hq
 | _=>exact hq
end Dak
namespace Dak
open Go Go.RowKit
variable [Globs]
variable {P : Program} {F0 : FD} {w0 w : World} {L : Lay} {objs objs0 : List AObj} {nid : Nat}
def Agree (env:List (Nat × AV)):List (Nat × AV)->Prop
 | []=>True
 | (k,v)::r=>lk env k=v/\Agree env r
theorem agree_lk {env:List (Nat × AV)}:∀ (env':List (Nat × AV)),Agree env env'->∀ t,lk env' t = .junk \/ lk env' t=lk env t
 | [],_,t=>.inl rfl
 | (k,v)::r,h,t=>by
  simp only [lk]
  split
  ·rename_i e;subst e;exact .inr h.1.symm
  ·exact agree_lk r h.2 t
theorem sim_slots {n:Nat} {s:Est} {a:Act} (hk:KeysOk n s.env) (h:Sim F0 w0 (s.toSt n) a w) :
 a.defers=F0.ds/\∃ L,Good F0 w0 w L s.objs/\a.tmps.size=n/\∀ t,t<n->VR w L s.objs (lk s.env t) (a.tmps.getD t undef):=by
 obtain ⟨hd,L,g,hs,ht⟩:=h
 refine ⟨hd,L,g,by simpa [Est.toSt,toT] using hs,fun t h=>?_⟩
 have:=ht t (by simpa [Est.toSt,toT] using h)
 simpa [Est.toSt,toT] using this
theorem sim_mk {n:Nat} {s:Est} {a:Act} (hd:a.defers=F0.ds) (g:Good F0 w0 w L s.objs) (hs:a.tmps.size=n) (ht:∀ t,t<n->VR w L s.objs (lk s.env t) (a.tmps.getD t undef)):Sim F0 w0 (s.toSt n) a w :=
 ⟨hd,L,g,by simp [Est.toSt,toT,hs],fun t h=>by
  have h':t<n:=by simpa [Est.toSt,toT] using h
  simpa [Est.toSt,toT] using ht t h'⟩
theorem WkE.keep {n:Nat} {env env':List (Nat × AV)} {objs:List AObj} (h:Agree env env'):WkE n ⟨env,objs⟩ ⟨env',objs⟩:=by
 intro hk
 refine ⟨fun t ht=>?_,fun F0 w0 a w hs=>?_⟩
 ·rcases agree_lk env' h t with h1 | h1
  ·exact h1
  ·rw [h1];exact hk t ht
 ·obtain ⟨hd,L,g,hs,ht⟩:=sim_slots hk hs
  refine sim_mk (s:=⟨env',objs⟩) hd g hs fun t h'=>?_
  rcases agree_lk env' h t with h1 | h1
  ·show VR w L objs (lk env' t) _
   rw [h1];exact .junk _
  ·show VR w L objs (lk env' t) _
   rw [h1];exact ht t h'
theorem WkE.drop {n:Nat} {env:List (Nat × AV)} {objs:List AObj} (m:Nat) (he:∀ p ∈ env,p.2.inn m=true) (ho:∀ o ∈ objs.take m,o.innO m=true):WkE n ⟨env,objs⟩ ⟨env,objs.take m⟩:=by
 intro hk
 refine ⟨hk,fun F0 w0 a w hs=>?_⟩
 obtain ⟨hd,L,g,hs,ht⟩:=sim_slots hk hs
 have hle:∀ t,(lk env t).inn m=true:=by
  intro t
  have:∀ env:List (Nat × AV),(∀ p ∈ env,p.2.inn m=true)->(lk env t).inn m=true:=by
   intro env
   induction env with
   | nil=>intro _;rfl
   | cons p env ih =>
    intro h
    simp only [lk]
    split
    ·exact h p (by simp)
    ·exact ih fun q hq=>h q (by simp [hq])
  exact this env he
 exact sim_mk (s:=⟨env,objs.take m⟩) (L:=L.cut m) hd (good_drop g m ho) hs fun t h=>below_vr (L:=L) (L':=L.cut m) (fun _ h=>h) (fun id h=>if_pos h) (ht t h) (hle t)
theorem WkE.round {n:Nat} {env env':List (Nat × AV)} {objs objs':List AObj} (h:Agree env env') (he:(env'.all fun p=>p.2.inn objs'.length)=true) (ho:(objs'.all fun o=>o.innO objs'.length)=true) (hp:objs.take objs'.length=objs') :
 WkE n ⟨env,objs⟩ ⟨env',objs'⟩:=by
 refine (WkE.keep h).trans ?_
 have:=WkE.drop (n:=n) (env:=env') (objs:=objs) objs'.length (fun p hp=>List.all_eq_true.1 he p hp) (fun o ho'=>by rw [hp] at ho';exact List.all_eq_true.1 ho o ho')
 rwa [hp] at this
theorem WkE.nil {n:Nat} {env:List (Nat × AV)} {objs:List AObj} (k size:Nat) (elem:TypeId) (hkn:k<n) (h:lk env k = .val (.slice none 0 0)):WkE n ⟨env,objs⟩ ⟨(k,.own objs.length 0 0 0)::env,objs++[.arr 0 size elem []]⟩:=by
 intro hk
 refine ⟨fun t ht=>?_,fun F0 w0 a w hs=>?_⟩
 ·simp only [lk];rw [if_neg (by omega)];exact hk t ht
 ·obtain ⟨hd,L,g,hs,ht⟩:=sim_slots hk hs
  obtain ⟨gv,hlv⟩:=good_void g
  have hvd:(objs++[AObj.void])[objs.length]? = some .void:=by simp
  have hl2:Later w L (objs++[AObj.void]) w L ((objs++[AObj.void]).set objs.length (.arr 0 size elem [])):=by
   refine ⟨fun b hF hb=>⟨rfl,hF⟩,stale_set hvd,fun i g' s' hl=>.inr ⟨?_,rfl⟩⟩
   have hne:objs.length ≠ i:=by rintro rfl;obtain ⟨e',xs,h⟩:=hl;rw [hvd] at h;simp at h
   unfold live at hl ⊢
   rwa [List.getElem?_set_ne hne]
  have hl:=hlv.trans hl2
  rw [set_void] at hl
  have hg:Good F0 w0 w L (objs++[.arr 0 size elem []]):=by
   refine ⟨fun id o ho=>?_,fun id hid=>g.out id (by have hid':(objs++[AObj.arr 0 size elem []]).length<=id:=hid;rw [List.length_append] at hid';show objs.length<=id;omega),g.inj,g.own,g.old,g.ext,g.gl⟩
   by_cases hlt:id<objs.length
   ·rw [List.getElem?_append_left hlt] at ho
    have:=g.obj id o ho
    cases o with
    | void=>exact this
    | dead=>exact this
    | probe k st li bk ps=>exact this.probe_stay hl rfl
    | arr gen size elem xs =>
     unfold OR at this ⊢
     cases hbk:L.blk id with
     | none=>rw [hbk] at this;exact this
     | some q =>
      obtain ⟨b,o',n⟩:=q
      rw [hbk] at this
      obtain ⟨cur,hc,hn,hr⟩:=this
      exact ⟨cur,hc,hn,hr.stay hl⟩
   ·have hid:id=objs.length:=by
     have:=(List.getElem?_eq_some_iff.1 ho).1
     simp at this;omega
    subst hid
    simp at ho;subst ho
    unfold OR
    have hn:L.blk objs.length=none:=g.out objs.length (Nat.le_refl _)
    rw [hn]
  refine sim_mk (s:=⟨_,_⟩) hd hg hs fun t h'=>?_
  simp only [lk]
  split
  ·rename_i e;subst e
   have:=ht k h'
   simp only at this
   rw [h] at this
   rw [this.val_inv]
   exact .ownN _ _ _ _ size ⟨elem,[],by simp⟩
  ·exact (ht t h').stay hl
theorem WkE.freezeS {n:Nat} {env:List (Nat × AV)} {objs:List AObj} (k id g size:Nat) (elem:TypeId) (xs:List AV) (x y:AV) (hkn:k<n) (h:lk env k=x) (ho:objs[id]? = some (.arr g size elem xs))
 (hsn:Snap (List.replicate id .dead++[.arr g size elem xs]) x y):WkE n ⟨env,objs⟩ ⟨(k,y)::env,objs.set id .dead⟩:=by
 intro hk
 have hid:=(List.getElem?_eq_some_iff.1 ho).1
 refine ⟨fun t ht=>?_,fun F0 w0 a w hs=>?_⟩
 ·simp only [lk];rw [if_neg (by omega)];exact hk t ht
 ·obtain ⟨hd,L,gd,hs,ht⟩:=sim_slots hk hs
  let L':Lay:=⟨fun b=>L.F b \/ ∃ o n,L.blk id=some (b,o,n),fun i=>if i=id then none else L.blk i⟩
  have only:∀ (i g' s':Nat) (e':TypeId) (xs':List AV),(List.replicate id AObj.dead++[AObj.arr g size elem xs])[i]? = some (AObj.arr g' s' e' xs')->i=id/\AObj.arr g size elem xs=AObj.arr g' s' e' xs':=by
   intro i g' s' e' xs' hi
   by_cases hlt:i<id
   ·rw [List.getElem?_append_left (by simpa using hlt),List.getElem?_replicate,if_pos hlt] at hi;simp at hi
   ·have:i=id:=by have:=(List.getElem?_eq_some_iff.1 hi).1;simp at this;omega
    subst this
    rw [List.getElem?_append_right (by simp)] at hi
    simp only [List.length_replicate,Nat.sub_self,List.getElem?_cons_zero,Option.some.injEq] at hi
    exact ⟨rfl,hi⟩
  have hlater:Later w L objs w L' (objs.set id .dead):=by
   refine ⟨fun b hF hb=>⟨rfl,.inl hF⟩,fun i g' hst=>?_,fun i g' s' hl=>?_⟩
   ·by_cases e:id=i
    ·subst e;exact .inl (List.getElem?_set_self hid)
    ·unfold stale at hst ⊢;rwa [List.getElem?_set_ne e]
   ·by_cases e:id=i
    ·subst e;exact .inl (.inl (List.getElem?_set_self hid))
    ·refine .inr ⟨?_,if_neg (Ne.symm e)⟩
     unfold live at hl ⊢;rwa [List.getElem?_set_ne e]
  refine sim_mk (s:=⟨_,_⟩) (L:=L') hd ⟨fun i o ho'=>?_,fun i hi=>?_,fun i j b o n o' n' h1 h2=>?_,fun i b o n h=>?_,fun b hb=>?_,gd.ext,gd.gl.stay hlater.wk⟩ hs fun t h'=>?_
  ·by_cases e:i=id
   ·subst e
    rw [List.getElem?_set_self hid] at ho'
    simp only [Option.some.injEq] at ho';subst ho'
    exact if_pos rfl
   ·rw [List.getElem?_set_ne (Ne.symm e)] at ho'
    have:=gd.obj i o ho'
    have hbe:L'.blk i=L.blk i:=if_neg e
    cases o with
    | void=>unfold OR at this ⊢;rw [hbe];exact this
    | dead=>unfold OR at this ⊢;rw [hbe];exact this
    | probe k st li bk ps=>exact this.probe_stay hlater hbe
    | arr gen size elem xs =>
     unfold OR at this ⊢
     rw [hbe]
     cases hbk:L.blk i with
     | none=>rw [hbk] at this;exact this
     | some q =>
      obtain ⟨b,o',n⟩:=q
      rw [hbk] at this
      obtain ⟨cur,hc,hn,hr⟩:=this
      exact ⟨cur,hc,hn,hr.stay hlater⟩
  ·rw [List.length_set] at hi
   show (if i=id then none else L.blk i)=none
   split
   ·rfl
   ·exact gd.out i hi
  ·have h1':(if i=id then none else L.blk i)=some (b,o,n):=h1
   have h2':(if j=id then none else L.blk j)=some (b,o',n'):=h2
   split at h1' <;> split at h2' <;> first | exact gd.inj _ _ _ _ _ _ _ h1' h2' | cases h1' | cases h2'
  ·have h':(if i=id then none else L.blk i)=some (b,o,n):=h
   split at h'
   ·cases h'
   ·rename_i e
    have:=gd.own _ _ _ _ h'
    refine ⟨?_,this.2⟩
    rintro (hF | ⟨o2,n2,hF⟩)
    ·exact this.1 hF
    ·exact e (gd.inj _ _ _ _ _ _ _ h' hF)
  ·rcases hb with hb | ⟨o,n,hb⟩
   ·exact gd.old b hb
   ·have:=gd.own _ _ _ _ hb
    exact ⟨.inr this.2.1,this.2.2⟩
  ·simp only [lk]
   split
   ·rename_i e;subst e
    have:=ht k h'
    simp only at this
    rw [h] at this
    refine .tree (snap_ok gd ?_ (G:=L'.F) (fun b hb=>.inl hb) ?_ hsn _ this)
    ·intro i g' s' e' xs' hi
     obtain ⟨rfl,e⟩:=only i g' s' e' xs' hi
     rw [<-e];exact ho
    ·intro i g' s' e' xs' hi b o n hb
     obtain ⟨rfl,_⟩:=only i g' s' e' xs' hi
     exact .inr ⟨o,n,hb⟩
   ·exact (ht t h').stay hlater
theorem WkE.freeze {n:Nat} {env:List (Nat × AV)} {objs:List AObj} (k id g off len size:Nat) (elem:TypeId) (xs:List AV) (hkn:k<n) (h:lk env k = .own id g off len) (ho:objs[id]? = some (.arr g size elem xs))
 (hle:off+len<=xs.length) (hT:(xs.all AV.isT)=true) (he:elem<mapT:=by decide):WkE n ⟨env,objs⟩ ⟨(k,.list size ((xs.drop off).take len))::env,objs.set id .dead⟩:=by
 refine .freezeS k id g size elem xs _ _ hkn h ho ?_
 have hl:((xs.drop off).take len).length=len:=by simp;omega
 refine .own id g off len size elem xs _ (by rw [List.getElem?_append_right (by simp)];simp) hle hl (fun i hi=>?_) he
 rw [List.getElem_take,List.getElem_drop]
 exact .tree _ (List.all_eq_true.1 hT _ (List.getElem_mem _))
end Dak
namespace Dak
open Go Go.RowKit
variable [Globs]
variable {P : Program} {F0 : FD} {w0 w : World} {L : Lay} {objs objs0 : List AObj} {nid : Nat}
theorem live_set_same {id gen size:Nat} {elem:TypeId} {xs xs':List AV} (ho:objs[id]? = some (.arr gen size elem xs)):Later w L objs w L (objs.set id (.arr gen size elem xs')):=by
 have hid:=(List.getElem?_eq_some_iff.1 ho).1
 refine ⟨fun b hF hb=>⟨rfl,hF⟩,stale_next ho (Nat.le_refl _),fun i g s h=>.inr ⟨?_,rfl⟩⟩
 by_cases e:id=i
 ·subst e
  obtain ⟨e',ys,h⟩:=h
  rw [ho] at h;simp only [Option.some.injEq,AObj.arr.injEq] at h
  obtain ⟨rfl,rfl,rfl,rfl⟩:=h
  exact ⟨_,_,List.getElem?_set_self hid⟩
 ·unfold live at h ⊢;rwa [List.getElem?_set_ne e]
theorem good_recell {L':Lay} {objs':List AObj} (g:Good F0 w0 w L objs) (g':Good F0 w0 w L' objs') (hl:Later w L objs w L' objs') {id gen size el c:Nat} {elem:TypeId} {xs:List AV} {y x0 x1:AV}
 (ho:objs[id]? = some (.arr gen size elem xs)) (ho':objs'[id]? = some (.arr gen size elem xs)) (hbk:L'.blk id=L.blk id) (hy:xs[el]? = some y) (hc:y.cells[c]? = some x0) (hx:∀ u,u.oneCell'=true->VR w L objs x0 u->VR w L' objs' x1 u) (h1:∀ ds,x1 ≠ .agg ds) :
 Good F0 w0 w L' (objs'.set id (.arr gen size elem (xs.set el (recell y (y.cells.set c x1))))):=by
 have hid:=(List.getElem?_eq_some_iff.1 ho').1
 have hl2:Later w L' objs' w L' (objs'.set id (.arr gen size elem (xs.set el (recell y (y.cells.set c x1))))):=live_set_same ho'
 refine ⟨fun i o hi=>?_,fun i hi=>g'.out i (by rw [List.length_set] at hi;exact hi),g'.inj,g'.own,g'.old,g'.ext,g'.gl⟩
 by_cases e:i=id
 ·subst e
  rw [List.getElem?_set_self hid] at hi
  simp only [Option.some.injEq] at hi;subst hi
  have:=g.obj _ _ ho
  unfold OR at this ⊢
  rw [hbk]
  cases hb:L.blk i with
  | none =>
   rw [hb] at this
   simp only at this
   subst this;simp at hy
  | some q =>
   obtain ⟨b,o,n⟩:=q
   rw [hb] at this
   obtain ⟨cur,hcur,hn,hr1,hr2⟩:=this
   obtain ⟨hel,rfl⟩:=List.getElem?_eq_some_iff.1 hy
   obtain ⟨hcl,rfl⟩:=List.getElem?_eq_some_iff.1 hc
   have hna:∀ c' ∈ xs[el].cells.set c x1,∀ ds,c' ≠ .agg ds:=by
    intro c' hc' ds
    obtain ⟨k,hk,rfl⟩:=List.getElem_of_mem hc'
    rw [List.getElem_set]
    split
    ·exact h1 ds
    ·obtain ⟨u,_,ho1,hv⟩:=(hr2 el hel).2 k (by simpa using hk)
     exact one_not_agg hv ho1 ds
   have hrc:=recell_cells xs[el] _ hna
   refine ⟨cur,hcur,hn,by rw [List.length_set];exact hr1,fun j hj=>?_⟩
   rw [List.length_set] at hj
   by_cases ej:el=j
   ·subst ej
    rw [List.getElem_set_self,hrc]
    refine ⟨by rw [List.length_set];exact (hr2 el hel).1,fun k hk=>?_⟩
    rw [List.length_set] at hk
    obtain ⟨u,hu,ho1,hv⟩:=(hr2 el hel).2 k hk
    refine ⟨u,hu,ho1,?_⟩
    rw [List.getElem_set]
    split
    ·rename_i ek;subst ek;exact (hx u ho1 hv).stay hl2
    ·exact (hv.stay hl).stay hl2
   ·rw [List.getElem_set_ne ej]
    refine ⟨(hr2 j hj).1,fun k hk=>?_⟩
    obtain ⟨u,hu,ho1,hv⟩:=(hr2 j hj).2 k hk
    exact ⟨u,hu,ho1,(hv.stay hl).stay hl2⟩
 ·rw [List.getElem?_set_ne (Ne.symm e)] at hi
  have:=g'.obj i o hi
  cases o with
  | void=>exact this
  | dead=>exact this
  | probe k st li bk ps=>exact this.probe_stay hl2 rfl
  | arr gen size elem xs =>
   unfold OR at this ⊢
   cases hbk:L'.blk i with
   | none=>rw [hbk] at this;exact this
   | some q =>
    obtain ⟨b,o',n⟩:=q
    rw [hbk] at this
    obtain ⟨cur,hc,hn,hr⟩:=this
    exact ⟨cur,hc,hn,hr.stay hl2⟩
theorem good_empty (g:Good F0 w0 w L objs) (size:Nat) (elem:TypeId):Good F0 w0 w L (objs++[.arr 0 size elem []])/\Later w L objs w L (objs++[.arr 0 size elem []]):=by
 obtain ⟨gv,hlv⟩:=good_void g
 have hvd:(objs++[AObj.void])[objs.length]? = some .void:=by simp
 have hl2:Later w L (objs++[AObj.void]) w L ((objs++[AObj.void]).set objs.length (.arr 0 size elem [])):=by
  refine ⟨fun b hF hb=>⟨rfl,hF⟩,stale_set hvd,fun i g' s' hl=>.inr ⟨?_,rfl⟩⟩
  have hne:objs.length ≠ i:=by rintro rfl;obtain ⟨e',xs,h⟩:=hl;rw [hvd] at h;simp at h
  unfold live at hl ⊢
  rwa [List.getElem?_set_ne hne]
 have hl:=hlv.trans hl2
 rw [set_void] at hl
 refine ⟨⟨fun id o ho=>?_,fun id hid=>g.out id (by rw [List.length_append] at hid;omega),g.inj,g.own,g.old,g.ext,g.gl⟩,hl⟩
 by_cases hlt:id<objs.length
 ·rw [List.getElem?_append_left hlt] at ho
  have:=g.obj id o ho
  cases o with
  | void=>exact this
  | dead=>exact this
  | probe k st li bk ps=>exact this.probe_stay hl rfl
  | arr gen size elem xs =>
   unfold OR at this ⊢
   cases hbk:L.blk id with
   | none=>rw [hbk] at this;exact this
   | some q =>
    obtain ⟨b,o',n⟩:=q
    rw [hbk] at this
    obtain ⟨cur,hc,hn,hr⟩:=this
    exact ⟨cur,hc,hn,hr.stay hl⟩
 ·have hid:id=objs.length:=by
   have:=(List.getElem?_eq_some_iff.1 ho).1
   simp at this;omega
  subst hid
  simp at ho;subst ho
  unfold OR
  have hn:L.blk objs.length=none:=g.out objs.length (Nat.le_refl _)
  rw [hn]
theorem WkE.nilCell {n:Nat} {env:List (Nat × AV)} {objs:List AObj} (id gen sz el c size:Nat) (elem et:TypeId) (xs:List AV) (y:AV) (ho:objs[id]? = some (.arr gen sz et xs)) (hy:xs[el]? = some y) (hc:y.cells[c]? = some (.val (.slice none 0 0))) :
 WkE n ⟨env,objs⟩ ⟨env,objs.set id (.arr gen sz et (xs.set el (recell y (y.cells.set c (.own objs.length 0 0 0)))))++[.arr 0 size elem []]⟩:=by
 intro hk
 refine ⟨hk,fun F0 w0 a w hs=>?_⟩
 obtain ⟨hd,L,g,hs,ht⟩:=sim_slots hk hs
 obtain ⟨g',hl⟩:=good_empty g size elem
 have hid:=(List.getElem?_eq_some_iff.1 ho).1
 have ho':(objs++[AObj.arr 0 size elem []])[id]? = some (.arr gen sz et xs):=by rw [List.getElem?_append_left hid];exact ho
 have hg:=good_recell (x1:=.own objs.length 0 0 0) g g' hl ho ho' rfl hy hc (fun u _ hu=>by rw [hu.val_inv];exact .ownN _ _ _ _ size ⟨elem,[],by simp⟩) (fun ds=>by simp)
 have e:(objs++[AObj.arr 0 size elem []]).set id (.arr gen sz et (xs.set el (recell y (y.cells.set c (.own objs.length 0 0 0)))))=objs.set id (.arr gen sz et (xs.set el (recell y (y.cells.set c (.own objs.length 0 0 0)))))++[.arr 0 size elem []]:=List.set_append_left _ _ hid
 rw [e] at hg
 have hl2:Later w L (objs++[AObj.arr 0 size elem []]) w L ((objs++[AObj.arr 0 size elem []]).set id (.arr gen sz et (xs.set el (recell y (y.cells.set c (.own objs.length 0 0 0)))))):=live_set_same ho'
 rw [e] at hl2
 exact sim_mk (s:=⟨env,_⟩) hd hg hs fun t h=>(ht t h).stay (hl.trans hl2)
theorem good_dead (g:Good F0 w0 w L objs) {id gen size:Nat} {elem:TypeId} {xs:List AV} (ho:objs[id]? = some (.arr gen size elem xs)) :
 ∃ L':Lay,Good F0 w0 w L' (objs.set id .dead)/\Later w L objs w L' (objs.set id .dead)/\(∀ b,L.F b->L'.F b)/\(∀ b o n,L.blk id=some (b,o,n)->L'.F b)/\∀ i,i ≠ id->L'.blk i=L.blk i:=by
 have hid:=(List.getElem?_eq_some_iff.1 ho).1
 let L':Lay:=⟨fun b=>L.F b \/ ∃ o n,L.blk id=some (b,o,n),fun i=>if i=id then none else L.blk i⟩
 have hlater:Later w L objs w L' (objs.set id .dead):=by
  refine ⟨fun b hF hb=>⟨rfl,.inl hF⟩,fun i g' hst=>?_,fun i g' s' hl=>?_⟩
  ·by_cases e:id=i
   ·subst e;exact .inl (List.getElem?_set_self hid)
   ·unfold stale at hst ⊢;rwa [List.getElem?_set_ne e]
  ·by_cases e:id=i
   ·subst e;exact .inl (.inl (List.getElem?_set_self hid))
   ·refine .inr ⟨?_,if_neg (Ne.symm e)⟩
    unfold live at hl ⊢;rwa [List.getElem?_set_ne e]
 refine ⟨L',⟨fun i o ho'=>?_,fun i hi=>?_,fun i j b o n o' n' h1 h2=>?_,fun i b o n h=>?_,fun b hb=>?_,g.ext,g.gl.stay hlater.wk⟩,hlater,fun b h=>.inl h,fun b o n h=>.inr ⟨o,n,h⟩,fun i h=>if_neg h⟩
 ·by_cases e:i=id
  ·subst e
   rw [List.getElem?_set_self hid] at ho'
   simp only [Option.some.injEq] at ho';subst ho'
   exact if_pos rfl
  ·rw [List.getElem?_set_ne (Ne.symm e)] at ho'
   have:=g.obj i o ho'
   have hbe:L'.blk i=L.blk i:=if_neg e
   cases o with
   | void=>unfold OR at this ⊢;rw [hbe];exact this
   | dead=>unfold OR at this ⊢;rw [hbe];exact this
   | probe k st li bk ps=>exact this.probe_stay hlater hbe
   | arr gen size elem xs =>
    unfold OR at this ⊢
    rw [hbe]
    cases hbk:L.blk i with
    | none=>rw [hbk] at this;exact this
    | some q =>
     obtain ⟨b,o',n⟩:=q
     rw [hbk] at this
     obtain ⟨cur,hc,hn,hr⟩:=this
     exact ⟨cur,hc,hn,hr.stay hlater⟩
 ·rw [List.length_set] at hi
  show (if i=id then none else L.blk i)=none
  split
  ·rfl
  ·exact g.out i hi
 ·have h1':(if i=id then none else L.blk i)=some (b,o,n):=h1
  have h2':(if j=id then none else L.blk j)=some (b,o',n'):=h2
  split at h1' <;> split at h2' <;> first | exact g.inj _ _ _ _ _ _ _ h1' h2' | cases h1' | cases h2'
 ·have h':(if i=id then none else L.blk i)=some (b,o,n):=h
  split at h'
  ·cases h'
  ·rename_i e
   have:=g.own _ _ _ _ h'
   refine ⟨?_,this.2⟩
   rintro (hF | ⟨o2,n2,hF⟩)
   ·exact this.1 hF
   ·exact e (g.inj _ _ _ _ _ _ _ h' hF)
 ·rcases hb with hb | ⟨o,n,hb⟩
  ·exact g.old b hb
  ·have:=g.own _ _ _ _ hb
   exact ⟨.inr this.2.1,this.2.2⟩
theorem own_data (gd:Good F0 w0 w L objs) {id g off len size:Nat} {elem:TypeId} {xs:List AV} (ho:objs[id]? = some (.arr g size elem xs)) (hle:off+len<=xs.length) (hT:(xs.all AV.isT)=true) (hem:elem<mapT) {G:Nat->Prop} (hF:∀ b,L.F b->G b) (hG:∀ b o n,L.blk id=some (b,o,n)->G b)
 {v:Value} (h:VR w L objs (.own id g off len) v):TR w G (.list size ((xs.drop off).take len)) v:=by
 have hsn:Snap (List.replicate id .dead++[.arr g size elem xs]) (.own id g off len) (.list size ((xs.drop off).take len)):=by
  have hl:((xs.drop off).take len).length=len:=by simp;omega
  refine .own id g off len size elem xs _ (by rw [List.getElem?_append_right (by simp)];simp) hle hl (fun i hi=>?_) hem
  rw [List.getElem_take,List.getElem_drop]
  exact .tree _ (List.all_eq_true.1 hT _ (List.getElem_mem _))
 have only:∀ (i g' s':Nat) (e':TypeId) (xs':List AV),(List.replicate id AObj.dead++[AObj.arr g size elem xs])[i]? = some (AObj.arr g' s' e' xs')->i=id/\AObj.arr g size elem xs=AObj.arr g' s' e' xs':=by
  intro i g' s' e' xs' hi
  by_cases hlt:i<id
  ·rw [List.getElem?_append_left (by simpa using hlt),List.getElem?_replicate,if_pos hlt] at hi;simp at hi
  ·have:i=id:=by have:=(List.getElem?_eq_some_iff.1 hi).1;simp at this;omega
   subst this
   rw [List.getElem?_append_right (by simp)] at hi
   simp only [List.length_replicate,Nat.sub_self,List.getElem?_cons_zero,Option.some.injEq] at hi
   exact ⟨rfl,hi⟩
 refine snap_ok gd ?_ hF ?_ hsn _ h
 ·intro i g' s' e' xs' hi
  obtain ⟨rfl,e⟩:=only i g' s' e' xs' hi
  rw [<-e];exact ho
 ·intro i g' s' e' xs' hi b o n hb
  obtain ⟨rfl,_⟩:=only i g' s' e' xs' hi
  exact hG b o n hb
theorem WkE.freezeCell {n:Nat} {env:List (Nat × AV)} {objs:List AObj} (id gen sz el c id2 g2 off len size:Nat) (et elem:TypeId) (xs ys:List AV) (y:AV) (ho:objs[id]? = some (.arr gen sz et xs)) (hy:xs[el]? = some y) (hc:y.cells[c]? = some (.own id2 g2 off len))
 (ho2:objs[id2]? = some (.arr g2 size elem ys)) (hne:id ≠ id2) (hle:off+len<=ys.length) (hT:(ys.all AV.isT)=true) (hem:elem<mapT:=by decide) :
 WkE n ⟨env,objs⟩ ⟨env,(objs.set id2 .dead).set id (.arr gen sz et (xs.set el (recell y (y.cells.set c (.list size ((ys.drop off).take len))))))⟩:=by
 intro hk
 refine ⟨hk,fun F0 w0 a w hs=>?_⟩
 obtain ⟨hd,L,g,hs,ht⟩:=sim_slots hk hs
 obtain ⟨L',g',hl,h1,h2,h3⟩:=good_dead g ho2
 have ho':(objs.set id2 .dead)[id]? = some (.arr gen sz et xs):=by rw [List.getElem?_set_ne (Ne.symm hne)];exact ho
 have hg:=good_recell (x1:=.list size ((ys.drop off).take len)) g g' hl ho ho' (h3 id hne) hy hc (fun u _ hu=>.tree (own_data g ho2 hle hT hem h1 h2 hu)) (fun ds=>by simp)
 exact sim_mk (s:=⟨env,_⟩) hd hg hs fun t h=>(ht t h).stay (hl.trans (live_set_same ho'))
end Dak
namespace Dak
open Go Go.RowKit
variable [Globs]
theorem snaps_self:∀ (args:List AV),(args.all AV.isT)=true->∀ objs,Snaps objs args args
 | [],_,_=>.nil
 | x::xs,h,objs=>by
  simp only [List.all_cons,Bool.and_eq_true] at h
  exact .cons (.tree _ h.1) (snaps_self xs h.2 objs)
theorem callT {P:Program} {m:Bool} {objs:List AObj} {f:FuncId} {args:List AV} {r:AV} {K:AV->List AObj->Prop} (h:Ctr P f args r) (hT:(args.all AV.isT)=true) (k:K r objs):∃ r objs',CallM P m objs (.clo (.func f) []) args r objs'/\K r objs' :=
 ⟨r,objs,.ok (.data f [] args (args++[]) r (by rw [List.append_nil];exact snaps_self args hT _) (by rw [List.append_nil];exact h)),k⟩
theorem callN {P:Program} {m:Bool} {objs:List AObj} {f:FuncId} {args xs:List AV} {r:AV} {K:AV->List AObj->Prop} (h:Ctr P f xs r) (hs:Snaps [] args xs) (k:K r objs):∃ r objs',CallM P m objs (.clo (.func f) []) args r objs'/\K r objs' :=
 ⟨r,objs,.ok (.data f [] args xs r (by rw [List.append_nil];exact hs) h),k⟩
theorem callF {P:Program} {m:Bool} {objs:List AObj} {f:FuncId} {args xs:List AV} {r:AV} {K:AV->List AObj->Prop} (h:Ctr P f xs r) (hs:Snaps objs args xs) (hf:r.flat=true) (k:K r objs):∃ r objs',CallM P m objs (.clo (.func f) []) args r objs'/\K r objs' :=
 ⟨r,objs,.ok (.flat f [] args xs r (by rw [List.append_nil];exact hs) h hf),k⟩
theorem callCN {P:Program} {m:Bool} {objs:List AObj} {f:FuncId} {cap args xs:List AV} {r:AV} {K:AV->List AObj->Prop} (h:Ctr P f xs r) (hs:Snaps [] (args++cap) xs) (k:K r objs):∃ r objs',CallM P m objs (.clo (.func f) cap) args r objs'/\K r objs' :=
 ⟨r,objs,.ok (.data f cap args xs r hs h),k⟩
theorem callOk {P:Program} {m:Bool} {objs:List AObj} {f:AV} {args:List AV} {r:AV} {K:AV->List AObj->Prop} (h:CallOk P objs f args r) (k:K r objs):∃ r objs',CallM P m objs f args r objs'/\K r objs' :=
 ⟨r,objs,.ok h,k⟩
theorem callNew {P:Program} {objs news:List AObj} {f:FuncId} {cap args xs:List AV} {r:AV} {K:AV->List AObj->Prop} (h:CtrN P f xs r news) (hs:Snaps [] (args++cap) xs) (k:K (r.shift objs.length) (objs++news.map (AObj.shiftO objs.length))) :
 ∃ r objs',CallM P true objs (.clo (.func f) cap) args r objs'/\K r objs':=⟨_,_,.new f cap args xs objs news r hs h,k⟩
theorem nvO_ren (σ : Nat->Nat):∀ news:List AObj,nvO (news.map (AObj.renO σ))=nvO news
 | []=>rfl
 | .void::_=>rfl
 | .dead::_=>rfl
 | .arr ..::_=>rfl
 | .probe ..::_=>rfl
theorem callN1 {P:Program} {objs cr:List AObj} {o:AObj} {f:FuncId} {cap args xs:List AV} {r:AV} {K:AV->List AObj->Prop} (h:CtrN P f xs r [o]) (hs:Snaps [] (args++cap) xs) (hi:([o].all fun x=>x.inRO [o])=true) (hr:r.inR [o]=true)
 (k:K (r.ren fun _=>objs.length+cr.length) (cr++[o.renO fun _=>objs.length+cr.length])) (hv:nvO [o]=true:=by rfl) :
 ∃ r objs',CallM P false objs (.clo (.func f) cap) args r objs'/\callX objs objs' cr (K r):=⟨_,_,.one cr.length (.data f cap args xs r o hs h hi hr) (by rw [<-hv];exact nvO_ren _ [o]),.inr ⟨_,by rw [<-hv];exact nvO_ren _ [o],rfl,k⟩⟩
theorem callM {P:Program} {objs:List AObj} {f:FuncId} {cap args:List AV} {r:AV} {K:AV->List AObj->Prop} (base tail base':List AObj) (h:CtrM P f (args++cap) base r base') (ho:objs=base++tail)
 (hb:(base.all fun o=>o.innO base.length)=true) (ha:((args++cap).all fun x=>x.inn base.length)=true) (k:K r (base'++tail)):∃ r objs',CallM P true objs (.clo (.func f) cap) args r objs'/\K r objs':=by
 subst ho
 exact ⟨r,_,.mod f cap args base tail r base' h hb ha,k⟩
end Dak
namespace Dak
open Go Go.RowKit
variable [Globs]
variable {P : Program} {F0 : FD} {w0 : World}
theorem CwpE.wk {n:Nat} {c:CCode} {Q:Exit->Est->Prop} {s s':Est} (h:WkE n s s') (k:CwpE P F0 w0 n c Q s'):CwpE P F0 w0 n c Q s:=fun hk=>Cwp.wk (h hk).2 (k (h hk).1)
theorem CwpE.post {n:Nat} {c:CCode} {Q Q':Exit->Est->Prop} {s:Est} (h:CwpE P F0 w0 n c Q s) (k:∀ e s,Q e s->∃ s',WkE n s s'/\Q' e s'):CwpE P F0 w0 n c Q' s:=by
 intro hk F1 w1 m r rn code hc hro a w hs
 refine wpIn_mono (h hk F1 w1 m r rn code hc hro a w hs) ?_
 rintro e a w ⟨F2,w2,hm,_,⟨s1,hq,hk1,rfl⟩,hs1⟩
 obtain ⟨s2,hwk,hq2⟩:=k e s1 hq
 exact ⟨F2,w2,hm,s2.toSt n,⟨s2,hq2,(hwk hk1).1,rfl⟩,(hwk hk1).2 _ _ _ _ hs1⟩
def RoundX (n:Nat) (I:Nat->Est->Prop) (k:Nat) (x:Nat) (J:Est->Prop) (Q:Exit->Est->Prop):Exit->Est->Prop
 | .normal,s=>∃ m s',m<k/\WkE n s s'/\I m s'
 | .exit i,s=>if i=x then ∃ s',WkE n s s'/\J s' else Q (.exit i) s
 | e,s=>Q e s
theorem loopX {n:Nat} {b:CCode} {Q:Exit->Est->Prop} {s:Est} (x:Nat) (I:Nat->Est->Prop) (J:Est->Prop) (k:Nat) (s0:Est) (hw:WkE n s s0) (h0:I k s0) (round:∀ k s,I k s->vcE P F0 w0 n b (RoundX n I k x J Q) s) (post:∀ s,J s->Q (.exit x) s):CwpE P F0 w0 n (.loop b) Q s:=by
 refine CwpE.post (Q:=fun e s=>match e with | .exit i=>if i=x then ∃ s',WkE n s s'/\J s' else Q (.exit i) s | e=>Q e s) ?_ ?_
 ·refine loopE I k s0 hw h0 fun k s hI=>?_
  have:=round k s hI
  have e:RoundX n I k x J Q=RoundE n I k (fun e s=>match e with | .exit i=>if i=x then ∃ s',WkE n s s'/\J s' else Q (.exit i) s | e=>Q e s):=by
   funext e s;cases e <;> rfl
  rw [e] at this;exact this
 ·intro e s hq
  cases e with
  | exit i =>
   simp only at hq
   split at hq
   ·rename_i hi;subst hi
    obtain ⟨s',h1,h2⟩:=hq
    exact ⟨s',h1,post s' h2⟩
   ·exact ⟨s,.refl _ _,hq⟩
  | _=>exact ⟨s,.refl _ _,hq⟩
end Dak
namespace Dak
open Go Go.RowKit
variable [Globs]
variable {P : Program} {F0 : FD} {w0 : World} {n : Nat} {Q : Exit -> Est -> Prop} {s : Est}
theorem nrfl.{u} {α : Sort u} {a b : α} (h:a=b):a=b:=h
def condE (o:Option Bool) (p q:Prop):Prop:=match o with
 | some t=>(t=true->p)/\(t=false->q)
 | none=>False
theorem condE_congr {o o':Option Bool} {p q:Prop} (h:o=o'):condE o p q=condE o' p q:=by rw [h]
theorem condE_t {p q:Prop}:condE (some true) p q=p:=by simp [condE]
theorem condE_f {p q:Prop}:condE (some false) p q=q:=by simp [condE]
theorem vc_skip:vcE P F0 w0 n .skip Q s=Q .normal s:=nrfl rfl
theorem vc_region {cs}:vcE P F0 w0 n (.region cs) Q s=RopsE P n cs (Q .normal) s:=nrfl rfl
theorem vc_seq {a b}:vcE P F0 w0 n (.seq a b) Q s=vcE P F0 w0 n a (thenE (vcE P F0 w0 n b Q) Q) s:=nrfl rfl
theorem vc_cond {c a b}:vcE P F0 w0 n (.cond c a b) Q s=condE (asB (evE s.env c)) (vcE P F0 w0 n a Q s) (vcE P F0 w0 n b Q s):=nrfl rfl
theorem vc_block {id b}:vcE P F0 w0 n (.block id b) Q s=vcE P F0 w0 n b (inBlockE id Q) s:=nrfl rfl
theorem vc_loop {b}:vcE P F0 w0 n (.loop b) Q s=CwpE P F0 w0 n (.loop b) Q s:=nrfl rfl
theorem vc_exit {id}:vcE P F0 w0 n (.exit id) Q s=Q (.exit id) s:=nrfl rfl
theorem vc_ret:vcE P F0 w0 n .ret Q s=Q .ret s:=nrfl rfl
def guardE (o:Option (Option Bool)) (want:Bool) (A B:Prop):Prop:=match o with
 | some b=>(b=some want->A)/\(b ≠ some want->B)
 | none=>False
theorem guardE_congr {o o':Option (Option Bool)} {w:Bool} {A B:Prop} (h:o=o'):guardE o w A B=guardE o' w A B:=by rw [h]
theorem guardE_tt {A B:Prop}:guardE (some (some true)) true A B=A:=by simp [guardE]
theorem guardE_ff {A B:Prop}:guardE (some (some false)) false A B=A:=by simp [guardE]
theorem guardE_tf {A B:Prop}:guardE (some (some true)) false A B=B:=by simp [guardE]
theorem guardE_ft {A B:Prop}:guardE (some (some false)) true A B=B:=by simp [guardE]
theorem guardE_n {w:Bool} {A B:Prop}:guardE (some none) w A B=B:=by simp [guardE]
theorem gdB_b {b:Bool}:gdB (.val (.bool b))=some (some b):=by cases b <;> rfl
theorem gdB_n:gdB nov=some none:=by unfold nov;simp [gdB,undef]
def optK (o:Option (AV × List AObj)) (n:Nat) (d:Option Nat) (env:List (Nat × AV)) (K:Est->Prop):Prop:=match o with
 | some (r,objs)=>okD n d/\K ⟨putE env d r,objs⟩
 | none=>False
theorem optK_some {r:AV} {objs:List AObj} {d:Option Nat} {env:List (Nat × AV)} {K:Est->Prop}:optK (some (r,objs)) n d env K=(okD n d/\K ⟨putE env d r,objs⟩):=nrfl rfl
def qK (o:Option (AV × Option AObj)) (n:Nat) (d:Option Nat) (env:List (Nat × AV)) (cr:List AObj) (K:List (Nat × AV)->List AObj->Prop):Prop:=match o with
 | some (r,none)=>okD n d/\K (putE env d r) cr
 | some (r,some o)=>okD n d/\K (putE env d r) (cr++[o])
 | none=>False
theorem qK_none {r:AV} {d:Option Nat} {env:List (Nat × AV)} {cr:List AObj} {K:List (Nat × AV)->List AObj->Prop}:qK (some (r,none)) n d env cr K=(okD n d/\K (putE env d r) cr):=nrfl rfl
theorem qK_some {r:AV} {o:AObj} {d:Option Nat} {env:List (Nat × AV)} {cr:List AObj} {K:List (Nat × AV)->List AObj->Prop}:qK (some (r,some o)) n d env cr K=(okD n d/\K (putE env d r) (cr++[o])):=nrfl rfl
def callK (P:Program) (objs:List AObj) (f:AV) (args:List AV) (d:Option Nat) (env:List (Nat × AV)) (K:Est->Prop):Prop:=∃ r objs',CallM P true objs f args r objs'/\K ⟨putE env d r,objs'⟩
def callQ (P:Program) (objs:List AObj) (f:AV) (args:List AV) (d:Option Nat) (env:List (Nat × AV)) (cr:List AObj) (K:List (Nat × AV)->List AObj->Prop):Prop:=∃ r objs',CallM P false objs f args r objs'/\callX objs objs' cr (K (putE env d r))
theorem callX_same {objs cr:List AObj} {K:List AObj->Prop}:callX objs objs cr K=K cr:=propext ⟨fun h=>h.elim (·.2) fun ⟨os,hv,he,_⟩=>by
 have:=congrArg List.length he
 cases os with
 | nil=>cases hv
 | cons o os=>simp at this,fun h=>.inl ⟨rfl,h⟩⟩
attribute [go_sem] callX_same
def lateK (P:Program) (n:Nat) (ls:List COper) (rest:List (COper × List COper)) (K:Est->Prop) (s:Est):Prop:=LatesE s ls/\RopsLE P n rest K s
def drawnK (P:Program) (n:Nat) (post:List (COper × List COper)) (K:Est->Prop) (objs:List AObj) (env:List (Nat × AV)) (cr:List AObj):Prop:=RopsLE P n post K ⟨env,objs++cr⟩
theorem vd_drawn {pre post}:vcE P F0 w0 n (.drawn pre post) Q s=QopsE P n s.objs pre (drawnK P n post (Q .normal) s.objs) s.env []:=nrfl rfl
attribute [congr] condE_congr guardE_congr
variable {K : Est -> Prop} {rest : List COper} {d : Option Nat} {g : Option (Nat × Bool)}
theorem R_nil:RopsE P n [] K s=K s:=nrfl rfl
theorem R_cons {op:COp}:RopsE P n (⟨d,none,op⟩::rest) K s=RstepE P n ⟨d,none,op⟩ (RopsE P n rest K) s:=nrfl rfl
theorem R_guard {op:COp} {t:Nat} {w:Bool}:RopsE P n (⟨d,some (t,w),op⟩::rest) K s=guardE (gdB (lk s.env t)) w (RstepE P n ⟨d,some (t,w),op⟩ (RopsE P n rest K) s) (okD n d/\RopsE P n rest K ⟨putE s.env d nov,s.objs⟩):=nrfl rfl
theorem R_call {f:Operand} {args:List Operand}:RstepE P n ⟨d,g,.call f args⟩ K s=(okD n d/\callK P s.objs (evE s.env f) (args.map (evE s.env)) d s.env K):=nrfl rfl
theorem RL_nil:RopsLE P n [] K s=K s:=nrfl rfl
theorem RL_cons {op:COp} {ls:List COper} {rest:List (COper × List COper)}:RopsLE P n ((⟨d,none,op⟩,ls)::rest) K s=RstepE P n ⟨d,none,op⟩ (lateK P n ls rest K) s:=nrfl rfl
variable {objs0 : List AObj} {KQ : List (Nat × AV) -> List AObj -> Prop} {env : List (Nat × AV)} {cr : List AObj}
theorem Q_nil:QopsE P n objs0 [] KQ env cr=KQ env cr:=nrfl rfl
theorem Q_call {f:Operand} {args:List Operand}:QopsE P n objs0 (⟨d,none,.call f args⟩::rest) KQ env cr=(okD n d/\callQ P objs0 (evE env f) (args.map (evE env)) d env cr (QopsE P n objs0 rest KQ)):=nrfl rfl
theorem Q_gcall {f:Operand} {args:List Operand} {t:Nat} {w:Bool}:QopsE P n objs0 (⟨d,some (t,w),.call f args⟩::rest) KQ env cr=guardE (gdB (lk env t)) w (okD n d/\callQ P objs0 (evE env f) (args.map (evE env)) d env cr (QopsE P n objs0 rest KQ)) (okD n d/\QopsE P n objs0 rest KQ (putE env d nov) cr):=nrfl rfl
theorem R_mov {x:Operand}:RstepE P n ⟨d,g,.mov x⟩ K s=optK (step1 s.objs (evE s.env) (.mov x)) n d s.env K:=nrfl rfl
theorem Q_mov {x:Operand}:QopsE P n objs0 (⟨d,none,.mov x⟩::rest) KQ env cr=(qK (qstepK (objs0++cr) objs0 (evE env) (objs0.length+cr.length) (.mov x)) n d env cr (QopsE P n objs0 rest KQ)):=nrfl rfl
theorem Q_gmov {x:Operand} {t:Nat} {w:Bool}:QopsE P n objs0 (⟨d,some (t,w),.mov x⟩::rest) KQ env cr=guardE (gdB (lk env t)) w (qK (qstepK (objs0++cr) objs0 (evE env) (objs0.length+cr.length) (.mov x)) n d env cr (QopsE P n objs0 rest KQ)) (okD n d/\QopsE P n objs0 rest KQ (putE env d nov) cr):=nrfl rfl
theorem R_pick {c a b:Operand}:RstepE P n ⟨d,g,.pick c a b⟩ K s=optK (step1 s.objs (evE s.env) (.pick c a b)) n d s.env K:=nrfl rfl
theorem Q_pick {c a b:Operand}:QopsE P n objs0 (⟨d,none,.pick c a b⟩::rest) KQ env cr=(qK (qstepK (objs0++cr) objs0 (evE env) (objs0.length+cr.length) (.pick c a b)) n d env cr (QopsE P n objs0 rest KQ)):=nrfl rfl
theorem R_alloc {elem:TypeId} {z:AV}:RstepE P n ⟨d,g,.alloc elem z⟩ K s=optK (step1 s.objs (evE s.env) (.alloc elem z)) n d s.env K:=nrfl rfl
theorem Q_alloc {elem:TypeId} {z:AV}:QopsE P n objs0 (⟨d,none,.alloc elem z⟩::rest) KQ env cr=(qK (qstepK (objs0++cr) objs0 (evE env) (objs0.length+cr.length) (.alloc elem z)) n d env cr (QopsE P n objs0 rest KQ)):=nrfl rfl
theorem R_box {elem:TypeId} {x:Operand}:RstepE P n ⟨d,g,.box elem x⟩ K s=optK (step1 s.objs (evE s.env) (.box elem x)) n d s.env K:=nrfl rfl
theorem Q_box {elem:TypeId} {x:Operand}:QopsE P n objs0 (⟨d,none,.box elem x⟩::rest) KQ env cr=(qK (qstepK (objs0++cr) objs0 (evE env) (objs0.length+cr.length) (.box elem x)) n d env cr (QopsE P n objs0 rest KQ)):=nrfl rfl
theorem R_load {agg:Bool} {m:Nat} {x:Operand}:RstepE P n ⟨d,g,.load agg m x⟩ K s=optK (step1 s.objs (evE s.env) (.load agg m x)) n d s.env K:=nrfl rfl
theorem Q_load {agg:Bool} {m:Nat} {x:Operand}:QopsE P n objs0 (⟨d,none,.load agg m x⟩::rest) KQ env cr=(qK (qstepK (objs0++cr) objs0 (evE env) (objs0.length+cr.length) (.load agg m x)) n d env cr (QopsE P n objs0 rest KQ)):=nrfl rfl
theorem Q_gload {agg:Bool} {m:Nat} {x:Operand} {t:Nat} {w:Bool}:QopsE P n objs0 (⟨d,some (t,w),.load agg m x⟩::rest) KQ env cr=guardE (gdB (lk env t)) w (qK (qstepK (objs0++cr) objs0 (evE env) (objs0.length+cr.length) (.load agg m x)) n d env cr (QopsE P n objs0 rest KQ)) (okD n d/\QopsE P n objs0 rest KQ (putE env d nov) cr):=nrfl rfl
theorem R_nilCheck {x:Operand}:RstepE P n ⟨d,g,.nilCheck x⟩ K s=optK (step1 s.objs (evE s.env) (.nilCheck x)) n d s.env K:=nrfl rfl
theorem Q_nilCheck {x:Operand}:QopsE P n objs0 (⟨d,none,.nilCheck x⟩::rest) KQ env cr=(qK (qstepK (objs0++cr) objs0 (evE env) (objs0.length+cr.length) (.nilCheck x)) n d env cr (QopsE P n objs0 rest KQ)):=nrfl rfl
theorem R_ibin {op:BinOp} {x y:Operand}:RstepE P n ⟨d,g,.ibin op x y⟩ K s=optK (step1 s.objs (evE s.env) (.ibin op x y)) n d s.env K:=nrfl rfl
theorem Q_ibin {op:BinOp} {x y:Operand}:QopsE P n objs0 (⟨d,none,.ibin op x y⟩::rest) KQ env cr=(qK (qstepK (objs0++cr) objs0 (evE env) (objs0.length+cr.length) (.ibin op x y)) n d env cr (QopsE P n objs0 rest KQ)):=nrfl rfl
theorem Q_gibin {op:BinOp} {x y:Operand} {t:Nat} {w:Bool}:QopsE P n objs0 (⟨d,some (t,w),.ibin op x y⟩::rest) KQ env cr=guardE (gdB (lk env t)) w (qK (qstepK (objs0++cr) objs0 (evE env) (objs0.length+cr.length) (.ibin op x y)) n d env cr (QopsE P n objs0 rest KQ)) (okD n d/\QopsE P n objs0 rest KQ (putE env d nov) cr):=nrfl rfl
theorem R_bbin {op:BinOp} {x y:Operand}:RstepE P n ⟨d,g,.bbin op x y⟩ K s=optK (step1 s.objs (evE s.env) (.bbin op x y)) n d s.env K:=nrfl rfl
theorem Q_bbin {op:BinOp} {x y:Operand}:QopsE P n objs0 (⟨d,none,.bbin op x y⟩::rest) KQ env cr=(qK (qstepK (objs0++cr) objs0 (evE env) (objs0.length+cr.length) (.bbin op x y)) n d env cr (QopsE P n objs0 rest KQ)):=nrfl rfl
theorem Q_gbbin {op:BinOp} {x y:Operand} {t:Nat} {w:Bool}:QopsE P n objs0 (⟨d,some (t,w),.bbin op x y⟩::rest) KQ env cr=guardE (gdB (lk env t)) w (qK (qstepK (objs0++cr) objs0 (evE env) (objs0.length+cr.length) (.bbin op x y)) n d env cr (QopsE P n objs0 rest KQ)) (okD n d/\QopsE P n objs0 rest KQ (putE env d nov) cr):=nrfl rfl
theorem Q_aeq {neg:Bool} {m:Nat} {x y:Operand}:QopsE P n objs0 (⟨d,none,.aeq neg m x y⟩::rest) KQ env cr=(qK (qstepK (objs0++cr) objs0 (evE env) (objs0.length+cr.length) (.aeq neg m x y)) n d env cr (QopsE P n objs0 rest KQ)):=nrfl rfl
theorem R_neg {x:Operand}:RstepE P n ⟨d,g,.neg x⟩ K s=optK (step1 s.objs (evE s.env) (.neg x)) n d s.env K:=nrfl rfl
theorem R_lnot {x:Operand}:RstepE P n ⟨d,g,.lnot x⟩ K s=optK (step1 s.objs (evE s.env) (.lnot x)) n d s.env K:=nrfl rfl
theorem Q_lnot {x:Operand}:QopsE P n objs0 (⟨d,none,.lnot x⟩::rest) KQ env cr=(qK (qstepK (objs0++cr) objs0 (evE env) (objs0.length+cr.length) (.lnot x)) n d env cr (QopsE P n objs0 rest KQ)):=nrfl rfl
theorem Q_glnot {x:Operand} {t:Nat} {w:Bool}:QopsE P n objs0 (⟨d,some (t,w),.lnot x⟩::rest) KQ env cr=guardE (gdB (lk env t)) w (qK (qstepK (objs0++cr) objs0 (evE env) (objs0.length+cr.length) (.lnot x)) n d env cr (QopsE P n objs0 rest KQ)) (okD n d/\QopsE P n objs0 rest KQ (putE env d nov) cr):=nrfl rfl
theorem R_conv {k:IntKind} {x:Operand}:RstepE P n ⟨d,g,.conv k x⟩ K s=optK (step1 s.objs (evE s.env) (.conv k x)) n d s.env K:=nrfl rfl
theorem Q_conv {k:IntKind} {x:Operand}:QopsE P n objs0 (⟨d,none,.conv k x⟩::rest) KQ env cr=(qK (qstepK (objs0++cr) objs0 (evE env) (objs0.length+cr.length) (.conv k x)) n d env cr (QopsE P n objs0 rest KQ)):=nrfl rfl
theorem R_fieldAddr {off:Nat} {x:Operand}:RstepE P n ⟨d,g,.fieldAddr off x⟩ K s=optK (step1 s.objs (evE s.env) (.fieldAddr off x)) n d s.env K:=nrfl rfl
theorem Q_fieldAddr {off:Nat} {x:Operand}:QopsE P n objs0 (⟨d,none,.fieldAddr off x⟩::rest) KQ env cr=(qK (qstepK (objs0++cr) objs0 (evE env) (objs0.length+cr.length) (.fieldAddr off x)) n d env cr (QopsE P n objs0 rest KQ)):=nrfl rfl
theorem Q_gfieldAddr {off:Nat} {x:Operand} {t:Nat} {w:Bool}:QopsE P n objs0 (⟨d,some (t,w),.fieldAddr off x⟩::rest) KQ env cr=guardE (gdB (lk env t)) w (qK (qstepK (objs0++cr) objs0 (evE env) (objs0.length+cr.length) (.fieldAddr off x)) n d env cr (QopsE P n objs0 rest KQ)) (okD n d/\QopsE P n objs0 rest KQ (putE env d nov) cr):=nrfl rfl
theorem R_idxS {size:Nat} {x i:Operand}:RstepE P n ⟨d,g,.idxS size x i⟩ K s=optK (step1 s.objs (evE s.env) (.idxS size x i)) n d s.env K:=nrfl rfl
theorem Q_idxS {size:Nat} {x i:Operand}:QopsE P n objs0 (⟨d,none,.idxS size x i⟩::rest) KQ env cr=(qK (qstepK (objs0++cr) objs0 (evE env) (objs0.length+cr.length) (.idxS size x i)) n d env cr (QopsE P n objs0 rest KQ)):=nrfl rfl
theorem Q_gidxS {size:Nat} {x i:Operand} {t:Nat} {w:Bool}:QopsE P n objs0 (⟨d,some (t,w),.idxS size x i⟩::rest) KQ env cr=guardE (gdB (lk env t)) w (qK (qstepK (objs0++cr) objs0 (evE env) (objs0.length+cr.length) (.idxS size x i)) n d env cr (QopsE P n objs0 rest KQ)) (okD n d/\QopsE P n objs0 rest KQ (putE env d nov) cr):=nrfl rfl
theorem R_idxA {len size:Nat} {x i:Operand}:RstepE P n ⟨d,g,.idxA len size x i⟩ K s=optK (step1 s.objs (evE s.env) (.idxA len size x i)) n d s.env K:=nrfl rfl
theorem Q_idxA {len size:Nat} {x i:Operand}:QopsE P n objs0 (⟨d,none,.idxA len size x i⟩::rest) KQ env cr=(qK (qstepK (objs0++cr) objs0 (evE env) (objs0.length+cr.length) (.idxA len size x i)) n d env cr (QopsE P n objs0 rest KQ)):=nrfl rfl
theorem Q_gidxA {len size:Nat} {x i:Operand} {t:Nat} {w:Bool}:QopsE P n objs0 (⟨d,some (t,w),.idxA len size x i⟩::rest) KQ env cr=guardE (gdB (lk env t)) w (qK (qstepK (objs0++cr) objs0 (evE env) (objs0.length+cr.length) (.idxA len size x i)) n d env cr (QopsE P n objs0 rest KQ)) (okD n d/\QopsE P n objs0 rest KQ (putE env d nov) cr):=nrfl rfl
theorem R_idxV {agg:Bool} {len size:Nat} {x i:Operand}:RstepE P n ⟨d,g,.idxV agg len size x i⟩ K s=optK (step1 s.objs (evE s.env) (.idxV agg len size x i)) n d s.env K:=nrfl rfl
theorem R_extract {x:Operand} {i:Nat}:RstepE P n ⟨d,g,.extract x i⟩ K s=optK (step1 s.objs (evE s.env) (.extract x i)) n d s.env K:=nrfl rfl
theorem Q_extract {x:Operand} {i:Nat}:QopsE P n objs0 (⟨d,none,.extract x i⟩::rest) KQ env cr=(qK (qstepK (objs0++cr) objs0 (evE env) (objs0.length+cr.length) (.extract x i)) n d env cr (QopsE P n objs0 rest KQ)):=nrfl rfl
theorem R_slice {size:Nat} {x:Operand} {lo hi:Option Operand}:RstepE P n ⟨d,g,.slice size x lo hi⟩ K s=optK (step1 s.objs (evE s.env) (.slice size x lo hi)) n d s.env K:=nrfl rfl
theorem Q_slice {size:Nat} {x:Operand} {lo hi:Option Operand}:QopsE P n objs0 (⟨d,none,.slice size x lo hi⟩::rest) KQ env cr=(qK (qstepK (objs0++cr) objs0 (evE env) (objs0.length+cr.length) (.slice size x lo hi)) n d env cr (QopsE P n objs0 rest KQ)):=nrfl rfl
theorem R_mkslice {elem:TypeId} {size bytes:Nat} {z:AV} {len cap:Operand}:RstepE P n ⟨d,g,.mkslice elem size bytes z len cap⟩ K s=optK (step1 s.objs (evE s.env) (.mkslice elem size bytes z len cap)) n d s.env K:=nrfl rfl
theorem Q_mkslice {elem:TypeId} {size bytes:Nat} {z:AV} {len cap:Operand}:QopsE P n objs0 (⟨d,none,.mkslice elem size bytes z len cap⟩::rest) KQ env cr=(qK (qstepK (objs0++cr) objs0 (evE env) (objs0.length+cr.length) (.mkslice elem size bytes z len cap)) n d env cr (QopsE P n objs0 rest KQ)):=nrfl rfl
theorem R_build {z:List AV} {parts:List (Nat × Nat × Operand)}:RstepE P n ⟨d,g,.build z parts⟩ K s=optK (step1 s.objs (evE s.env) (.build z parts)) n d s.env K:=nrfl rfl
theorem Q_build {z:List AV} {parts:List (Nat × Nat × Operand)}:QopsE P n objs0 (⟨d,none,.build z parts⟩::rest) KQ env cr=(qK (qstepK (objs0++cr) objs0 (evE env) (objs0.length+cr.length) (.build z parts)) n d env cr (QopsE P n objs0 rest KQ)):=nrfl rfl
theorem R_bslice {elem:TypeId} {size:Nat} {parts:List Operand}:RstepE P n ⟨d,g,.bslice elem size parts⟩ K s=optK (step1 s.objs (evE s.env) (.bslice elem size parts)) n d s.env K:=nrfl rfl
theorem Q_bslice {elem:TypeId} {size:Nat} {parts:List Operand}:QopsE P n objs0 (⟨d,none,.bslice elem size parts⟩::rest) KQ env cr=(qK (qstepK (objs0++cr) objs0 (evE env) (objs0.length+cr.length) (.bslice elem size parts)) n d env cr (QopsE P n objs0 rest KQ)):=nrfl rfl
theorem R_len {x:Operand}:RstepE P n ⟨d,g,.len x⟩ K s=optK (step1 s.objs (evE s.env) (.len x)) n d s.env K:=nrfl rfl
theorem Q_len {x:Operand}:QopsE P n objs0 (⟨d,none,.len x⟩::rest) KQ env cr=(qK (qstepK (objs0++cr) objs0 (evE env) (objs0.length+cr.length) (.len x)) n d env cr (QopsE P n objs0 rest KQ)):=nrfl rfl
theorem R_imin {x y:Operand}:RstepE P n ⟨d,g,.imin x y⟩ K s=optK (step1 s.objs (evE s.env) (.imin x y)) n d s.env K:=nrfl rfl
theorem Q_gimin {x y:Operand} {t:Nat} {w:Bool}:QopsE P n objs0 (⟨d,some (t,w),.imin x y⟩::rest) KQ env cr=guardE (gdB (lk env t)) w (qK (qstepK (objs0++cr) objs0 (evE env) (objs0.length+cr.length) (.imin x y)) n d env cr (QopsE P n objs0 rest KQ)) (okD n d/\QopsE P n objs0 rest KQ (putE env d nov) cr):=nrfl rfl
theorem R_imax {x y:Operand}:RstepE P n ⟨d,g,.imax x y⟩ K s=optK (step1 s.objs (evE s.env) (.imax x y)) n d s.env K:=nrfl rfl
theorem R_mkfunc {fn:Fn} {cap:List Operand}:RstepE P n ⟨d,g,.mkfunc fn cap⟩ K s=optK (step1 s.objs (evE s.env) (.mkfunc fn cap)) n d s.env K:=nrfl rfl
theorem Q_mkfunc {fn:Fn} {cap:List Operand}:QopsE P n objs0 (⟨d,none,.mkfunc fn cap⟩::rest) KQ env cr=(qK (qstepK (objs0++cr) objs0 (evE env) (objs0.length+cr.length) (.mkfunc fn cap)) n d env cr (QopsE P n objs0 rest KQ)):=nrfl rfl
theorem mkF_func (f:FuncId) (xs:List AV):mkF (.func f) xs=some (.clo (.func f) xs,none):=rfl
theorem mkF_via {t:TypeId} {p f b} (xs:List AV):mkF (.via t p f b) xs=(xs.mapM toV).map fun vs=>(.val (.func (.func f) vs.toArray #[]),none):=rfl
theorem toV_one (u:AV) : [u].mapM toV=(toV u).map fun v=>[v]:=by simp only [List.mapM_cons,List.mapM_nil];cases toV u <;> rfl
theorem toV_val (v:Value):toV (.val v)=some v:=rfl
attribute [go_sem] mkF_func mkF_via toV_one Option.map_some toV_val
theorem R_store {m:Nat} {x v:Operand}:RstepE P n ⟨d,g,.store m x v⟩ K s=optK (step1 s.objs (evE s.env) (.store m x v)) n d s.env K:=nrfl rfl
theorem R_append {elem:TypeId} {size bytes:Nat} {sl x:Operand}:RstepE P n ⟨d,g,.append elem size bytes sl x⟩ K s=optK (step1 s.objs (evE s.env) (.append elem size bytes sl x)) n d s.env K:=nrfl rfl
theorem R_isNil {sl neg:Bool} {x y:Operand}:RstepE P n ⟨d,g,.isNil sl neg x y⟩ K s=optK (step1 s.objs (evE s.env) (.isNil sl neg x y)) n d s.env K:=nrfl rfl
theorem R_copy {m:Nat} {x y:Operand}:RstepE P n ⟨d,g,.copy m x y⟩ K s=optK (step1 s.objs (evE s.env) (.copy m x y)) n d s.env K:=nrfl rfl
theorem R_appendZ {elem:TypeId} {size bytes:Nat} {z:AV} {sl x:Operand}:RstepE P n ⟨d,g,.appendZ elem size bytes z sl x⟩ K s=optK (step1 s.objs (evE s.env) (.appendZ elem size bytes z sl x)) n d s.env K:=nrfl rfl
theorem evE_t {env:List (Nat × AV)} {t:Nat}:evE env (.tmp t)=lk env t:=nrfl rfl
theorem evE_c {env:List (Nat × AV)} {v:Value}:evE env (.const v)=ofV v:=nrfl rfl
theorem evE_f {env:List (Nat × AV)} {f:FuncId}:evE env (.func f) = .clo (.func f) []:=nrfl rfl
theorem asB_b {b:Bool}:asB (.val (.bool b))=some b:=by cases b <;> rfl
theorem thenE_n {A:Est->Prop}:thenE A Q .normal s=A s:=nrfl rfl
theorem thenE_x {A:Est->Prop} {i:Nat}:thenE A Q (.exit i) s=Q (.exit i) s:=nrfl rfl
theorem thenE_r {A:Est->Prop}:thenE A Q .ret s=Q .ret s:=nrfl rfl
theorem inBlockE_n {id:Nat}:inBlockE id Q .normal s=Q .normal s:=nrfl rfl
theorem inBlockE_x {id i:Nat}:inBlockE id Q (.exit i) s=if i=id then Q .normal s else Q (.exit i) s:=nrfl rfl
theorem inBlockE_r {id:Nat}:inBlockE id Q .ret s=Q .ret s:=nrfl rfl
theorem retE_r {rs:List CRes} {r:AV}:retE rs r .ret s = ∃ y,resAllE s rs=some y/\Snap s.objs y r:=nrfl rfl
theorem RoundX_n {I:Nat->Est->Prop} {k x:Nat} {J:Est->Prop}:RoundX n I k x J Q .normal s = ∃ m s',m<k/\WkE n s s'/\I m s':=nrfl rfl
theorem RoundX_x {I:Nat->Est->Prop} {k x i:Nat} {J:Est->Prop}:RoundX n I k x J Q (.exit i) s=if i=x then ∃ s',WkE n s s'/\J s' else Q (.exit i) s:=nrfl rfl
theorem RoundX_r {I:Nat->Est->Prop} {k x:Nat} {J:Est->Prop}:RoundX n I k x J Q .ret s=Q .ret s:=nrfl rfl
theorem RoundE_n {I:Nat->Est->Prop} {k:Nat}:RoundE n I k Q .normal s = ∃ m s',m<k/\WkE n s s'/\I m s':=nrfl rfl
theorem RoundE_x {I:Nat->Est->Prop} {k i:Nat}:RoundE n I k Q (.exit i) s=Q (.exit i) s:=nrfl rfl
theorem RoundE_r {I:Nat->Est->Prop} {k:Nat}:RoundE n I k Q .ret s=Q .ret s:=nrfl rfl
theorem lk_cons {k t:Nat} {v:AV} {r:List (Nat × AV)}:lk ((k,v)::r) t=if k=t then v else lk r t:=nrfl rfl
theorem R_mnew {elem:TypeId}:RstepE P n ⟨d,g,.mnew elem⟩ K s=optK (step1 s.objs (evE s.env) (.mnew elem)) n d s.env K:=nrfl rfl
theorem R_mget {mc:Nat} {mok:Bool} {mz:Value} {x y:Operand}:RstepE P n ⟨d,g,.mget mc mok mz x y⟩ K s=optK (step1 s.objs (evE s.env) (.mget mc mok mz x y)) n d s.env K:=nrfl rfl
theorem R_mlen {mc:Nat} {x:Operand}:RstepE P n ⟨d,g,.mlen mc x⟩ K s=optK (step1 s.objs (evE s.env) (.mlen mc x)) n d s.env K:=nrfl rfl
theorem R_mset {mc:Nat} {x y z:Operand}:RstepE P n ⟨d,g,.mset mc x y z⟩ K s=optK (step1 s.objs (evE s.env) (.mset mc x y z)) n d s.env K:=nrfl rfl
theorem R_str {x:Operand}:RstepE P n ⟨d,g,.str x⟩ K s=optK (step1 s.objs (evE s.env) (.str x)) n d s.env K:=nrfl rfl
theorem keyOf_i {m:Int}:keyOf 0 (.val (.int .i64 m))=some (.i m):=by simp [keyOf]
theorem keyOf_s {b:ByteArray}:keyOf 1 (.val (.string b))=some (.s b):=by simp [keyOf]
theorem keyOf_2 {a b:Int}:keyOf 6 (.agg [.val (.int .i64 a),.val (.int .i64 b)])=some (.a [a,b]):=by simp [keyOf,asI,keyK,List.replicate_succ]
theorem keyOf_u4 {a b c d:Int}:keyOf 11 (.agg [.val (.int .u64 a),.val (.int .u64 b),.val (.int .u64 c),.val (.int .u64 d)])=some (.a [a,b,c,d]):=by simp [keyOf,asI,keyK,List.replicate_succ]
attribute [go_sem] R_mnew R_mget R_mlen R_mset R_str keyOf_i keyOf_s keyOf_2 keyOf_u4 mapOwn mapOf msetA mapT unV_mapV
def cutK (P:Program) (n:Nat) (post:List (COper × List COper)) (t:PT) (K:Est->Prop) (objs:List AObj) (env:List (Nat × AV)) (cr:List AObj):Prop:=RopsLE P n post (RTE P n t K) ⟨env,objs++cr⟩
theorem cutK_r {P:Program} {n:Nat} {post:List (COper × List COper)} {t:PT} {K:Est->Prop} {objs:List AObj} {env:List (Nat × AV)} {cr:List AObj}:cutK P n post t K objs env cr=RopsLE P n post (RTE P n t K) ⟨env,objs++cr⟩:=nrfl rfl
theorem vd_cut {pre post t}:vcE P F0 w0 n (.cut pre post t) Q s=QopsE P n s.objs pre (cutK P n post t (Q .normal) s.objs) s.env []:=nrfl rfl
theorem RT_done:RTE P n .done K s=K s:=nrfl rfl
theorem RT_stop:RTE P n .stop K s=True:=nrfl rfl
def tK (P:Program) (n:Nat) (ls:List COper) (sub:PT) (K:Est->Prop) (s:Est):Prop:=LatesE s ls/\RTE P n sub K s
theorem tK_r {ls:List COper} {sub:PT} {K:Est->Prop} {env:List (Nat × AV)} {objs:List AObj}:tK P n ls sub K ⟨env,objs⟩=(LatesE ⟨env,objs⟩ ls/\RTE P n sub K ⟨env,objs⟩):=nrfl rfl
theorem RT_alt {op:COp} {ls:List COper} {sub next:PT}:RTE P n (.alt ⟨d,none,op⟩ ls sub next) K s=(RstepE P n ⟨d,none,op⟩ (tK P n ls sub K) s/\RTE P n next K s):=nrfl rfl
theorem RT_altg {op:COp} {ls:List COper} {t:Nat} {w:Bool} {sub next:PT}:RTE P n (.alt ⟨d,some (t,w),op⟩ ls sub next) K s=(guardE (gdB (lk s.env t)) w (RstepE P n ⟨d,some (t,w),op⟩ (tK P n ls sub K) s) (okD n d/\LatesE ⟨putE s.env d nov,s.objs⟩ ls/\RTE P n sub K ⟨putE s.env d nov,s.objs⟩)/\RTE P n next K s):=nrfl rfl
attribute [go_sem] tK_r cutK_r vd_cut RT_done RT_stop RT_alt RT_altg and_true
attribute [go_sem] guardE_n gdB_b gdB_n condE_t condE_f vc_skip vc_region vd_drawn vc_seq vc_cond vc_block vc_loop vc_exit vc_ret guardE_tt guardE_ff guardE_tf guardE_ft optK_some qK_none qK_some lateK drawnK R_nil R_cons R_guard R_call RL_nil RL_cons Q_nil Q_call Q_gcall R_mov Q_mov Q_gmov R_pick Q_pick R_alloc Q_alloc R_box Q_box R_load Q_load Q_gload R_nilCheck Q_nilCheck R_ibin Q_ibin Q_gibin R_bbin Q_bbin Q_gbbin Q_aeq R_neg R_lnot Q_lnot Q_glnot R_conv Q_conv R_fieldAddr Q_fieldAddr Q_gfieldAddr R_idxS Q_idxS Q_gidxS R_idxA Q_idxA Q_gidxA R_idxV R_extract Q_extract R_slice Q_slice R_mkslice Q_mkslice R_build Q_build R_bslice Q_bslice R_len Q_len R_imin Q_gimin R_imax R_mkfunc Q_mkfunc R_store R_append R_isNil R_copy R_appendZ LatesE evE_t evE_c evE_f putE lk_cons okD step1 qstep qstepK qop ofV COp.stores AV.kn AV.fits AV.one AV.isT AV.isT1 AV.cells asI asB_b ibinV bnd bnd1 cellsAt fillA Dak.upd storeA appendA appendY appendZA copyA srcOf recell resAllE resE envOf Nat.le_refl List.mapM_cons List.mapM_nil List.map_cons List.map_nil List.all_cons List.all_nil List.length_cons List.length_nil List.length_append List.append_nil List.nil_append List.cons_append Option.bind_some Option.bind_none Option.map_some Option.map_none Option.pure_def Option.some.injEq exists_eq_left' true_and and_true if_true if_false ite_true ite_false Bool.false_eq_true Bool.true_eq_false Bool.and_true Bool.true_and Bool.and_false Bool.false_and ne_eq not_true_eq_false not_false_eq_true forall_const false_implies true_implies implies_true Bool.not_eq_false Bool.not_eq_true List.getElem?_cons_zero List.getElem?_cons_succ List.set_cons_zero List.set_cons_succ Value.oneCell' beq_self_eq_true decide_true decide_false Nat.add_zero Nat.zero_add AV.val.injEq Value.int.injEq Value.bool.injEq Bool.not_true Bool.not_false bne_self_eq_false IntKind.bits Nat.lt_add_one Nat.zero_lt_succ Nat.one_ne_zero List.length_map List.drop_zero List.take_length List.take_succ_cons List.take_zero List.drop_succ_cons Agree List.head?_cons or_true true_or or_false false_or and_self Int.toNat_natCast List.set_nil List.replicate_zero List.drop_nil List.take_nil List.length_range List.take_of_length_le thenE_n thenE_x thenE_r inBlockE_n inBlockE_x inBlockE_r retE_r RoundX_n RoundX_x RoundX_r RoundE_n RoundE_x RoundE_r Option.bind_eq_bind
end Dak
namespace Dak
open Go Go.RowKit
variable [Globs]
variable {P : Program} {F0 : FD} {w0 : World} {n : Nat}
theorem CwpE.vc {c:CCode} {Q:Exit->Est->Prop} {s:Est} (h:vcE P F0 w0 n c Q s):CwpE P F0 w0 n c Q s:=fun hk=>vc_ok _ _ _ (vcE_ok c Q s hk h)
theorem CwpE.seq {a b:CCode} {Q:Exit->Est->Prop} {s:Est} (h:CwpE P F0 w0 n a (thenE (CwpE P F0 w0 n b Q) Q) s):CwpE P F0 w0 n (.seq a b) Q s:=by
 intro hk F1 w1 m r rn code hc hro a' w hs
 cases code with
 | seq x y =>
  simp only [compC,Option.bind_eq_some_iff,Option.map_eq_some_iff,CCode.seq.injEq] at hc
  obtain ⟨x',hx,y',hy,rfl,rfl⟩:=hc
  refine wpIn_seq (wpIn_mono (h hk F1 w1 m r rn _ hx (ro_l hro) _ w hs) ?_)
  rintro e a w ⟨F2,w2,hm,st,⟨s1,hq,hk1,rfl⟩,hs1⟩
  cases e with
  | normal=>exact wpIn_mono (hq hk1 F2 w2 (m.trans hm) r rn _ hy (ro_r hro) _ _ hs1) fun _ _ _=>LiftM.back hm
  | _=>exact ⟨F2,w2,hm,_,⟨s1,hq,hk1,rfl⟩,hs1⟩
 | region id ops d=>rcases compC_reg hc with ⟨_,_,h⟩ | ⟨_,_,h⟩ | ⟨_,_,_,h⟩ <;> cases h
 | _=>simp [compC,Option.bind_eq_some_iff] at hc
theorem CwpE.step {a b:CCode} {Q:Exit->Est->Prop} {s:Est} (J:Est->Prop) (h:vcE P F0 w0 n a (thenE (fun s=>∃ s',WkE n s s'/\J s') Q) s) (k:∀ s,J s->CwpE P F0 w0 n b Q s):CwpE P F0 w0 n (.seq a b) Q s:=by
 refine CwpE.seq ((CwpE.vc h).post ?_)
 rintro e s h
 cases e with
 | normal=>obtain ⟨s',h1,h2⟩:=h;exact ⟨s,.refl _ _,(k s' h2).wk h1⟩
 | _=>exact ⟨s,.refl _ _,h⟩
theorem specC {f:FuncId} {c:CCode} {n:Nat} {rs:List CRes} (hf:fnC P f=some (c,n,rs)) {xs:List AV} (hn:xs.length<=n) {r:AV} (h:∀ F0 w0,CwpE P F0 w0 n c (retE rs r) ⟨envOf 0 xs,[]⟩):Ctr P f xs r:=by
 refine spec_ofC hf fun F0 w0=>?_
 have hk:KeysOk n (envOf 0 xs):=by
  intro t ht
  rw [lk_envOf,if_pos (Nat.zero_le _),List.getD_eq_getElem?_getD,List.getElem?_eq_none (by omega)];rfl
 have e:(⟨xs++List.replicate (n-xs.length) .junk,[]⟩:St)=(⟨envOf 0 xs,[]⟩:Est).toSt n:=by
  unfold Est.toSt
  congr 1
  refine getD_ext (by simp [toT];omega) fun t ht=>?_
  rw [toT_getD hk,lk_envOf,if_pos (Nat.zero_le _),Nat.sub_zero]
  rw [List.getD_eq_getElem?_getD,List.getD_eq_getElem?_getD,List.getElem?_append]
  split
  ·rfl
  ·rename_i h1
   rw [List.getElem?_replicate,List.getElem?_eq_none (by omega)]
   split <;> rfl
 rw [e]
 refine (h F0 w0 hk).mono ?_
 rintro e st ⟨s,hq,hk',rfl⟩
 have hr:∀ x,resA (s.toSt n) x=resE s x:=by
  intro x
  cases x with
  | tmp t=>simp only [resA,resE];rw [show (s.toSt n).tmps=toT n s.env from rfl,toT_getD hk']
  | cell a ag m=>simp only [resA,resE];rw [show (s.toSt n).tmps=toT n s.env from rfl,toT_getD hk'];rfl
 have hra:∀ rs,resAll (s.toSt n) rs=resAllE s rs:=by
  intro rs;unfold resAll resAllE;rw [show resA (s.toSt n)=resE s from funext hr]
  cases rs.mapM (resE s) with
  | none=>rfl
  | some ys=>cases ys with
   | nil=>rfl
   | cons y ys=>cases ys <;> rfl
 cases e with
 | normal=>simp only [retQ];rw [hra];exact hq
 | ret=>simp only [retQ];rw [hra];exact hq
 | _=>exact hq
theorem CwpE.split {c:CCode} {Q:Exit->Est->Prop} {env:List (Nat × AV)} {objs:List AObj} (k:Nat) (h:lk env k = .anyB) (ht:∀ b,CwpE P F0 w0 n c Q ⟨(k,.val (.bool b))::env,objs⟩):CwpE P F0 w0 n c Q ⟨env,objs⟩:=by
 intro hk F1 w1 m r rn code hc hro a w hs
 obtain ⟨hd,L,g,hsz,hslots⟩:=sim_slots hk hs
 have hkn:k<n:=by
  rcases Nat.lt_or_ge k n with h1 | h1
  ·exact h1
  ·have:=hk k h1;simp only [h] at this;cases this
 have hv:=hslots k hkn
 simp only [h] at hv
 obtain ⟨b,hb⟩:=hv.anyB_inv
 have hk':KeysOk n ((k,.val (.bool b))::env):=fun t ht'=>by simp only [lk];rw [if_neg (by omega)];exact hk t ht'
 refine ht b hk' F1 w1 m r rn code hc hro a w (sim_mk (s:=⟨_,objs⟩) hd g hsz fun t ht'=>?_)
 simp only [lk]
 split
 ·rename_i e;subst e;rw [hb];exact .tree (.val _)
 ·exact hslots t ht'
end Dak
namespace Dak
open Go Go.RowKit
variable [Globs]
variable {P : Program} {F0 : FD} {w0 : World} {n : Nat}
theorem CwpE.block {id:Nat} {b:CCode} {Q:Exit->Est->Prop} {s:Est} (h:CwpE P F0 w0 n b (inBlockE id Q) s):CwpE P F0 w0 n (.block id b) Q s:=by
 intro hk F1 w1 m r rn code hc hro a w hs
 cases code with
 | block id' b' =>
  simp only [compC,Option.map_eq_some_iff,CCode.block.injEq] at hc
  obtain ⟨x',hx,rfl,rfl⟩:=hc
  refine wpIn_block (wpIn_mono (h hk F1 w1 m r rn _ hx hro a w hs) ?_)
  rintro e a1 w3 ⟨F2,w2,hm,st',⟨s1,hq,hk1,rfl⟩,hs'⟩
  cases e with
  | exit i =>
   simp only [Exit.inBlock,inBlockE] at hq ⊢
   split
   ·rename_i hi;rw [if_pos hi] at hq;exact ⟨F2,w2,hm,_,⟨s1,hq,hk1,rfl⟩,hs'⟩
   ·rename_i hi;rw [if_neg hi] at hq;exact ⟨F2,w2,hm,_,⟨s1,hq,hk1,rfl⟩,hs'⟩
  | _=>exact ⟨F2,w2,hm,_,⟨s1,hq,hk1,rfl⟩,hs'⟩
 | region id ops d=>rcases compC_reg hc with ⟨_,_,h⟩ | ⟨_,_,h⟩ | ⟨_,_,_,h⟩ <;> cases h
 | _=>simp [compC,Option.bind_eq_some_iff] at hc
theorem Cwp.loopC {b:CCode} {Q:Exit->St->Prop} {s s0:St} (I:Nat->St->Prop) (n:Nat) (hw:Wk s s0) (h0:I n s0) (round:∀ n s,I n s->Cwp P F0 w0 b (Round I n Q) s):Cwp P F0 w0 (.loop b) Q s:=by
 intro F1 w1 hm1 r rn code hc hro a w hs
 cases code with
 | loop b' =>
  simp only [compC,Option.map_eq_some_iff,CCode.loop.injEq] at hc
  obtain ⟨x',hx,rfl⟩:=hc
  refine wpIn_loop_ghost (fun n a w=>∃ F2 w2,Mk F1 w1 F2 w2/\∃ s,I n s/\Sim F2 w2 s a w) n ⟨F1,w1,Mk.refl hs.lt,s0,h0,hw _ _ _ _ hs⟩ ?_
  rintro n a w ⟨F2,w2,hm2,s,hI,hs⟩
  refine wpIn_mono (round n s hI F2 w2 (hm1.trans hm2) r rn _ hx hro a w hs) ?_
  rintro e a1 w3 ⟨F3,w3',hm3,st',hq,hs'⟩
  cases e with
  | normal =>
   obtain ⟨m,s'',hm,hwk,hI'⟩:=hq
   first
    | exact ⟨m,hm,F3,w3',hm2.trans hm3,s'',hI',hwk _ _ _ _ hs'⟩
    | exact ⟨⟨m,hm,F3,w3',hm2.trans hm3,s'',hI',hwk _ _ _ _ hs'⟩⟩
  | _=>exact ⟨F3,w3',hm2.trans hm3,st',hq,hs'⟩
 | region id ops d=>rcases compC_reg hc with ⟨_,_,h⟩ | ⟨_,_,h⟩ | ⟨_,_,_,h⟩ <;> cases h
 | _=>simp [compC,Option.bind_eq_some_iff] at hc
theorem loopEC {b:CCode} {Q:Exit->Est->Prop} {s:Est} (I:Nat->Est->Prop) (k:Nat) (s0:Est) (hw:WkE n s s0) (h0:I k s0) (round:∀ k s,I k s->CwpE P F0 w0 n b (RoundE n I k Q) s):CwpE P F0 w0 n (.loop b) Q s:=by
 intro hk
 refine Cwp.loopC (fun k st=>∃ s,I k s/\KeysOk n s.env/\st=s.toSt n) k (hw hk).2 ⟨s0,h0,(hw hk).1,rfl⟩ ?_
 rintro k st ⟨s,hI,hk,rfl⟩
 refine Cwp.mono (round k s hI hk) ?_
 rintro e st ⟨s',hq,hk',rfl⟩
 cases e with
 | normal =>
  obtain ⟨m,s'',hm,hwk,hI'⟩:=hq
  exact ⟨m,_,hm,(hwk hk').2,s'',hI',(hwk hk').1,rfl⟩
 | _=>exact ⟨s',hq,hk',rfl⟩
theorem loopXC {b:CCode} {Q:Exit->Est->Prop} {s:Est} (x:Nat) (I:Nat->Est->Prop) (J:Est->Prop) (k:Nat) (s0:Est) (hw:WkE n s s0) (h0:I k s0) (round:∀ k s,I k s->CwpE P F0 w0 n b (RoundX n I k x J Q) s) (post:∀ s,J s->Q (.exit x) s):CwpE P F0 w0 n (.loop b) Q s:=by
 refine CwpE.post (Q:=fun e s=>match e with | .exit i=>if i=x then ∃ s',WkE n s s'/\J s' else Q (.exit i) s | e=>Q e s) ?_ ?_
 ·refine loopEC I k s0 hw h0 fun k s hI=>?_
  have:=round k s hI
  have e:RoundX n I k x J Q=RoundE n I k (fun e s=>match e with | .exit i=>if i=x then ∃ s',WkE n s s'/\J s' else Q (.exit i) s | e=>Q e s):=by
   funext e s;cases e <;> rfl
  rw [e] at this;exact this
 ·intro e s hq
  cases e with
  | exit i =>
   simp only at hq
   split at hq
   ·rename_i hi;subst hi
    obtain ⟨s',h1,h2⟩:=hq
    exact ⟨s',h1,post s' h2⟩
   ·exact ⟨s,.refl _ _,hq⟩
  | _=>exact ⟨s,.refl _ _,hq⟩
theorem CwpE.cut {a b:CCode} {Q:Exit->Est->Prop} {s st:Est} (h:vcE P F0 w0 n a (thenE (fun s=>∃ s',WkE n s s'/\s'=st) Q) s) (k:CwpE P F0 w0 n b Q st):CwpE P F0 w0 n (.seq a b) Q s:=by
 refine CwpE.step (fun s=>s=st) h ?_
 rintro s rfl;exact k
theorem CwpE.seqJ {a b:CCode} {Q:Exit->Est->Prop} {s:Est} (J:Est->Prop) (h:CwpE P F0 w0 n a (thenE (fun s=>∃ s',WkE n s s'/\J s') Q) s) (k:∀ s,J s->CwpE P F0 w0 n b Q s):CwpE P F0 w0 n (.seq a b) Q s:=by
 refine CwpE.seq (h.post ?_)
 rintro e s h
 cases e with
 | normal=>obtain ⟨s',h1,h2⟩:=h;exact ⟨s,.refl _ _,(k s' h2).wk h1⟩
 | _=>exact ⟨s,.refl _ _,h⟩
end Dak
namespace Dak
open Go Go.RowKit
variable [Globs]
variable {P : Program} {F0 : FD} {w0 : World} {n : Nat}
theorem CwpE.cond_b {c:Operand} {a b:CCode} {Q:Exit->Est->Prop} {s:Est} (t:Bool) (hc:asB (evE s.env c)=some t) (h:CwpE P F0 w0 n (if t then a else b) Q s):CwpE P F0 w0 n (.cond c a b) Q s:=by
 intro hk F1 w1 m r rn code hcode hro a' w hs
 cases code with
 | cond c' a'' b'' =>
  simp only [compC,Option.bind_eq_some_iff,Option.map_eq_some_iff,CCode.cond.injEq] at hcode
  obtain ⟨x',hx,y',hy,rfl,rfl,rfl⟩:=hcode
  have hv:a'.eval c' = .bool t:=by
   obtain ⟨hd,L,g,hs1,ht1⟩:=hs
   refine asB_ok (ev_ok (objs:=s.objs) g.gl hs1 ht1 c') ?_
   show asB (St.ev (toT n s.env) c')=some t
   rw [ev_toT hk];exact hc
  refine wpIn_cond hv ?_
  cases t with
  | true=>exact h hk F1 w1 m r rn _ hx (ro_l hro) a' w hs
  | false=>exact h hk F1 w1 m r rn _ hy (ro_r hro) a' w hs
 | region id ops d=>rcases compC_reg hcode with ⟨_,_,h⟩ | ⟨_,_,h⟩ | ⟨_,_,_,h⟩ <;> cases h
 | _=>simp [compC,Option.bind_eq_some_iff] at hcode
theorem CwpE.cond_t {c:Operand} {a b:CCode} {Q:Exit->Est->Prop} {s:Est} (hc:asB (evE s.env c)=some true) (h:CwpE P F0 w0 n a Q s):CwpE P F0 w0 n (.cond c a b) Q s:=CwpE.cond_b true hc h
end Dak
namespace Dak
open Go Go.RowKit
variable [Globs]
variable {P : Program} {F0 : FD} {w0 : World} {n : Nat}
theorem rops_ok2 (ops:Array Oper) {K:St->Prop} (csb:List COper):∀ (l:List Oper) (csa:List COper) (k:Nat),(∀ j,l[j]? = ops[k+j]?)->l.mapM (compO P ops)=some (csa++csb)->∀ (st:St) (a:Act) (w:World),Sim F0 w0 st a w->Rops P csa (fun st1=>∃ st2,Wk st1 st2/\Rops P csb K st2) st ->
 wpOps P ops (Lift F0 w0 fun e st=>e = .normal/\K st) (List.range' k l.length) a w
 | l,[],k,hl,hm,st,a,w,hsim,h=>by
  obtain ⟨st2,hwk,h⟩:=h
  exact rops_ok ops l csb k hl hm st2 a w (hwk _ _ _ _ hsim) h
 | [],c::csa,k,hl,hm,st,a,w,hsim,h=>by simp at hm
 | o::l,c::csa,k,hl,hm,st,a,w,hsim,h=>by
  simp only [List.mapM_cons,Option.bind_eq_bind,Option.bind_eq_some_iff,Option.pure_def,Option.some.injEq,List.cons_append,List.cons.injEq] at hm
  obtain ⟨c,hc,cs',hcs,rfl,rfl⟩:=hm
  have h0:ops[k]? = some o:=by simpa using (hl 0).symm
  have hl':∀ j,l[j]? = ops[k+1+j]?:=fun j=>by have:=hl (j+1);simpa [Nat.add_assoc,Nat.add_comm 1 j] using this
  have ih:=rops_ok2 ops (K:=K) csb l csa (k+1) hl' hcs
  simp only [List.length_cons,List.range'_succ,wpOps,h0]
  simp only [compO,Option.bind_eq_some_iff] at hc
  obtain ⟨op,hop,hc⟩:=hc
  cases hg:o.guard with
  | none =>
   rw [hg] at hc
   simp only [Option.some.injEq] at hc
   subst hc
   have hw:Region.wanted o (yielded ops a.tmps)=true:=by unfold Region.wanted;rw [hg]
   rw [hw,if_pos rfl]
   simp only [Rops] at h
   exact .inl (rstep_ok (P:=P) (c:=⟨o.dst,none,op⟩) (.ofB hop) rfl hsim h fun st' a' w' hK hs=>ih st' a' w' hs hK)
  | some q =>
   obtain ⟨j,want⟩:=q
   rw [hg] at hc
   simp only [Option.map_eq_some_iff] at hc
   obtain ⟨t,htt,rfl⟩:=hc
   simp only [Rops] at h
   split at h
   ·rename_i b hb
    have hbv:boolOf (a.tmps.getD t undef)=b:=by
     obtain ⟨hd,L,g,hs,ht⟩:=hsim
     exact gdB_ok (ev_ok (objs:=st.objs) g.gl hs ht (.tmp t)) hb
    have hw:=wanted_of hg htt hbv
    by_cases e:b=some want
    ·subst e
     rw [hw];simp only [beq_self_eq_true,if_true]
     exact .inl (rstep_ok (P:=P) (c:=⟨o.dst,some (t,want),op⟩) (.ofB hop) rfl hsim (h.1 rfl) fun st' a' w' hK hs=>ih st' a' w' hs hK)
    ·rw [hw,if_neg (by simpa using e)]
     refine ih _ _ _ ?_ (h.2 e)
     obtain ⟨hd,L,g,hs,ht⟩:=hsim
     exact sim_put hd hs ht g (.refl _ _ _) _ (.tree (.val _))
   ·exact h.elim
end Dak
namespace Dak
open Go Go.RowKit
variable [Globs]
variable {P : Program} {F0 : FD} {w0 w : World} {L : Lay} {objs objs0 : List AObj} {nid : Nat}
theorem inn1_mono {m n:Nat} (h:m<=n) {x:AV} (hx:x.inn1 m=true):x.inn1 n=true:=by
 cases x <;> simp_all [AV.inn1] <;> omega
theorem innA_mono {m n:Nat} (h:m<=n) {x:AV} (hx:x.innA m=true):x.innA n=true:=by
 cases x with
 | agg cs=>exact List.all_eq_true.2 fun c hc=>inn1_mono h (List.all_eq_true.1 hx c hc)
 | _=>simp only [AV.innA] at hx ⊢;exact inn1_mono h hx
theorem inn_mono {m n:Nat} (h:m<=n) {x:AV} (hx:x.inn m=true):x.inn n=true:=by
 cases x with
 | agg cs=>exact List.all_eq_true.2 fun c hc=>inn1_mono h (List.all_eq_true.1 hx c hc)
 | tup cs=>exact List.all_eq_true.2 fun c hc=>innA_mono h (List.all_eq_true.1 hx c hc)
 | clo fn cs=>exact List.all_eq_true.2 fun c hc=>inn1_mono h (List.all_eq_true.1 hx c hc)
 | _=>simp only [AV.inn] at hx ⊢;exact inn1_mono h hx
theorem later_app (w:World) (L:Lay) (objs tail:List AObj):Later w L objs w L (objs++tail) :=
 ⟨fun b hF hb=>⟨rfl,hF⟩,fun _ _ h=>stale_app _ h,fun _ _ _ h=>.inr ⟨live_app _ h,rfl⟩⟩
abbrev probeOf (objs:List AObj) (L:Lay) (ps:List (AV × Value)):AObj:=.probe objs.length (stale objs) (live objs) L.blk ps
theorem good_probe (g:Good F0 w0 w L objs) (ps:List (AV × Value)) (hp:∀ p ∈ ps,VR w L objs p.1 p.2):Good F0 w0 w L (objs++[probeOf objs L ps]):=by
 have hl:=later_app w L objs [probeOf objs L ps]
 refine ⟨fun id o ho=>?_,fun id hid=>g.out id (by rw [List.length_append] at hid;omega),g.inj,g.own,g.old,g.ext,g.gl⟩
 by_cases hlt:id<objs.length
 ·rw [List.getElem?_append_left hlt] at ho
  have:=g.obj id o ho
  cases o with
  | void=>exact this
  | dead=>exact this
  | probe k st li bk ps=>exact this.probe_stay hl rfl
  | arr gen size elem xs =>
   unfold OR at this ⊢
   cases hbk:L.blk id with
   | none=>rw [hbk] at this;exact this
   | some q =>
    obtain ⟨b,o',n⟩:=q
    rw [hbk] at this
    obtain ⟨cur,hc,hn,hr⟩:=this
    exact ⟨cur,hc,hn,hr.stay hl⟩
 ·have hid:id=objs.length:=by
   have:=(List.getElem?_eq_some_iff.1 ho).1
   simp at this;omega
  subst hid
  simp at ho;subst ho
  exact ⟨g.out _ (Nat.le_refl _),fun i g' _ h=>stale_app _ h,fun i g' s _ h=>.inr ⟨live_app _ h,rfl⟩,fun p hp'=>(hp p hp').stay hl⟩
theorem probe_inn {ps:List (AV × Value)} (hp:∀ p ∈ ps,p.1.inn objs.length=true) (m:Nat) (hm:objs.length<=m):(probeOf objs L ps).innO m=true:=by
 simp only [AObj.innO,Bool.and_eq_true,decide_eq_true_eq]
 exact ⟨hm,List.all_eq_true.2 fun p hp'=>inn_mono hm (hp p hp')⟩
theorem fin_probe {w':World} {L3:Lay} {base base':List AObj} {r:AV} {v:Value} {ds:List Deferred} (g:Good { F0 with ds:=ds } w0 w' L3 (base'++[probeOf base L []])) (hlen:base'.length=base.length) (hb':(base'.all fun o=>o.innO base.length)=true)
 (hv:VR w' L3 (base'++[probeOf base L []]) r v) (hr:r.inn base.length=true):∃ L',Good F0 w0 w' L' base'/\Done base L base' L'/\VR w' L' base' r v:=by
 have e:(base'++[probeOf base L []]).take base.length=base':=by rw [<-hlen];exact List.take_left
 have gd:=good_drop g base.length (fun o ho=>by rw [e] at ho;exact List.all_eq_true.1 hb' o ho)
 rw [e] at gd
 have hpr:=g.obj base.length (probeOf base L []) (by rw [<-hlen];simp)
 obtain ⟨_,p1,p2,_⟩:=hpr
 refine ⟨L3.cut base.length,⟨gd.obj,gd.out,gd.inj,gd.own,gd.old,gd.ext,gd.gl⟩,⟨fun id gg h=>?_,fun id gg s h=>?_⟩,?_⟩
 ·have hlt:=stale_lt h
  have:=(take_stale hlt).2 (p1 id gg hlt h)
  rwa [e] at this
 ·have hlt:=live_lt h
  rcases p2 id gg s hlt h with h1 | ⟨h1,h2⟩
  ·have:=(take_stale hlt).2 h1
   rw [e] at this;exact .inl this
  ·have:=(take_live hlt).2 h1
   rw [e] at this
   exact .inr ⟨this,(if_pos hlt).trans h2⟩
 ·have:=below_vr (L:=L3) (L':=L3.cut base.length) (m:=base.length) (fun _ h=>h) (fun id h=>if_pos h) hv hr
  rwa [e] at this
def retM (rs:List CRes) (r:AV) (objs':List AObj):Exit->Est->Prop
 | .normal,s=>∃ y,resAllE s rs=some y/\WkE 1 ⟨[(0,y)],s.objs⟩ ⟨[(0,r)],objs'⟩
 | .ret,s=>∃ y,resAllE s rs=some y/\WkE 1 ⟨[(0,y)],s.objs⟩ ⟨[(0,r)],objs'⟩
 | _,_=>False
theorem keys_env {xs:List AV} {n:Nat} (hn:xs.length<=n):KeysOk n (envOf 0 xs):=by
 intro t ht
 rw [lk_envOf,if_pos (Nat.zero_le _),List.getD_eq_getElem?_getD,List.getElem?_eq_none (by omega)];rfl
theorem enter_slots {xs:List AV} {n:Nat} {vs:Array Value} (hl:vs.size=xs.length) (hn:xs.length<=n) (hv:∀ i (h:i<xs.length) (h2:i<vs.size),VR w L objs xs[i] vs[i]) :
 ∀ t,t<n->VR w L objs (lk (envOf 0 xs) t) ((vs++Array.replicate (n-vs.size) undef).getD t undef):=by
 intro t ht
 rw [lk_envOf,if_pos (Nat.zero_le _),Nat.sub_zero,List.getD_eq_getElem?_getD]
 by_cases hlt:t<xs.length
 ·rw [List.getElem?_eq_getElem hlt,Array.getD_eq_getD_getElem?,Array.getElem?_append_left (by omega),Array.getElem?_eq_getElem (by omega)]
  exact hv t hlt (by omega)
 ·rw [List.getElem?_eq_none (by omega)]
  exact .junk _
theorem resAllE_eq {s:Est} {n:Nat} (hk:KeysOk n s.env) (rs:List CRes):resAll (s.toSt n) rs=resAllE s rs:=by
 have hr:∀ x,resA (s.toSt n) x=resE s x:=by
  intro x
  cases x with
  | tmp t=>simp only [resA,resE];rw [show (s.toSt n).tmps=toT n s.env from rfl,toT_getD hk]
  | cell a ag m=>simp only [resA,resE];rw [show (s.toSt n).tmps=toT n s.env from rfl,toT_getD hk];rfl
 unfold resAll resAllE
 rw [show resA (s.toSt n)=resE s from funext hr]
 cases rs.mapM (resE s) with
 | none=>rfl
 | some ys=>cases ys with
  | nil=>rfl
  | cons y ys=>cases ys <;> rfl
theorem wk_one {y r:AV} {objs':List AObj} (h:WkE 1 ⟨[(0,y)],objs⟩ ⟨[(0,r)],objs'⟩) (g:Good F0 w0 w L objs) {v:Value} (hv:VR w L objs y v):∃ L',Good F0 w0 w L' objs'/\VR w L' objs' r v:=by
 have hk:KeysOk 1 [(0,y)]:=by
  intro t ht;simp only [lk];rw [if_neg (by omega)]
 obtain ⟨hk',hw⟩:=h hk
 have hs:=hw F0 w0 { tmps:=#[v],defers:=F0.ds } w (sim_mk (n:=1) (s:=⟨[(0,y)],objs⟩) rfl g rfl fun t ht=>by
  obtain rfl:t=0:=by omega
  exact hv)
 obtain ⟨_,L',g',_,ht⟩:=sim_slots hk' hs
 exact ⟨L',g',ht 0 (by omega)⟩
theorem Good.un {w':World} {L':Lay} {objs':List AObj} {k:Nat} (g:Good F0 w0 w L objs) (g':Good (inFD F0 L k) w w' L' objs'):Good F0 w0 w' L' objs':=by
 refine ⟨g'.obj,g'.out,g'.inj,fun id b o n hb=>?_,fun b hb=>⟨?_,(g'.old b hb).2⟩,?_,g'.gl⟩
 ·have h1:=g'.own _ _ _ _ hb
  exact ⟨h1.1,fun hk=>h1.2.1 (.inl hk),h1.2.2⟩
 ·rcases (g'.old b hb).1 with h1 | h1
  ·exact (g.old b h1).1
  ·exact .inr fun hk=>h1 (.inl hk)
 ·exact ⟨g'.ext.os.trans g.ext.os,g'.ext.tape.trans g.ext.tape,g'.ext.output.trans g.ext.output,Nat.le_trans g.ext.size g'.ext.size,fun b hb=>(g'.ext.block b (.inl hb)).trans (g.ext.block b hb),g.ext.lt⟩
theorem mod_all (g:Good F0 w0 w L objs):Good (inFD F0 L objs.length) w w L objs:=by
 refine ⟨g.obj,g.out,g.inj,fun id b o n hbk=>?_,fun b hF=>⟨.inl hF,(g.old b hF).2⟩,Kept.refl fun b hK=>?_,g.gl⟩
 ·have h1:=g.own id b o n hbk
  refine ⟨h1.1,?_,h1.2.2⟩
  rintro (hk | hk | ⟨id',o',n',hk,hbk'⟩)
  ·exact h1.2.1 hk
  ·exact h1.1 hk
  ·rw [g.out id' hk] at hbk';cases hbk'
 ·rcases hK with hk | hk | ⟨id',o',n',hk,hbk'⟩
  ·exact Nat.lt_of_lt_of_le (g.ext.lt b hk) g.ext.size
  ·exact (g.old b hk).2
  ·exact (g.own _ _ _ _ hbk').2.2
theorem bodyM {fn:Func} {code:Code} {c:CCode} {rs:List CRes} {xs:List AV} {base base':List AObj} {r:AV} (hc:compC P code=some c) (hrs:fn.results.toList.mapM (resC P)=some rs) (hn:xs.length<=fn.ntmps) (hlen:base'.length=base.length)
 (hb':(base'.all fun o=>o.innO base.length)=true) (hr:r.inn base.length=true)
 (h:∀ F0 w0 G,(∀ m,base.length<=m->G.innO m=true)->CwpE P F0 w0 fn.ntmps c (retM rs r (base'++[G])) ⟨envOf 0 xs,base++[G]⟩)
 {vs:Array Value} (g:Good F0 w0 w L base) (hl:vs.size=xs.length) (hv:∀ i (h:i<xs.length) (h2:i<vs.size),VR w L base xs[i] vs[i]) :
 code.wpIn (Wf none) 3 P (bodyPostM Fence.wide 3 P fn (OutM F0 w0 L base r base')) { tmps:=vs++Array.replicate (fn.ntmps-vs.size) undef,defers:=[] } w:=by
 have gp:=good_probe (mod_all g) [] (fun p h=>by cases h)
 have hsim:Sim (inFD F0 L base.length) w ((⟨envOf 0 xs,base++[probeOf base L []]⟩:Est).toSt fn.ntmps) { tmps:=vs++Array.replicate (fn.ntmps-vs.size) undef,defers:=[] } w :=
  sim_mk (s:=⟨envOf 0 xs,base++[probeOf base L []]⟩) rfl gp (by simp [hl];omega) (enter_slots hl hn fun i h1 h2=>(hv i h1 h2).stay (later_app w L base _))
 refine wpIn_mono (h (inFD F0 L base.length) w (probeOf base L []) (fun m hm=>probe_inn (fun p h=>by cases h) m hm) (keys_env hn) _ _ (Mk.refl hsim.lt) none 0 code hc (.inl rfl) _ w hsim) ?_
 rintro e a' w' ⟨F1,w1,hm,st,⟨s,hq,hk,rfl⟩,hs⟩
 have fin:(∃ y,resAllE s rs=some y/\WkE 1 ⟨[(0,y)],s.objs⟩ ⟨[(0,r)],base'++[probeOf base L []]⟩)->LeavesInM Fence.wide 3 P fn a'.tmps (OutM F0 w0 L base r base') a'.defers .returning w':=by
  rintro ⟨y,hy,hwk⟩
  refine leavesM (F0:=inFD F0 L base.length) (w0:=w) (fun b hb=>(g.old b hb).2) hm hs fun W hsW=>?_
  obtain ⟨hd,L',g',hs1,ht⟩:=hsW
  obtain ⟨v,hv,hvr⟩:=results_ok (P:=P) hrs g' hs1 ht (by rw [resAllE_eq hk];exact hy)
  obtain ⟨L3,g3,hv3⟩:=wk_one hwk g' hvr
  obtain ⟨L4,g4,hd4,hv4⟩:=fin_probe (ds:=[]) (F0:=inFD F0 L base.length) g3 hlen hb' hv3 hr
  exact ⟨v,hv,v,L4,rfl,g.un g4,hd4,hv4⟩
 cases e with
 | normal=>exact fin hq
 | ret=>exact fin hq
 | _=>exact hq.elim
theorem fnC_inv {f:FuncId} {c:CCode} {n:Nat} {rs:List CRes} (hf:fnC P f=some (c,n,rs)):∃ fn code,P.funcs[f]? = some fn/\fn.body=some code/\Enters P f=true/\compC P code=some c/\fn.results.toList.mapM (resC P)=some rs/\fn.ntmps=n:=by
 unfold fnC at hf
 split at hf
 rotate_left
 ·cases hf
 rename_i fn hfn
 split at hf
 ·cases hf
 rename_i hname
 split at hf
 rotate_left
 ·cases hf
 rename_i code hbody
 simp only [Option.bind_eq_some_iff,Option.map_eq_some_iff,Prod.mk.injEq] at hf
 obtain ⟨c',hc,rs',hrs,rfl,rfl,rfl⟩:=hf
 exact ⟨fn,code,hfn,hbody,by unfold Enters;rw [hfn];simp only [hbody,Option.isSome_some,Bool.and_true];simpa using hname,hc,hrs,rfl⟩
theorem specM {f:FuncId} {c:CCode} {n:Nat} {rs:List CRes} (hf:fnC P f=some (c,n,rs)) {xs:List AV} {base base':List AObj} {r:AV} (hn:xs.length<=n) (hlen:base'.length=base.length) (hb':(base'.all fun o=>o.innO base.length)=true)
 (hr:r.inn base.length=true) (h:∀ F0 w0 G,(∀ m,base.length<=m->G.innO m=true)->CwpE P F0 w0 n c (retM rs r (base'++[G])) ⟨envOf 0 xs,base++[G]⟩):CtrM P f xs base r base':=by
 obtain ⟨fn,code,hfn,hbody,hent,hc,hrs,rfl⟩:=fnC_inv hf
 exact ⟨hent,hlen,fun F0 w0 w L vs hds g hl hv=>callsIn_wide.1 (callsIn_of_wp_marks (n:=3) hfn hbody trivial (bodyM hc hrs hn hlen hb' hr h g hl hv))⟩
theorem specN {f:FuncId} {c:CCode} {n:Nat} {rs:List CRes} (hf:fnC P f=some (c,n,rs)) {xs:List AV} {r:AV} {news:List AObj} (hn:xs.length<=n) (hp:(news.all AObj.plain)=true) (hi:(news.all fun o=>o.innO news.length)=true) (hr:r.inn news.length=true)
 (h:∀ F0 w0,CwpE P F0 w0 n c (retM rs r news) ⟨envOf 0 xs,[]⟩):CtrN P f xs r news:=by
 obtain ⟨fn,code,hfn,hbody,hent,hc,hrs,rfl⟩:=fnC_inv hf
 refine ⟨hent,hp,hi,hr,fun w F vs hgl hl ht=>?_⟩
 refine callsIn_wide.1 (callsIn_of_wp_marks (n:=3) hfn hbody trivial ?_)
 have g0:Good ⟨fun b=>F b/\b<w.heap.size,(· < w.heap.size),[]⟩ w w ⟨fun b=>F b/\b<w.heap.size,fun _=>none⟩ [] :=
  ⟨fun id o h=>by simp at h,fun _ _=>rfl,fun _ _ _ _ _ _ _ h=>by simp at h,fun _ _ _ _ h=>by simp at h,fun b hb=>⟨.inl hb,hb.2⟩,Kept.refl fun _ h=>h,hgl.stay fun b hb hl=>⟨rfl,hb,hl⟩⟩
 have hsim:Sim ⟨fun b=>F b/\b<w.heap.size,(· < w.heap.size),[]⟩ w ((⟨envOf 0 xs,[]⟩:Est).toSt fn.ntmps) { tmps:=vs++Array.replicate (fn.ntmps-vs.size) undef,defers:=[] } w :=
  sim_mk (s:=⟨envOf 0 xs,[]⟩) rfl g0 (by simp [hl];omega) (enter_slots hl hn fun i h1 h2=>.tree ((ht i h1 h2).mono fun b hb hbl=>⟨hb,hbl⟩))
 refine wpIn_mono (h ⟨fun b=>F b/\b<w.heap.size,(· < w.heap.size),[]⟩ w (keys_env hn) _ _ (Mk.refl hsim.lt) none 0 code hc (.inl rfl) _ w hsim) ?_
 rintro e a' w' ⟨F1,w1,hm,st,⟨s,hq,hk,rfl⟩,hs⟩
 have fin:(∃ y,resAllE s rs=some y/\WkE 1 ⟨[(0,y)],s.objs⟩ ⟨[(0,r)],news⟩)->LeavesInM Fence.wide 3 P fn a'.tmps (fun e w'=>∃ v L',e=Ending.returned v/\Good ⟨F,(· < w.heap.size),[]⟩ w w' L' news/\VR w' L' news r v) a'.defers .returning w':=by
  rintro ⟨y,hy,hwk⟩
  refine leavesM (F0:=⟨fun b=>F b/\b<w.heap.size,(· < w.heap.size),[]⟩) (fun b (hb:F b/\b<w.heap.size)=>hb.2) hm hs fun W hsW=>?_
  obtain ⟨hd,L',g',hs1,ht'⟩:=hsW
  obtain ⟨v,hv,hvr⟩:=results_ok (P:=P) hrs g' hs1 ht' (by rw [resAllE_eq hk];exact hy)
  obtain ⟨L3,g3,hv3⟩:=wk_one hwk g' hvr
  exact ⟨v,hv,v,L3,rfl,⟨g3.obj,g3.out,g3.inj,g3.own,fun b hb=>⟨(g3.old b hb).1.imp (fun h=>h.1) fun h=>h,(g3.old b hb).2⟩,g3.ext,g3.gl⟩,hv3⟩
 cases e with
 | normal=>exact fin hq
 | ret=>exact fin hq
 | _=>exact hq.elim
end Dak
namespace Go.Proofs.Ytjilachpkjlhdaa
open Dak
abbrev oo (d:Nat) (c:COp):COper:=⟨some d,none,c⟩
abbrev vv (d t:Nat):COper:=⟨some d,none,.mov (.tmp t)⟩
abbrev nn (c:COp):COper:=⟨none,none,c⟩
abbrev gt (d t:Nat) (c:COp):COper:=⟨some d,some (t,true),c⟩
abbrev gf (d t:Nat) (c:COp):COper:=⟨some d,some (t,false),c⟩
abbrev vt (d t s:Nat):COper:=⟨some d,some (t,true),.mov (.tmp s)⟩
abbrev vf (d t s:Nat):COper:=⟨some d,some (t,false),.mov (.tmp s)⟩
abbrev kk (n:Int):Operand:=.const (.int .i64 n)
def c3:CCode :=
 (.seq (.region [oo 12 (.mov (.const (.bool false)))])
 (.seq (.region [vv 25 0,vv 26 1,oo 27 (.call (.func 10) [(T 25),(.const (.slice none 0 0)),(T 26)]),vv 24 27,oo 28 (.extract (T 24) 0),oo 29 (.extract (T 24) 1),oo 13 (.alloc 26 (.agg [(.val (.int .i64 0)),(.val (.slice none 0 0)),(.val (.slice none 0 0))])),oo 14 (.alloc 26 (.agg [(.val (.int .i64 0)),(.val (.slice none 0 0)),(.val (.slice none 0 0))])),nn (.store 3 (T 13) (T 28)),nn (.store 3 (T 14) (T 29))])
 (.seq (.region [oo 30 (.load true 3 (T 13)),vv 31 2,vv 32 3,vv 33 4,oo 34 (.call (.func 11) [(T 30),(T 31),(T 32),(T 33)]),oo 15 (.alloc 26 (.agg [(.val (.int .i64 0)),(.val (.slice none 0 0)),(.val (.slice none 0 0))])),nn (.store 3 (T 15) (T 34))])
 (.seq (.drawn [oo 35 (.load true 3 (T 13)),oo 36 (.load true 3 (T 15)),oo 37 (.load true 3 (T 15)),vv 38 4,vv 39 3,oo 40 (.ibin .quo (T 39) (kk 9)),vv 41 2,oo 43 (.build [(.val (.int .i64 0)),(.val (.slice none 0 0)),(.val (.slice none 0 0))] [])] [(oo 42 (.call (.func 11) [(T 37),(T 38),(T 40),(T 41)]),[oo 35 (.load true 3 (T 13)),oo 36 (.load true 3 (T 15)),oo 43 (.build [(.val (.int .i64 0)),(.val (.slice none 0 0)),(.val (.slice none 0 0))] [])]),(oo 44 (.bslice 26 3 [(T 35),(T 36),(T 42),(T 43)]),[]),(vv 16 44,[])])
 (.seq (.region [vv 45 5,oo 46 (.call (.func 12) [(T 45),(kk 12)]),vv 17 46])
 (.seq (.seq (.region [oo 18 (.mov (kk 0))])
 (.block 0 (.loop
 (.seq (.seq (.region [vv 47 18,vv 48 16,oo 49 (.len (T 48)),oo 50 (.ibin .lss (T 47) (T 49))])
 (.cond (T 50)
 .skip
 (.exit 0)))
 (.seq (.block 1 (.seq (.region [vv 53 16,vv 54 18,oo 55 (.idxS 3 (T 53) (T 54)),oo 56 (.load true 3 (T 55)),oo 57 (.call (.func 13) [(T 56)]),oo 19 (.alloc 34 (.agg [(.val (.int .i64 0)),(.val (.slice none 0 0)),(.val (.slice none 0 0))])),nn (.store 3 (T 19) (T 57))])
 (.seq (.seq (.drawn [oo 58 (.load true 3 (T 19)),oo 59 (.call (.func 14) [(T 58)]),vv 60 16,vv 61 18,oo 62 (.idxS 3 (T 60) (T 61)),oo 63 (.load true 3 (T 62)),oo 64 (.call (.func 15) [(T 63)]),oo 65 (.ibin .neq (T 59) (T 64)),vv 66 65,gf 67 66 (.load true 3 (T 19)),vf 68 66 17,gf 69 66 (.call (.func 16) [(T 67),(T 68)]),vf 70 66 16,vf 71 66 18,gf 72 66 (.idxS 3 (T 70) (T 71)),gf 73 66 (.load true 3 (T 72)),vf 74 66 17,gf 75 66 (.call (.func 17) [(T 73),(T 74)]),gf 76 66 (.bbin .neq (T 69) (T 75)),oo 77 (.pick (T 66) (.const (.bool true)) (T 76))] [])
 (.cond (T 77)
 (.seq (.region [oo 12 (.mov (.const (.bool false)))])
 .ret)
 .skip))
 (.seq (.region [oo 79 (.load true 3 (T 19)),oo 80 (.call (.func 18) [(T 79)]),vv 78 80,oo 81 (.extract (T 78) 0),oo 82 (.extract (T 78) 1),vv 20 81,vv 21 82])
 (.seq (.region [vv 84 16,vv 85 18,oo 86 (.idxS 3 (T 84) (T 85)),oo 87 (.load true 3 (T 86)),oo 88 (.call (.func 19) [(T 87)]),vv 83 88,oo 89 (.extract (T 83) 0),oo 90 (.extract (T 83) 1),vv 22 89,vv 23 90])
 (.seq (.region [vv 91 21,vv 92 23,oo 93 (.bbin .neq (T 91) (T 92)),vv 94 93,vf 95 94 20,vf 96 94 22,gf 97 94 (.call (.func 20) [(T 95),(T 96)]),gf 98 94 (.lnot (T 97)),oo 99 (.pick (T 94) (.const (.bool true)) (T 98))])
 (.cond (T 99)
 (.seq (.region [oo 12 (.mov (.const (.bool false)))])
 .ret)
 .skip)))))))
 (.region [vv 51 18,oo 52 (.ibin .add (T 51) (kk 1)),vv 18 52]))))))
 (.seq (.region [oo 100 (.call (.func 21) []),vv 12 100])
 .ret)))))))
theorem f3:fnC Try.prog 3=some (c3,101,[(.tmp 12)]):=by kernel_rfl
def c4:CCode :=
 (.seq (.region [oo 10 (.mov (.const (.bool false)))])
 (.seq (.region [vv 22 0,vv 23 1,oo 24 (.call (.func 10) [(T 22),(.const (.slice none 0 0)),(T 23)]),vv 21 24,oo 25 (.extract (T 21) 0),oo 26 (.extract (T 21) 1),oo 11 (.alloc 26 (.agg [(.val (.int .i64 0)),(.val (.slice none 0 0)),(.val (.slice none 0 0))])),oo 12 (.alloc 26 (.agg [(.val (.int .i64 0)),(.val (.slice none 0 0)),(.val (.slice none 0 0))])),nn (.store 3 (T 11) (T 25)),nn (.store 3 (T 12) (T 26))])
 (.seq (.drawn [oo 27 (.load true 3 (T 11)),oo 28 (.load true 3 (T 11)),vv 29 2,vv 30 3,vv 31 4] [(oo 32 (.call (.func 11) [(T 28),(T 29),(T 30),(T 31)]),[oo 27 (.load true 3 (T 11))]),(oo 33 (.bslice 26 3 [(T 27),(T 32)]),[]),(vv 13 33,[])])
 (.seq (.seq (.region [oo 14 (.mov (kk 0))])
 (.block 0 (.loop
 (.seq (.seq (.region [vv 34 14,oo 35 (.ibin .lss (T 34) (kk 2))])
 (.cond (T 35)
 .skip
 (.exit 0)))
 (.seq (.block 1 (.seq (.region [vv 39 13,vv 40 14,oo 41 (.idxS 3 (T 39) (T 40)),oo 42 (.load true 3 (T 41)),oo 43 (.call (.func 13) [(T 42)]),oo 44 (.call (.func 22) [(T 43)]),vv 38 44,oo 45 (.extract (T 38) 0),oo 46 (.extract (T 38) 1),oo 15 (.alloc 34 (.agg [(.val (.int .i64 0)),(.val (.slice none 0 0)),(.val (.slice none 0 0))])),nn (.store 3 (T 15) (T 45)),vv 16 46])
 (.seq (.region [vv 48 13,vv 49 14,oo 50 (.idxS 3 (T 48) (T 49)),oo 51 (.load true 3 (T 50)),oo 52 (.call (.func 23) [(T 51)]),vv 47 52,oo 53 (.extract (T 47) 0),oo 54 (.extract (T 47) 1),oo 17 (.alloc 26 (.agg [(.val (.int .i64 0)),(.val (.slice none 0 0)),(.val (.slice none 0 0))])),nn (.store 3 (T 17) (T 53)),vv 18 54])
 (.seq (.seq (.region [vv 55 16,vv 56 18,oo 57 (.ibin .neq (T 55) (T 56)),vv 58 57,gf 59 58 (.load true 3 (T 15)),gf 60 58 (.load true 3 (T 17)),gf 61 58 (.call (.func 24) [(T 59),(T 60)]),gf 62 58 (.lnot (T 61)),oo 63 (.pick (T 58) (.const (.bool true)) (T 62))])
 (.cond (T 63)
 (.seq (.region [oo 10 (.mov (.const (.bool false)))])
 .ret)
 .skip))
 (.seq (.seq (.region [vv 64 16,oo 65 (.ibin .neq (T 64) (kk 0))])
 (.cond (T 65)
 (.exit 1)
 .skip))
 (.seq (.region [oo 67 (.load true 3 (T 15)),oo 68 (.call (.func 22) [(T 67)]),vv 66 68,oo 69 (.extract (T 66) 0),oo 70 (.extract (T 66) 1),oo 19 (.alloc 34 (.agg [(.val (.int .i64 0)),(.val (.slice none 0 0)),(.val (.slice none 0 0))])),nn (.store 3 (T 19) (T 69)),vv 20 70])
 (.seq (.region [vv 71 20,oo 72 (.ibin .neq (T 71) (kk 0)),vv 73 72,gf 74 73 (.load true 3 (T 19)),gf 75 73 (.load true 3 (T 17)),gf 76 73 (.call (.func 24) [(T 74),(T 75)]),gf 77 73 (.lnot (T 76)),oo 78 (.pick (T 73) (.const (.bool true)) (T 77))])
 (.cond (T 78)
 (.seq (.region [oo 10 (.mov (.const (.bool false)))])
 .ret)
 .skip))))))))
 (.region [vv 36 14,oo 37 (.ibin .add (T 36) (kk 1)),vv 14 37]))))))
 (.seq (.region [oo 79 (.call (.func 21) []),vv 10 79])
 .ret)))))
def c5:CCode :=
 (.seq (.region [oo 12 (.mov (.const (.bool false)))])
 (.seq (.region [vv 34 0,vv 35 1,vv 36 2,oo 37 (.call (.func 10) [(T 34),(T 35),(T 36)]),vv 33 37,oo 38 (.extract (T 33) 0),oo 39 (.extract (T 33) 1),oo 13 (.alloc 26 (.agg [(.val (.int .i64 0)),(.val (.slice none 0 0)),(.val (.slice none 0 0))])),oo 14 (.alloc 26 (.agg [(.val (.int .i64 0)),(.val (.slice none 0 0)),(.val (.slice none 0 0))])),nn (.store 3 (T 13) (T 38)),nn (.store 3 (T 14) (T 39))])
 (.seq (.drawn [oo 40 (.load true 3 (T 13)),oo 41 (.load true 3 (T 14)),oo 42 (.bslice 26 3 [(T 40),(T 41)]),oo 43 (.load true 3 (T 13)),oo 44 (.load true 3 (T 13)),oo 45 (.bslice 26 3 [(T 43),(T 44)]),oo 46 (.load true 3 (T 13)),oo 47 (.load true 3 (T 13)),vv 48 3,vv 49 4,vv 50 5,oo 51 (.call (.func 11) [(T 47),(T 48),(T 49),(T 50)]),oo 52 (.bslice 26 3 [(T 46),(T 51)]),oo 53 (.load true 3 (T 13)),vv 54 1,oo 55 (.call (.func 25) [(T 54),(kk 4)]),oo 56 (.bslice 26 3 [(T 53),(T 55)]),oo 57 (.bslice 30 1 [(T 42),(T 45),(T 52),(T 56)]),vv 15 57] [])
 (.seq (.seq (.region [oo 16 (.mov (kk 0))])
 (.block 0 (.loop
 (.seq (.seq (.region [vv 58 16,vv 59 15,oo 60 (.len (T 59)),oo 61 (.ibin .lss (T 58) (T 60))])
 (.cond (T 61)
 .skip
 (.exit 0)))
 (.seq (.block 1 (.seq (.region [vv 64 15,vv 65 16,oo 66 (.idxS 1 (T 64) (T 65)),oo 67 (.load false 1 (T 66)),oo 68 (.idxS 3 (T 67) (kk 0)),oo 69 (.load true 3 (T 68)),oo 17 (.alloc 26 (.agg [(.val (.int .i64 0)),(.val (.slice none 0 0)),(.val (.slice none 0 0))])),nn (.store 3 (T 17) (T 69))])
 (.seq (.region [vv 70 15,vv 71 16,oo 72 (.idxS 1 (T 70) (T 71)),oo 73 (.load false 1 (T 72)),oo 74 (.idxS 3 (T 73) (kk 1)),oo 75 (.load true 3 (T 74)),oo 18 (.alloc 26 (.agg [(.val (.int .i64 0)),(.val (.slice none 0 0)),(.val (.slice none 0 0))])),nn (.store 3 (T 18) (T 75))])
 (.seq (.drawn [oo 77 (.load true 3 (T 17)),oo 79 (.load true 3 (T 18))] [(oo 78 (.call (.func 13) [(T 77)]),[oo 79 (.load true 3 (T 18))]),(oo 80 (.call (.func 13) [(T 79)]),[]),(oo 81 (.call (.func 26) [(T 78),(T 80)]),[]),(vv 76 81,[]),(oo 82 (.extract (T 76) 0),[]),(oo 83 (.extract (T 76) 1),[]),(oo 84 (.extract (T 76) 2),[]),(vv 19 82,[]),(vv 20 83,[]),(vv 21 84,[])])
 (.seq (.region [oo 86 (.load true 3 (T 17)),oo 87 (.load true 3 (T 18)),oo 88 (.call (.func 27) [(T 86),(T 87)]),vv 85 88,oo 89 (.extract (T 85) 0),oo 90 (.extract (T 85) 1),oo 91 (.extract (T 85) 2),vv 22 89,vv 23 90,vv 24 91])
 (.seq (.region [oo 93 (.load true 3 (T 18)),oo 94 (.call (.func 13) [(T 93)]),oo 95 (.call (.func 28) [(T 94)]),vv 92 95,oo 96 (.extract (T 92) 0),oo 97 (.extract (T 92) 1),oo 25 (.alloc 34 (.agg [(.val (.int .i64 0)),(.val (.slice none 0 0)),(.val (.slice none 0 0))])),nn (.store 3 (T 25) (T 96)),vv 26 97])
 (.seq (.region [oo 99 (.load true 3 (T 18)),oo 100 (.call (.func 29) [(T 99)]),vv 98 100,oo 101 (.extract (T 98) 0),oo 102 (.extract (T 98) 1),oo 27 (.alloc 26 (.agg [(.val (.int .i64 0)),(.val (.slice none 0 0)),(.val (.slice none 0 0))])),nn (.store 3 (T 27) (T 101)),vv 28 102])
 (.seq (.seq (.region [vv 103 21,vv 104 24,oo 105 (.ibin .neq (T 103) (T 104)),vv 106 105,vf 107 106 20,vf 108 106 23,gf 109 106 (.bbin .neq (T 107) (T 108)),oo 110 (.pick (T 106) (.const (.bool true)) (T 109)),vv 111 110,vf 112 111 26,vf 113 111 28,gf 114 111 (.ibin .neq (T 112) (T 113)),oo 115 (.pick (T 111) (.const (.bool true)) (T 114)),vv 116 115,vf 117 116 19,vf 118 116 22,gf 119 116 (.call (.func 20) [(T 117),(T 118)]),gf 120 116 (.lnot (T 119)),oo 121 (.pick (T 116) (.const (.bool true)) (T 120)),vv 122 121,gf 123 122 (.load true 3 (T 25)),gf 124 122 (.load true 3 (T 27)),gf 125 122 (.call (.func 24) [(T 123),(T 124)]),gf 126 122 (.lnot (T 125)),oo 127 (.pick (T 122) (.const (.bool true)) (T 126))])
 (.cond (T 127)
 (.seq (.region [oo 12 (.mov (.const (.bool false)))])
 .ret)
 .skip))
 (.seq (.seq (.region [vv 128 21,oo 129 (.ibin .neq (T 128) (kk 0))])
 (.cond (T 129)
 (.exit 1)
 .skip))
 (.seq (.region [oo 131 (.load true 3 (T 17)),oo 132 (.call (.func 13) [(T 131)]),oo 133 (.call (.func 22) [(T 132)]),vv 130 133,oo 134 (.extract (T 130) 0),oo 135 (.extract (T 130) 1),oo 29 (.alloc 34 (.agg [(.val (.int .i64 0)),(.val (.slice none 0 0)),(.val (.slice none 0 0))])),nn (.store 3 (T 29) (T 134)),vv 30 135])
 (.seq (.region [oo 137 (.load true 3 (T 18)),oo 138 (.call (.func 13) [(T 137)]),oo 139 (.call (.func 22) [(T 138)]),vv 136 139,oo 140 (.extract (T 136) 0),oo 141 (.extract (T 136) 1),oo 31 (.alloc 34 (.agg [(.val (.int .i64 0)),(.val (.slice none 0 0)),(.val (.slice none 0 0))])),nn (.store 3 (T 31) (T 140)),vv 32 141])
 (.seq (.drawn [vv 142 30,oo 143 (.ibin .neq (T 142) (kk 0)),vv 144 143,vf 145 144 32,gf 146 144 (.ibin .neq (T 145) (kk 0)),oo 147 (.pick (T 144) (.const (.bool true)) (T 146)),vv 148 147,vf 149 148 20,gf 150 148 (.load true 3 (T 29)),gf 151 148 (.call (.func 31) [(T 150)]),gf 152 148 (.load true 3 (T 31)),gf 153 148 (.call (.func 31) [(T 152)]),gf 154 148 (.call (.func 30) [(T 151),(T 153)]),gf 155 148 (.bbin .eql (T 149) (T 154)),oo 156 (.pick (T 148) (.const (.bool true)) (T 155)),vv 157 156,vf 158 157 20,vf 159 157 158,gt 160 159 (.load true 3 (T 17)),gt 161 159 (.call (.func 13) [(T 160)]),vt 162 159 19,gt 163 159 (.call (.func 16) [(T 161),(T 162)]),gt 164 159 (.load true 3 (T 18)),gt 165 159 (.call (.func 13) [(T 164)]),vt 166 159 19] [(gt 167 159 (.call (.func 16) [(T 165),(T 166)]),[]),(gt 168 159 (.bbin .eql (T 163) (T 167)),[]),(gf 169 157 (.pick (T 159) (T 168) (.const (.bool false))),[]),(oo 170 (.pick (T 157) (.const (.bool true)) (T 169)),[])])
 (.cond (T 170)
 (.seq (.region [oo 12 (.mov (.const (.bool false)))])
 .ret)
 .skip)))))))))))))
 (.region [vv 62 16,oo 63 (.ibin .add (T 62) (kk 1)),vv 16 63]))))))
 (.seq (.region [oo 171 (.call (.func 21) []),vv 12 171])
 .ret)))))
def c6:CCode :=
 (.seq (.region [oo 4 (.mov (.const (.bool false)))])
 (.seq (.region [vv 15 0,vv 16 1,oo 17 (.call (.func 10) [(T 15),(.const (.slice none 0 0)),(T 16)]),vv 14 17,oo 18 (.extract (T 14) 0),oo 19 (.extract (T 14) 1),oo 5 (.alloc 26 (.agg [(.val (.int .i64 0)),(.val (.slice none 0 0)),(.val (.slice none 0 0))])),oo 6 (.alloc 26 (.agg [(.val (.int .i64 0)),(.val (.slice none 0 0)),(.val (.slice none 0 0))])),nn (.store 3 (T 5) (T 18)),nn (.store 3 (T 6) (T 19))])
 (.seq (.region [oo 21 (.load true 3 (T 5)),oo 22 (.call (.func 13) [(T 21)]),oo 23 (.call (.func 18) [(T 22)]),vv 20 23,oo 24 (.extract (T 20) 0),oo 25 (.extract (T 20) 1),vv 7 24,vv 8 25])
 (.seq (.drawn [oo 27 (.load true 3 (T 5)),oo 29 (.fieldAddr 0 (T 5)),oo 30 (.load false 1 (T 29)),oo 31 (.bslice 4 1 [(.const (.bool false))]),oo 32 (.build [(.val (.int .i64 0)),(.val (.slice none 0 0)),(.val (.slice none 0 0))] [(0,(1,(T 30))),(1,(1,(T 31)))])] [(oo 28 (.call (.func 13) [(T 27)]),[oo 29 (.fieldAddr 0 (T 5)),oo 30 (.load false 1 (T 29)),oo 31 (.bslice 4 1 [(.const (.bool false))]),oo 32 (.build [(.val (.int .i64 0)),(.val (.slice none 0 0)),(.val (.slice none 0 0))] [(0,(1,(T 30))),(1,(1,(T 31)))])]),(oo 33 (.call (.func 26) [(T 28),(T 32)]),[]),(vv 26 33,[]),(oo 34 (.extract (T 26) 0),[]),(oo 35 (.extract (T 26) 1),[]),(oo 36 (.extract (T 26) 2),[]),(vv 9 34,[]),(vv 10 35,[]),(vv 11 36,[])])
 (.seq (.seq (.region [vv 37 11,oo 38 (.ibin .neq (T 37) (kk 0)),vv 39 38,vf 40 39 8,vf 41 39 10,gf 42 39 (.bbin .neq (T 40) (T 41)),oo 43 (.pick (T 39) (.const (.bool true)) (T 42)),vv 44 43,vf 45 44 7,vf 46 44 9,gf 47 44 (.call (.func 20) [(T 45),(T 46)]),gf 48 44 (.lnot (T 47)),oo 49 (.pick (T 44) (.const (.bool true)) (T 48))])
 (.cond (T 49)
 (.seq (.region [vv 50 11,oo 51 (.ibin .eql (T 50) (kk 4)),vv 52 51,gt 53 52 (.call (.func 21) []),oo 54 (.pick (T 52) (T 53) (.const (.bool false))),vv 4 54])
 .ret)
 .skip))
 (.seq (.region [oo 55 (.fieldAddr 0 (T 5)),oo 56 (.load false 1 (T 55)),oo 57 (.call (.func 32) [(T 56),(kk 4)]),vv 12 57])
 (.seq (.seq (.region [oo 13 (.mov (kk 0))])
 (.block 0 (.loop
 (.seq (.seq (.region [vv 58 13,vv 59 12,oo 60 (.len (T 59)),oo 61 (.ibin .lss (T 58) (T 60)),vv 62 61,vt 63 62 8,vt 64 62 63,vt 65 64 12,vt 66 64 13,gt 67 64 (.idxS 1 (T 65) (T 66)),gt 68 64 (.load false 1 (T 67)),vt 69 64 7,gt 70 64 (.call (.func 20) [(T 68),(T 69)]),gt 71 62 (.pick (T 64) (T 70) (.const (.bool false))),gt 72 62 (.lnot (T 71)),oo 73 (.pick (T 62) (T 72) (.const (.bool false)))])
 (.cond (T 73)
 .skip
 (.exit 0)))
 (.seq (.block 1 (.seq (.drawn [oo 76 (.load true 3 (T 5)),vv 78 12,vv 79 13,oo 80 (.idxS 1 (T 78) (T 79)),oo 81 (.load false 1 (T 80))] [(oo 77 (.call (.func 13) [(T 76)]),[vv 78 12,vv 79 13,oo 80 (.idxS 1 (T 78) (T 79)),oo 81 (.load false 1 (T 80))]),(oo 82 (.call (.func 16) [(T 77),(T 81)]),[])])
 (.cond (T 82)
 (.seq (.region [oo 4 (.mov (.const (.bool false)))])
 .ret)
 .skip)))
 (.region [vv 74 13,oo 75 (.ibin .add (T 74) (kk 1)),vv 13 75]))))))
 (.seq (.region [vv 83 8,oo 84 (.lnot (T 83)),vv 85 84,gf 86 85 (.load true 3 (T 5)),gf 87 85 (.call (.func 13) [(T 86)]),vf 88 85 7,gf 89 85 (.call (.func 16) [(T 87),(T 88)]),oo 90 (.pick (T 85) (.const (.bool true)) (T 89)),vv 91 90,gt 92 91 (.call (.func 21) []),oo 93 (.pick (T 91) (T 92) (.const (.bool false))),vv 4 93])
 .ret))))))))
def c10:CCode :=
 (.seq (.region [oo 6 (.alloc 26 (.agg [(.val (.int .i64 0)),(.val (.slice none 0 0)),(.val (.slice none 0 0))])),oo 7 (.alloc 26 (.agg [(.val (.int .i64 0)),(.val (.slice none 0 0)),(.val (.slice none 0 0))]))])
 (.seq (.region [vv 9 2,oo 10 (.call (.func 33) [(T 9),(kk 3)]),oo 11 (.ibin .add (kk 1) (T 10)),vv 8 11])
 (.seq (.region [vv 12 0,vv 13 8,oo 14 (.call (.func 25) [(T 12),(T 13)]),vv 15 1,vv 16 8,oo 17 (.call (.func 25) [(T 15),(T 16)]),nn (.store 3 (T 6) (T 14)),nn (.store 3 (T 7) (T 17))])
 .ret)))
theorem f10:fnC Try.prog 10=some (c10,18,[(.cell 6 true 3),(.cell 7 true 3)]):=by kernel_rfl
def c13:CCode :=
 (.seq (.region [oo 1 (.box 26 (T 0)),oo 2 (.alloc 34 (.agg [(.val (.int .i64 0)),(.val (.slice none 0 0)),(.val (.slice none 0 0))]))])
 (.seq (.region [oo 6 (.fieldAddr 0 (T 1)),oo 7 (.load false 1 (T 6)),oo 8 (.build [(.val (.int .i64 0)),(.val (.slice none 0 0)),(.val (.slice none 0 0))] [(0,(1,(T 7)))]),oo 3 (.alloc 34 (.agg [(.val (.int .i64 0)),(.val (.slice none 0 0)),(.val (.slice none 0 0))])),nn (.store 3 (T 3) (T 8))])
 (.seq (.region [oo 9 (.fieldAddr 1 (T 3)),oo 10 (.load false 1 (T 9)),oo 11 (.fieldAddr 1 (T 1)),oo 12 (.load false 1 (T 11)),oo 13 (.append 4 1 1 (T 10) (T 12)),oo 14 (.fieldAddr 1 (T 3)),nn (.store 1 (T 14) (T 13))])
 (.seq (.seq (.region [oo 4 (.mov (kk 0))])
 (.block 0 (.loop
 (.seq (.seq (.region [vv 15 4,oo 16 (.fieldAddr 2 (T 1)),oo 17 (.load false 1 (T 16)),oo 18 (.len (T 17)),oo 19 (.ibin .lss (T 15) (T 18))])
 (.cond (T 19)
 .skip
 (.exit 0)))
 (.seq (.block 1 (.seq (.region [oo 22 (.fieldAddr 2 (T 1)),oo 23 (.load false 1 (T 22)),vv 24 4,oo 25 (.idxS 3 (T 23) (T 24)),oo 26 (.load true 3 (T 25)),oo 5 (.alloc 71 (.agg [(.val (.int .i64 0)),(.val (.int .i64 0)),(.val (.int .i64 0))])),nn (.store 3 (T 5) (T 26))])
 (.region [oo 27 (.fieldAddr 2 (T 3)),oo 28 (.load false 1 (T 27)),oo 29 (.fieldAddr 0 (T 5)),oo 30 (.load false 1 (T 29)),oo 31 (.fieldAddr 1 (T 5)),oo 32 (.load false 1 (T 31)),oo 33 (.fieldAddr 2 (T 5)),oo 34 (.load false 1 (T 33)),oo 35 (.build [(.val (.int .i64 0)),(.val (.int .i64 0)),(.val (.int .i64 0))] [(0,(1,(T 30))),(1,(1,(T 32))),(2,(1,(T 34)))]),oo 36 (.bslice 72 3 [(T 35)]),oo 37 (.append 72 3 24 (T 28) (T 36)),oo 38 (.fieldAddr 2 (T 3)),nn (.store 1 (T 38) (T 37))])))
 (.region [vv 20 4,oo 21 (.ibin .add (T 20) (kk 1)),vv 4 21]))))))
 (.seq (.region [oo 39 (.load true 3 (T 3)),nn (.store 3 (T 2) (T 39))])
 .ret)))))
theorem f13:fnC Try.prog 13=some (c13,40,[(.cell 2 true 3)]):=by kernel_rfl
def c14:CCode :=
 (.seq (.region [oo 1 (.box 34 (T 0)),oo 2 (.mov (kk 0))])
 (.seq (.region [oo 4 (.fieldAddr 1 (T 1)),oo 5 (.load false 1 (T 4)),oo 6 (.len (T 5)),oo 3 (.alloc 3 (.val (.int .i64 0))),nn (.store 1 (T 3) (T 6))])
 (.seq (.seq (.region [oo 7 (.fieldAddr 0 (T 1)),oo 8 (.load false 1 (T 7)),oo 9 (.ibin .gtr (T 8) (kk 64)),vv 10 9,gf 11 10 (.load false 1 (T 3)),gf 12 10 (.ibin .gtr (T 11) (kk 256)),oo 13 (.pick (T 10) (.const (.bool true)) (T 12)),vv 14 13,gf 15 14 (.fieldAddr 2 (T 1)),gf 16 14 (.load false 1 (T 15)),gf 17 14 (.len (T 16)),gf 18 14 (.ibin .gtr (T 17) (kk 4096)),oo 19 (.pick (T 14) (.const (.bool true)) (T 18))])
 (.cond (T 19)
 (.seq (.region [oo 2 (.mov (kk 4))])
 .ret)
 .skip))
 (.seq (.seq (.region [oo 20 (.fieldAddr 0 (T 1)),oo 21 (.load false 1 (T 20)),oo 22 (.ibin .lss (T 21) (kk 1)),vv 23 22,gf 24 23 (.load false 1 (T 3)),gf 25 23 (.ibin .lss (T 24) (kk 1)),oo 26 (.pick (T 23) (.const (.bool true)) (T 25)),vv 27 26,gf 28 27 (.fieldAddr 2 (T 1)),gf 29 27 (.load false 1 (T 28)),gf 30 27 (.mkfunc (.func 40) [(T 3),(T 1)]),gf 31 27 (.call (.func 39) [(T 29),(T 30)]),oo 32 (.pick (T 27) (.const (.bool true)) (T 31))])
 (.cond (T 32)
 (.seq (.region [oo 2 (.mov (kk 1))])
 .ret)
 .skip))
 (.seq (.region [oo 2 (.mov (kk 0))])
 .ret)))))
theorem f14:fnC Try.prog 14=some (c14,33,[(.tmp 2)]):=by kernel_rfl
def c15:CCode :=
 (.seq (.region [oo 1 (.box 26 (T 0)),oo 2 (.mov (kk 0))])
 (.seq (.region [oo 6 (.fieldAddr 1 (T 1)),oo 7 (.load false 1 (T 6)),oo 8 (.len (T 7)),vv 3 8])
 (.seq (.seq (.region [oo 9 (.fieldAddr 0 (T 1)),oo 10 (.load false 1 (T 9)),oo 11 (.ibin .gtr (T 10) (kk 64)),vv 12 11,vf 13 12 3,gf 14 12 (.ibin .gtr (T 13) (kk 256)),oo 15 (.pick (T 12) (.const (.bool true)) (T 14)),vv 16 15,gf 17 16 (.fieldAddr 2 (T 1)),gf 18 16 (.load false 1 (T 17)),gf 19 16 (.len (T 18)),gf 20 16 (.ibin .gtr (T 19) (kk 4096)),oo 21 (.pick (T 16) (.const (.bool true)) (T 20))])
 (.cond (T 21)
 (.seq (.region [oo 2 (.mov (kk 4))])
 .ret)
 .skip))
 (.seq (.seq (.region [oo 22 (.fieldAddr 0 (T 1)),oo 23 (.load false 1 (T 22)),oo 24 (.ibin .lss (T 23) (kk 1)),vv 25 24,vf 26 25 3,gf 27 25 (.ibin .lss (T 26) (kk 1)),oo 28 (.pick (T 25) (.const (.bool true)) (T 27))])
 (.cond (T 28)
 (.seq (.region [oo 2 (.mov (kk 1))])
 .ret)
 .skip))
 (.seq (.seq (.region [oo 4 (.mov (kk 0))])
 (.block 0 (.loop
 (.seq (.seq (.region [vv 29 4,oo 30 (.fieldAddr 2 (T 1)),oo 31 (.load false 1 (T 30)),oo 32 (.len (T 31)),oo 33 (.ibin .lss (T 29) (T 32))])
 (.cond (T 33)
 .skip
 (.exit 0)))
 (.seq (.block 1 (.seq (.region [oo 36 (.fieldAddr 2 (T 1)),oo 37 (.load false 1 (T 36)),vv 38 4,oo 39 (.idxS 3 (T 37) (T 38)),oo 40 (.load true 3 (T 39)),oo 5 (.alloc 71 (.agg [(.val (.int .i64 0)),(.val (.int .i64 0)),(.val (.int .i64 0))])),nn (.store 3 (T 5) (T 40))])
 (.seq (.region [oo 41 (.fieldAddr 0 (T 5)),oo 42 (.load false 1 (T 41)),oo 43 (.ibin .lss (T 42) (kk 0)),vv 44 43,gf 45 44 (.fieldAddr 0 (T 5)),gf 46 44 (.load false 1 (T 45)),vf 47 44 3,gf 48 44 (.ibin .geq (T 46) (T 47)),oo 49 (.pick (T 44) (.const (.bool true)) (T 48)),vv 50 49,gf 51 50 (.fieldAddr 2 (T 5)),gf 52 50 (.load false 1 (T 51)),gf 53 50 (.ibin .lss (T 52) (kk 0)),oo 54 (.pick (T 50) (.const (.bool true)) (T 53)),vv 55 54,gf 56 55 (.fieldAddr 2 (T 5)),gf 57 55 (.load false 1 (T 56)),vf 58 55 3,gf 59 55 (.ibin .geq (T 57) (T 58)),oo 60 (.pick (T 55) (.const (.bool true)) (T 59)),vv 61 60,gf 62 61 (.fieldAddr 1 (T 5)),gf 63 61 (.load false 1 (T 62)),gf 64 61 (.ibin .lss (T 63) (kk (-1))),oo 65 (.pick (T 61) (.const (.bool true)) (T 64)),vv 66 65,gf 67 66 (.fieldAddr 1 (T 5)),gf 68 66 (.load false 1 (T 67)),gf 69 66 (.fieldAddr 0 (T 1)),gf 70 66 (.load false 1 (T 69)),gf 71 66 (.ibin .geq (T 68) (T 70)),oo 72 (.pick (T 66) (.const (.bool true)) (T 71))])
 (.cond (T 72)
 (.seq (.region [oo 2 (.mov (kk 1))])
 .ret)
 .skip))))
 (.region [vv 34 4,oo 35 (.ibin .add (T 34) (kk 1)),vv 4 35]))))))
 (.seq (.region [oo 2 (.mov (kk 0))])
 .ret))))))
theorem f15:fnC Try.prog 15=some (c15,73,[(.tmp 2)]):=by kernel_rfl
def c16:CCode :=
 (.seq (.region [oo 2 (.box 34 (T 0)),oo 4 (.mov (.const (.bool false)))])
 (.seq (.seq (.region [oo 9 (.load true 3 (T 2)),oo 10 (.call (.func 14) [(T 9)]),oo 11 (.ibin .neq (T 10) (kk 0))])
 (.cond (T 11)
 (.seq (.region [oo 4 (.mov (.const (.bool false)))])
 .ret)
 .skip))
 (.seq (.region [oo 12 (.load true 3 (T 2)),oo 13 (.call (.func 41) [(T 12)]),vv 5 13])
 (.seq (.region [vv 14 5,oo 15 (.nilCheck (T 14)),oo 16 (.fieldAddr 6 (T 15)),oo 17 (.load true 4 (T 16)),oo 6 (.alloc 79 (.agg [(.val (.int .u64 0)),(.val (.int .u64 0)),(.val (.int .u64 0)),(.val (.int .u64 0))])),nn (.store 4 (T 6) (T 17))])
 (.seq (.seq (.region [vv 18 1,oo 19 (.len (T 18)),oo 20 (.mov (kk 0))])
 (.block 0 (.loop
 (.seq (.region [oo 21 (.ibin .lss (T 20) (T 19))])
 (.seq (.cond (T 21)
 .skip
 (.exit 0))
 (.seq (.block 1 (.seq (.region [oo 22 (.idxS 1 (T 18) (T 20)),oo 23 (.load false 1 (T 22)),vv 8 23])
 (.seq (.seq (.region [vv 24 8,oo 25 (.ibin .lss (T 24) (kk 0)),vv 26 25,vf 27 26 8,gf 28 26 (.fieldAddr 0 (T 2)),gf 29 26 (.load false 1 (T 28)),gf 30 26 (.ibin .geq (T 27) (T 29)),oo 31 (.pick (T 26) (.const (.bool true)) (T 30))])
 (.cond (T 31)
 (.seq (.region [oo 4 (.mov (.const (.bool false)))])
 .ret)
 .skip))
 (.region [vv 32 5,oo 33 (.load true 4 (T 6)),vv 34 8,oo 35 (.call (.func 42) [(T 32),(T 33),(T 34)]),nn (.store 4 (T 6) (T 35))]))))
 (.region [oo 36 (.ibin .add (T 20) (kk 1)),vv 20 36])))))))
 (.seq (.drawn [oo 37 (.load true 4 (T 6)),vv 38 5,oo 39 (.nilCheck (T 38)),oo 40 (.fieldAddr 1 (T 39)),oo 41 (.load true 4 (T 40))] [(oo 42 (.call (.func 43) [(T 37),(T 41)]),[]),(vv 4 42,[])])
 .ret))))))
theorem f16:fnC Try.prog 16=some (c16,43,[(.tmp 4)]):=by kernel_rfl
def c17:CCode :=
 (.seq (.region [oo 2 (.box 26 (T 0)),oo 4 (.mov (.const (.bool false)))])
 (.seq (.seq (.region [oo 7 (.load true 3 (T 2)),oo 8 (.call (.func 15) [(T 7)]),oo 9 (.ibin .neq (T 8) (kk 0))])
 (.cond (T 9)
 (.seq (.region [oo 4 (.mov (.const (.bool false)))])
 .ret)
 .skip))
 (.seq (.region [oo 10 (.load true 3 (T 2)),oo 11 (.call (.func 44) [(T 10)]),vv 5 11])
 (.seq (.seq (.region [oo 6 (.mov (kk 0))])
 (.block 0 (.loop
 (.seq (.seq (.region [vv 12 6,vv 13 1,oo 14 (.len (T 13)),oo 15 (.ibin .lss (T 12) (T 14))])
 (.cond (T 15)
 .skip
 (.exit 0)))
 (.seq (.block 1 (.seq (.seq (.drawn [vv 18 1,vv 19 6,oo 20 (.idxS 1 (T 18) (T 19)),oo 21 (.load false 1 (T 20)),oo 22 (.ibin .lss (T 21) (kk 0)),vv 23 22,vf 24 23 1,vf 25 23 6,gf 26 23 (.idxS 1 (T 24) (T 25)),gf 27 23 (.load false 1 (T 26)),gf 28 23 (.fieldAddr 0 (T 2)),gf 29 23 (.load false 1 (T 28)),gf 30 23 (.ibin .geq (T 27) (T 29)),oo 31 (.pick (T 23) (.const (.bool true)) (T 30))] [])
 (.cond (T 31)
 (.seq (.region [oo 4 (.mov (.const (.bool false)))])
 .ret)
 .skip))
 (.drawn [oo 33 (.load true 3 (T 2)),vv 34 5,vv 35 1,vv 36 6,oo 37 (.idxS 1 (T 35) (T 36)),oo 38 (.load false 1 (T 37))] [(oo 39 (.call (.func 45) [(T 33),(T 34),(T 38)]),[]),(vv 32 39,[]),(oo 40 (.extract (T 32) 0),[]),(oo 41 (.extract (T 32) 1),[]),(vv 5 40,[])])))
 (.region [vv 16 6,oo 17 (.ibin .add (T 16) (kk 1)),vv 6 17]))))))
 (.seq (.region [oo 42 (.load true 3 (T 2)),vv 43 5,oo 44 (.call (.func 46) [(T 42),(T 43)]),vv 4 44])
 .ret)))))
theorem f17:fnC Try.prog 17=some (c17,45,[(.tmp 4)]):=by kernel_rfl
def c18:CCode :=
 (.seq (.region [oo 1 (.box 34 (T 0)),oo 2 (.mov (.const (.slice none 0 0))),oo 3 (.mov (.const (.bool false)))])
 (.seq (.seq (.region [oo 12 (.load true 3 (T 1)),oo 13 (.call (.func 14) [(T 12)]),oo 14 (.ibin .neq (T 13) (kk 0))])
 (.cond (T 14)
 (.seq (.region [oo 2 (.mov (.const (.slice none 0 0))),oo 3 (.mov (.const (.bool false)))])
 .ret)
 .skip))
 (.seq (.region [oo 15 (.load true 3 (T 1)),oo 16 (.call (.func 41) [(T 15)]),vv 4 16])
 (.seq (.region [vv 17 4,oo 18 (.nilCheck (T 17)),oo 19 (.fieldAddr 6 (T 18)),oo 20 (.load true 4 (T 19)),oo 5 (.alloc 79 (.agg [(.val (.int .u64 0)),(.val (.int .u64 0)),(.val (.int .u64 0)),(.val (.int .u64 0))])),nn (.store 4 (T 5) (T 20))])
 (.seq (.seq (.region [vv 21 4,oo 22 (.nilCheck (T 21)),oo 23 (.fieldAddr 6 (T 22)),oo 24 (.load true 4 (T 23)),oo 25 (.build [(.val (.int .u64 0)),(.val (.int .u64 0)),(.val (.int .u64 0)),(.val (.int .u64 0)),(.val (.slice none 0 0))] [(0,(4,(T 24)))]),oo 26 (.bslice 90 5 [(T 25)]),vv 6 26])
 (.block 0 (.loop
 (.seq (.seq (.region [vv 27 6,oo 28 (.len (T 27)),oo 29 (.ibin .gtr (T 28) (kk 0))])
 (.cond (T 29)
 .skip
 (.exit 0)))
 (.seq (.block 1 (.seq (.seq (.drawn [vv 32 6,oo 33 (.idxS 5 (T 32) (kk 0)),oo 34 (.fieldAddr 0 (T 33)),oo 35 (.load true 4 (T 34)),vv 36 4,oo 37 (.nilCheck (T 36)),oo 38 (.fieldAddr 1 (T 37)),oo 39 (.load true 4 (T 38))] [(oo 40 (.call (.func 43) [(T 35),(T 39)]),[])])
 (.cond (T 40)
 (.seq (.region [vv 41 6,oo 42 (.idxS 5 (T 41) (kk 0)),oo 43 (.fieldAddr 4 (T 42)),oo 44 (.load false 1 (T 43)),vv 2 44,oo 3 (.mov (.const (.bool true)))])
 .ret)
 .skip))
 (.seq (.region [oo 45 (.fieldAddr 0 (T 1)),oo 46 (.load false 1 (T 45)),oo 47 (.mov (kk 0))])
 (.block 2 (.loop
 (.seq (.region [oo 48 (.ibin .lss (T 47) (T 46))])
 (.seq (.cond (T 48)
 .skip
 (.exit 2))
 (.seq (.block 3 (.seq (.region [vv 49 47,vv 7 49])
 (.seq (.region [vv 50 4,vv 51 6,oo 52 (.idxS 5 (T 51) (kk 0)),oo 53 (.fieldAddr 0 (T 52)),oo 54 (.load true 4 (T 53)),vv 55 7,oo 56 (.call (.func 42) [(T 50),(T 54),(T 55)]),oo 8 (.alloc 79 (.agg [(.val (.int .u64 0)),(.val (.int .u64 0)),(.val (.int .u64 0)),(.val (.int .u64 0))])),nn (.store 4 (T 8) (T 56))])
 (.seq (.region [oo 9 (.mov (.const (.bool false)))])
 (.seq (.seq (.region [oo 57 (.load true 4 (T 8)),oo 58 (.mov (kk 0))])
 (.block 4 (.loop
 (.seq (.region [oo 59 (.ibin .lss (T 58) (kk 4))])
 (.seq (.cond (T 59)
 .skip
 (.exit 4))
 (.seq (.block 5 (.seq (.region [vv 60 58,oo 61 (.idxV false 4 1 (T 57) (T 58)),vv 10 60,vv 11 61])
 (.seq (.region [vv 62 9,vv 63 62,vf 64 63 11,vf 65 63 10,gf 66 63 (.idxA 4 1 (T 5) (T 65)),gf 67 63 (.load false 1 (T 66)),gf 68 63 (.ibin .andNot (T 64) (T 67)),gf 69 63 (.ibin .neq (T 68) (.const (.int .u64 0))),oo 70 (.pick (T 63) (.const (.bool true)) (T 69)),vv 9 70])
 (.region [vv 71 10,oo 72 (.idxA 4 1 (T 5) (T 71)),oo 73 (.load false 1 (T 72)),vv 74 11,oo 75 (.ibin .or (T 73) (T 74)),oo 76 (.idxA 4 1 (T 5) (T 71)),nn (.store 1 (T 76) (T 75))]))))
 (.region [oo 77 (.ibin .add (T 58) (kk 1)),vv 58 77])))))))
 (.seq (.region [vv 78 9])
 (.cond (T 78)
 (.drawn [vv 79 6,oo 80 (.load true 4 (T 8)),vv 81 6,oo 82 (.idxS 5 (T 81) (kk 0)),oo 83 (.fieldAddr 4 (T 82)),oo 84 (.load false 1 (T 83)),oo 85 (.call (.func 47) [(T 84)]),vv 86 7,oo 87 (.bslice 3 1 [(T 86)])] [(oo 88 (.append 3 1 8 (T 85) (T 87)),[vv 79 6,oo 80 (.load true 4 (T 8))]),(oo 89 (.build [(.val (.int .u64 0)),(.val (.int .u64 0)),(.val (.int .u64 0)),(.val (.int .u64 0)),(.val (.slice none 0 0))] [(0,(4,(T 80))),(4,(1,(T 88)))]),[vv 79 6]),(oo 90 (.bslice 90 5 [(T 89)]),[vv 79 6]),(oo 91 (.append 90 5 56 (T 79) (T 90)),[]),(vv 6 91,[])])
 .skip)))))))
 (.region [oo 92 (.ibin .add (T 47) (kk 1)),vv 47 92])))))))))
 (.region [vv 30 6,oo 31 (.slice 5 (T 30) (some (kk 1)) none),vv 6 31]))))))
 (.seq (.region [oo 2 (.mov (.const (.slice none 0 0))),oo 3 (.mov (.const (.bool false)))])
 .ret))))))
theorem f18:fnC Try.prog 18=some (c18,93,[(.tmp 2),(.tmp 3)]):=by kernel_rfl
def c20:CCode :=
 (.seq (.region [oo 4 (.mov (.const (.bool false)))])
 (.seq (.seq (.region [vv 6 0,oo 7 (.len (T 6)),vv 8 1,oo 9 (.len (T 8)),oo 10 (.ibin .neq (T 7) (T 9))])
 (.cond (T 10)
 (.seq (.region [oo 4 (.mov (.const (.bool false)))])
 .ret)
 .skip))
 (.seq (.seq (.region [oo 5 (.mov (kk 0))])
 (.block 0 (.loop
 (.seq (.seq (.region [vv 11 5,vv 12 0,oo 13 (.len (T 12)),oo 14 (.ibin .lss (T 11) (T 13))])
 (.cond (T 14)
 .skip
 (.exit 0)))
 (.seq (.block 1 (.seq (.drawn [vv 17 0,vv 18 5,oo 19 (.idxS 1 (T 17) (T 18)),oo 20 (.load false 1 (T 19)),vv 21 1,vv 22 5,oo 23 (.idxS 1 (T 21) (T 22)),oo 24 (.load false 1 (T 23)),oo 25 (.ibin .neq (T 20) (T 24))] [])
 (.cond (T 25)
 (.seq (.region [oo 4 (.mov (.const (.bool false)))])
 .ret)
 .skip)))
 (.region [vv 15 5,oo 16 (.ibin .add (T 15) (kk 1)),vv 5 16]))))))
 (.seq (.region [oo 4 (.mov (.const (.bool true)))])
 .ret))))
theorem f20:fnC Try.prog 20=some (c20,26,[(.tmp 4)]):=by kernel_rfl
def c21:CCode :=
 (.seq (.region [oo 0 (.mov (.const (.bool false)))])
 (.seq (.region [oo 15 (.bslice 4 1 [(.const (.bool false)),(.const (.bool false)),(.const (.bool true))]),oo 16 (.build [(.val (.int .i64 0)),(.val (.int .i64 0)),(.val (.int .i64 0))] [(0,(1,(kk 0))),(1,(1,(kk 0))),(2,(1,(kk 0)))]),oo 17 (.build [(.val (.int .i64 0)),(.val (.int .i64 0)),(.val (.int .i64 0))] [(0,(1,(kk 0))),(1,(1,(kk 1))),(2,(1,(kk 0)))]),oo 18 (.build [(.val (.int .i64 0)),(.val (.int .i64 0)),(.val (.int .i64 0))] [(0,(1,(kk 0))),(1,(1,(kk 1))),(2,(1,(kk 1)))]),oo 19 (.build [(.val (.int .i64 0)),(.val (.int .i64 0)),(.val (.int .i64 0))] [(0,(1,(kk 1))),(1,(1,(kk 0))),(2,(1,(kk 2)))]),oo 20 (.build [(.val (.int .i64 0)),(.val (.int .i64 0)),(.val (.int .i64 0))] [(0,(1,(kk 1))),(1,(1,(kk 1))),(2,(1,(kk 2)))]),oo 21 (.bslice 72 3 [(T 16),(T 17),(T 18),(T 19),(T 20)]),oo 22 (.build [(.val (.int .i64 0)),(.val (.slice none 0 0)),(.val (.slice none 0 0))] [(0,(1,(kk 2))),(1,(1,(T 15))),(2,(1,(T 21)))]),oo 1 (.alloc 34 (.agg [(.val (.int .i64 0)),(.val (.slice none 0 0)),(.val (.slice none 0 0))])),nn (.store 3 (T 1) (T 22))])
 (.seq (.region [oo 24 (.load true 3 (T 1)),oo 25 (.call (.func 22) [(T 24)]),vv 23 25,oo 26 (.extract (T 23) 0),oo 27 (.extract (T 23) 1),oo 2 (.alloc 34 (.agg [(.val (.int .i64 0)),(.val (.slice none 0 0)),(.val (.slice none 0 0))])),nn (.store 3 (T 2) (T 26)),vv 3 27])
 (.seq (.region [oo 29 (.load true 3 (T 1)),oo 30 (.call (.func 28) [(T 29)]),vv 28 30,oo 31 (.extract (T 28) 0),oo 32 (.extract (T 28) 1),oo 4 (.alloc 34 (.agg [(.val (.int .i64 0)),(.val (.slice none 0 0)),(.val (.slice none 0 0))])),nn (.store 3 (T 4) (T 31)),vv 5 32])
 (.seq (.region [oo 34 (.load true 3 (T 1)),oo 35 (.load true 3 (T 4)),oo 36 (.call (.func 26) [(T 34),(T 35)]),vv 33 36,oo 37 (.extract (T 33) 0),oo 38 (.extract (T 33) 1),oo 39 (.extract (T 33) 2),vv 6 37,vv 7 38,vv 8 39])
 (.seq (.region [oo 41 (.load true 3 (T 1)),oo 42 (.call (.func 18) [(T 41)]),vv 40 42,oo 43 (.extract (T 40) 0),oo 44 (.extract (T 40) 1),vv 9 43,vv 10 44])
 (.seq (.region [oo 45 (.bslice 4 1 [(.const (.bool false)),(.const (.bool false)),(.const (.bool true)),(.const (.bool true))]),oo 46 (.build [(.val (.int .i64 0)),(.val (.int .i64 0)),(.val (.int .i64 0))] [(0,(1,(kk 0))),(1,(1,(kk 0))),(2,(1,(kk 0)))]),oo 47 (.build [(.val (.int .i64 0)),(.val (.int .i64 0)),(.val (.int .i64 0))] [(0,(1,(kk 0))),(1,(1,(kk 1))),(2,(1,(kk 1)))]),oo 48 (.build [(.val (.int .i64 0)),(.val (.int .i64 0)),(.val (.int .i64 0))] [(0,(1,(kk 1))),(1,(1,(kk 0))),(2,(1,(kk 2)))]),oo 49 (.build [(.val (.int .i64 0)),(.val (.int .i64 0)),(.val (.int .i64 0))] [(0,(1,(kk 1))),(1,(1,(kk 1))),(2,(1,(kk 3)))]),oo 50 (.build [(.val (.int .i64 0)),(.val (.int .i64 0)),(.val (.int .i64 0))] [(0,(1,(kk 2))),(1,(1,(kk 0))),(2,(1,(kk 0)))]),oo 51 (.build [(.val (.int .i64 0)),(.val (.int .i64 0)),(.val (.int .i64 0))] [(0,(1,(kk 2))),(1,(1,(kk 1))),(2,(1,(kk 1)))]),oo 52 (.build [(.val (.int .i64 0)),(.val (.int .i64 0)),(.val (.int .i64 0))] [(0,(1,(kk 3))),(1,(1,(kk 0))),(2,(1,(kk 2)))]),oo 53 (.build [(.val (.int .i64 0)),(.val (.int .i64 0)),(.val (.int .i64 0))] [(0,(1,(kk 3))),(1,(1,(kk 1))),(2,(1,(kk 3)))]),oo 54 (.bslice 71 3 [(T 46),(T 47),(T 48),(T 49),(T 50),(T 51),(T 52),(T 53)]),oo 55 (.build [(.val (.int .i64 0)),(.val (.slice none 0 0)),(.val (.slice none 0 0))] [(0,(1,(kk 2))),(1,(1,(T 45))),(2,(1,(T 54)))]),oo 11 (.alloc 26 (.agg [(.val (.int .i64 0)),(.val (.slice none 0 0)),(.val (.slice none 0 0))])),nn (.store 3 (T 11) (T 55))])
 (.seq (.region [oo 57 (.load true 3 (T 1)),oo 58 (.call (.func 35) [(T 57)]),vv 56 58,oo 59 (.extract (T 56) 0),oo 60 (.extract (T 56) 1),oo 12 (.alloc 34 (.agg [(.val (.int .i64 0)),(.val (.slice none 0 0)),(.val (.slice none 0 0))])),nn (.store 3 (T 12) (T 59)),vv 13 60])
 (.seq (.seq (.region [vv 61 3,oo 62 (.ibin .neq (T 61) (kk 0)),vv 63 62,vf 64 63 5,gf 65 63 (.ibin .neq (T 64) (kk 0)),oo 66 (.pick (T 63) (.const (.bool true)) (T 65)),vv 67 66,vf 68 67 8,gf 69 67 (.ibin .neq (T 68) (kk 0)),oo 70 (.pick (T 67) (.const (.bool true)) (T 69)),vv 71 70,vf 72 71 13,gf 73 71 (.ibin .neq (T 72) (kk 0)),oo 74 (.pick (T 71) (.const (.bool true)) (T 73)),vv 75 74,vf 76 75 7,gf 77 75 (.lnot (T 76)),oo 78 (.pick (T 75) (.const (.bool true)) (T 77)),vv 79 78,vf 80 79 10,gf 81 79 (.lnot (T 80)),oo 82 (.pick (T 79) (.const (.bool true)) (T 81)),vv 83 82,gf 84 83 (.fieldAddr 1 (T 12)),gf 85 83 (.load false 1 (T 84)),gf 86 83 (.len (T 85)),gf 87 83 (.ibin .neq (T 86) (kk 4)),oo 88 (.pick (T 83) (.const (.bool true)) (T 87))])
 (.cond (T 88)
 (.seq (.region [oo 0 (.mov (.const (.bool false)))])
 .ret)
 .skip))
 (.seq (.region [vv 89 6,oo 90 (.bslice 3 1 [(kk 0),(kk 1)]),oo 91 (.call (.func 20) [(T 89),(T 90)]),vv 92 91,vt 93 92 9,gt 94 92 (.bslice 3 1 [(kk 1),(kk 0)]),gt 95 92 (.call (.func 20) [(T 93),(T 94)]),oo 96 (.pick (T 92) (T 95) (.const (.bool false))),vv 14 96])
 (.seq (.region [vv 97 14,vv 98 97,gt 99 98 (.load true 3 (T 2)),gt 100 98 (.load true 3 (T 11)),gt 101 98 (.call (.func 24) [(T 99),(T 100)]),oo 102 (.pick (T 98) (T 101) (.const (.bool false))),vv 103 102,gt 104 103 (.fieldAddr 1 (T 12)),gt 105 103 (.load false 1 (T 104)),gt 106 103 (.idxS 1 (T 105) (kk 0)),gt 107 103 (.load false 1 (T 106)),oo 108 (.pick (T 103) (T 107) (.const (.bool false))),vv 109 108,gt 110 109 (.fieldAddr 1 (T 12)),gt 111 109 (.load false 1 (T 110)),gt 112 109 (.idxS 1 (T 111) (kk 1)),gt 113 109 (.load false 1 (T 112)),oo 114 (.pick (T 109) (T 113) (.const (.bool false))),vv 115 114,gt 116 115 (.fieldAddr 1 (T 12)),gt 117 115 (.load false 1 (T 116)),gt 118 115 (.idxS 1 (T 117) (kk 2)),gt 119 115 (.load false 1 (T 118)),gt 120 115 (.lnot (T 119)),oo 121 (.pick (T 115) (T 120) (.const (.bool false))),vv 122 121,gt 123 122 (.load true 3 (T 1)),gt 124 122 (.bslice 3 1 [(kk 0),(kk 1),(kk 0)]),gt 125 122 (.call (.func 16) [(T 123),(T 124)]),oo 126 (.pick (T 122) (T 125) (.const (.bool false))),vv 127 126,gt 128 127 (.load true 3 (T 1)),gt 129 127 (.bslice 3 1 [(kk 1),(kk 0),(kk 0)]),gt 130 127 (.call (.func 16) [(T 128),(T 129)]),gt 131 127 (.lnot (T 130)),oo 132 (.pick (T 127) (T 131) (.const (.bool false))),vv 0 132])
 .ret)))))))))))
theorem f21:fnC Try.prog 21=some (c21,133,[(.tmp 0)]):=by kernel_rfl
def c22:CCode :=
 (.seq (.region [oo 1 (.box 34 (T 0)),oo 2 (.alloc 34 (.agg [(.val (.int .i64 0)),(.val (.slice none 0 0)),(.val (.slice none 0 0))])),oo 3 (.mov (kk 0))])
 (.seq (.seq (.region [oo 8 (.load true 3 (T 1)),oo 9 (.call (.func 14) [(T 8)]),vv 4 9])
 (.seq (.region [vv 10 4,oo 11 (.ibin .neq (T 10) (kk 0))])
 (.cond (T 11)
 (.seq (.region [oo 12 (.build [(.val (.int .i64 0)),(.val (.slice none 0 0)),(.val (.slice none 0 0))] []),vv 13 4,nn (.store 3 (T 2) (T 12)),vv 3 13])
 .ret)
 .skip)))
 (.seq (.region [oo 14 (.load true 3 (T 1)),oo 15 (.call (.func 41) [(T 14)]),oo 5 (.alloc 75 (.val (.pointer none))),nn (.store 1 (T 5) (T 15))])
 (.seq (.drawn [oo 17 (.load false 1 (T 5)),oo 18 (.nilCheck (T 17)),oo 19 (.fieldAddr 6 (T 18)),oo 20 (.load true 4 (T 19)),oo 21 (.fieldAddr 0 (T 1)),oo 22 (.load false 1 (T 21)),oo 23 (.load false 1 (T 5)),oo 24 (.nilCheck (T 23)),oo 25 (.fieldAddr 1 (T 24)),oo 26 (.load true 4 (T 25)),oo 27 (.mkfunc (.via 0 #[] 43 false) [(T 26)]),oo 28 (.mkfunc (.func 49) [(T 5)]),oo 29 (.call (.func 48) [(T 20),(T 22),(T 27),(T 28)]),vv 16 29,oo 30 (.extract (T 16) 0),oo 31 (.extract (T 16) 1),oo 6 (.alloc 97 (.agg [(.val (.int .i64 0)),(.val (.slice none 0 0)),(.val (.slice none 0 0))]))] [(nn (.store 3 (T 6) (T 30)),[]),(vv 7 31,[])])
 (.seq (.seq (.region [vv 32 7,oo 33 (.ibin .neq (T 32) (kk 0))])
 (.cond (T 33)
 (.seq (.region [oo 34 (.build [(.val (.int .i64 0)),(.val (.slice none 0 0)),(.val (.slice none 0 0))] []),vv 35 7,nn (.store 3 (T 2) (T 34)),vv 3 35])
 .ret)
 .skip))
 (.seq (.region [oo 36 (.load true 3 (T 6)),oo 37 (.call (.func 50) [(T 36)]),oo 38 (.extract (T 37) 0),oo 39 (.extract (T 37) 1),nn (.store 3 (T 2) (T 38)),vv 3 39])
 .ret))))))
theorem f22:fnC Try.prog 22=some (c22,40,[(.cell 2 true 3),(.tmp 3)]):=by kernel_rfl
def c24:CCode :=
 (.seq (.region [oo 2 (.box 34 (T 0)),oo 3 (.box 26 (T 1)),oo 4 (.mov (.const (.bool false)))])
 (.seq (.drawn [oo 5 (.load true 3 (T 2)),oo 7 (.load true 3 (T 3))] [(oo 6 (.call (.func 31) [(T 5)]),[oo 7 (.load true 3 (T 3))]),(oo 8 (.call (.func 30) [(T 6),(T 7)]),[]),(vv 4 8,[])])
 .ret))
theorem f24:fnC Try.prog 24=some (c24,9,[(.tmp 4)]):=by kernel_rfl
def c25:CCode :=
 (.seq (.region [oo 4 (.alloc 26 (.agg [(.val (.int .i64 0)),(.val (.slice none 0 0)),(.val (.slice none 0 0))]))])
 (.seq (.region [vv 12 0,oo 13 (.call (.func 54) [(T 12),(kk 0),(kk 6)]),oo 14 (.ibin .add (kk 1) (T 13)),vv 5 14])
 (.seq (.region [vv 15 1,vv 16 5,oo 17 (.mkslice 4 1 1 (.val (.bool false)) (T 16) (T 16)),oo 18 (.build [(.val (.int .i64 0)),(.val (.slice none 0 0)),(.val (.slice none 0 0))] [(0,(1,(T 15))),(1,(1,(T 17)))]),oo 6 (.alloc 26 (.agg [(.val (.int .i64 0)),(.val (.slice none 0 0)),(.val (.slice none 0 0))])),nn (.store 3 (T 6) (T 18))])
 (.seq (.region [vv 19 0,oo 20 (.call (.func 54) [(T 19),(kk 1),(kk 64)]),vv 7 20])
 (.seq (.seq (.region [oo 8 (.mov (kk 0))])
 (.block 0 (.loop
 (.seq (.seq (.region [vv 21 8,vv 22 5,oo 23 (.ibin .lss (T 21) (T 22))])
 (.cond (T 23)
 .skip
 (.exit 0)))
 (.seq (.block 1 (.region [oo 26 (.fieldAddr 1 (T 6)),oo 27 (.load false 1 (T 26)),vv 28 8,vv 29 7,vv 30 8,oo 31 (.conv .u64 (T 30)),oo 32 (.ibin .shr (T 29) (T 31)),oo 33 (.ibin .rem (T 32) (kk 2)),oo 34 (.ibin .eql (T 33) (kk 1)),oo 35 (.idxS 1 (T 27) (T 28)),nn (.store 1 (T 35) (T 34))]))
 (.region [vv 24 8,oo 25 (.ibin .add (T 24) (kk 1)),vv 8 25]))))))
 (.seq (.seq (.region [oo 9 (.mov (kk 2))])
 (.block 2 (.loop
 (.seq (.seq (.region [vv 36 9,vv 37 0,oo 38 (.len (T 37)),oo 39 (.ibin .lss (T 36) (T 38)),vv 40 39,vt 41 40 9,gt 42 40 (.ibin .lss (T 41) (kk 20)),oo 43 (.pick (T 40) (T 42) (.const (.bool false)))])
 (.cond (T 43)
 .skip
 (.exit 2)))
 (.seq (.block 3 (.seq (.region [vv 46 0,vv 47 9,oo 48 (.call (.func 54) [(T 46),(T 47),(kk 1048576)]),vv 10 48])
 (.seq (.region [vv 49 10,oo 50 (.ibin .quo (T 49) (kk 36)),vv 51 1,oo 52 (.ibin .mul (kk 4) (T 51)),oo 53 (.ibin .add (T 52) (kk 1)),oo 54 (.ibin .rem (T 50) (T 53)),oo 55 (.ibin .quo (T 54) (kk 4)),vv 11 55])
 (.seq (.seq (.region [vv 56 11,vv 57 1,oo 58 (.ibin .eql (T 56) (T 57))])
 (.cond (T 58)
 (.region [oo 11 (.mov (kk (-1)))])
 .skip))
 (.drawn [oo 59 (.fieldAddr 2 (T 6)),oo 60 (.load false 1 (T 59)),vv 61 10,oo 62 (.ibin .rem (T 61) (kk 6)),vv 63 5,oo 64 (.ibin .rem (T 62) (T 63)),vv 65 11,vv 66 10,oo 67 (.ibin .quo (T 66) (kk 6)),oo 68 (.ibin .rem (T 67) (kk 6)),vv 69 5,oo 70 (.ibin .rem (T 68) (T 69)),oo 71 (.build [(.val (.int .i64 0)),(.val (.int .i64 0)),(.val (.int .i64 0))] [(0,(1,(T 64))),(1,(1,(T 65))),(2,(1,(T 70)))]),oo 72 (.bslice 71 3 [(T 71)])] [(oo 73 (.append 71 3 24 (T 60) (T 72)),[]),(oo 74 (.fieldAddr 2 (T 6)),[]),(nn (.store 1 (T 74) (T 73)),[])])))))
 (.region [vv 44 9,oo 45 (.ibin .add (T 44) (kk 1)),vv 9 45]))))))
 (.seq (.region [oo 75 (.load true 3 (T 6)),nn (.store 3 (T 4) (T 75))])
 .ret)))))))
theorem f25:fnC Try.prog 25=some (c25,76,[(.cell 4 true 3)]):=by kernel_rfl
def c26:CCode :=
 (.seq (.region [oo 2 (.box 34 (T 0)),oo 3 (.box 34 (T 1)),oo 4 (.mov (.const (.slice none 0 0))),oo 5 (.mov (.const (.bool false))),oo 6 (.mov (kk 0))])
 (.seq (.region [oo 18 (.load true 3 (T 2)),oo 19 (.load true 3 (T 3)),oo 20 (.call (.func 55) [(T 18),(T 19)]),vv 17 20,oo 21 (.extract (T 17) 0),oo 22 (.extract (T 17) 1),oo 23 (.extract (T 17) 2),oo 7 (.alloc 97 (.agg [(.val (.int .i64 0)),(.val (.slice none 0 0)),(.val (.slice none 0 0))])),oo 8 (.alloc 97 (.agg [(.val (.int .i64 0)),(.val (.slice none 0 0)),(.val (.slice none 0 0))])),nn (.store 3 (T 7) (T 21)),nn (.store 3 (T 8) (T 22)),vv 9 23])
 (.seq (.seq (.region [vv 24 9,oo 25 (.ibin .neq (T 24) (kk 0))])
 (.cond (T 25)
 (.seq (.region [vv 26 9,oo 4 (.mov (.const (.slice none 0 0))),oo 5 (.mov (.const (.bool false))),vv 6 26])
 .ret)
 .skip))
 (.seq (.region [oo 10 (.mov (.func 56))])
 (.seq (.region [oo 11 (.mov (.func 57))])
 (.seq (.region [oo 27 (.mnew 1000000006),oo 28 (.build [(.val (.int .i64 0)),(.val (.int .i64 0))] []),nn (.mset 6 (T 27) (T 28) (.const (.bool true))),vv 29 27,vv 12 29])
 (.seq (.seq (.region [oo 30 (.build [(.val (.int .i64 0)),(.val (.int .i64 0)),(.val (.slice none 0 0))] []),oo 31 (.bslice 112 3 [(T 30)]),vv 13 31])
 (.block 0 (.loop
 (.seq (.seq (.region [vv 32 13,oo 33 (.len (T 32)),oo 34 (.ibin .gtr (T 33) (kk 0))])
 (.cond (T 34)
 .skip
 (.exit 0)))
 (.seq (.block 1 (.seq (.region [vv 37 13,oo 38 (.idxS 3 (T 37) (kk 0)),oo 39 (.fieldAddr 0 (T 38)),oo 40 (.load true 2 (T 39)),oo 14 (.alloc 109 (.agg [(.val (.int .i64 0)),(.val (.int .i64 0))])),nn (.store 2 (T 14) (T 40))])
 (.seq (.seq (.drawn [vv 41 10,oo 42 (.load true 3 (T 7)),oo 43 (.idxA 2 1 (T 14) (kk 0)),oo 44 (.load false 1 (T 43)),vv 46 10,oo 47 (.load true 3 (T 8)),oo 48 (.idxA 2 1 (T 14) (kk 1)),oo 49 (.load false 1 (T 48))] [(oo 45 (.call (T 41) [(T 42),(T 44)]),[vv 46 10,oo 47 (.load true 3 (T 8)),oo 48 (.idxA 2 1 (T 14) (kk 1)),oo 49 (.load false 1 (T 48))]),(oo 50 (.call (T 46) [(T 47),(T 49)]),[]),(oo 51 (.bbin .neq (T 45) (T 50)),[])])
 (.cond (T 51)
 (.seq (.region [vv 52 13,oo 53 (.idxS 3 (T 52) (kk 0)),oo 54 (.fieldAddr 2 (T 53)),oo 55 (.load false 1 (T 54)),vv 4 55,oo 5 (.mov (.const (.bool true))),oo 6 (.mov (kk 0))])
 .ret)
 .skip))
 (.seq (.region [oo 56 (.fieldAddr 0 (T 2)),oo 57 (.load false 1 (T 56)),oo 58 (.mov (kk 0))])
 (.block 2 (.loop
 (.seq (.region [oo 59 (.ibin .lss (T 58) (T 57))])
 (.seq (.cond (T 59)
 .skip
 (.exit 2))
 (.seq (.block 3 (.seq (.region [vv 60 58,vv 15 60])
 (.seq (.drawn [vv 61 11,oo 62 (.load true 3 (T 7)),oo 63 (.idxA 2 1 (T 14) (kk 0)),oo 64 (.load false 1 (T 63)),vv 65 15,oo 66 (.call (T 61) [(T 62),(T 64),(T 65)]),vv 67 11,oo 68 (.load true 3 (T 8)),oo 69 (.idxA 2 1 (T 14) (kk 1)),oo 70 (.load false 1 (T 69)),vv 71 15,oo 72 (.call (T 67) [(T 68),(T 70),(T 71)]),oo 73 (.build [(.val (.int .i64 0)),(.val (.int .i64 0))] [(0,(1,(T 66))),(1,(1,(T 72)))]),oo 16 (.alloc 109 (.agg [(.val (.int .i64 0)),(.val (.int .i64 0))]))] [(nn (.store 2 (T 16) (T 73)),[])])
 (.seq (.region [vv 74 12,oo 75 (.load true 2 (T 16)),oo 76 (.mget 6 false (.bool false) (T 74) (T 75)),oo 77 (.lnot (T 76))])
 (.cond (T 77)
 (.seq (.region [vv 78 12,oo 79 (.load true 2 (T 16)),nn (.mset 6 (T 78) (T 79) (.const (.bool true)))])
 (.drawn [vv 80 13,oo 81 (.load true 2 (T 16)),vv 82 13,oo 83 (.idxS 3 (T 82) (kk 0)),oo 84 (.fieldAddr 2 (T 83)),oo 85 (.load false 1 (T 84)),oo 86 (.call (.func 47) [(T 85)]),vv 87 15,oo 88 (.bslice 3 1 [(T 87)])] [(oo 89 (.append 3 1 8 (T 86) (T 88)),[vv 80 13,oo 81 (.load true 2 (T 16))]),(oo 90 (.build [(.val (.int .i64 0)),(.val (.int .i64 0)),(.val (.slice none 0 0))] [(0,(2,(T 81))),(2,(1,(T 89)))]),[vv 80 13]),(oo 91 (.bslice 112 3 [(T 90)]),[vv 80 13]),(oo 92 (.append 112 3 40 (T 80) (T 91)),[]),(vv 13 92,[])]))
 .skip)))))
 (.region [oo 93 (.ibin .add (T 58) (kk 1)),vv 58 93]))))))))))
 (.region [vv 35 13,oo 36 (.slice 3 (T 35) (some (kk 1)) none),vv 13 36]))))))
 (.seq (.region [oo 4 (.mov (.const (.slice none 0 0))),oo 5 (.mov (.const (.bool false))),oo 6 (.mov (kk 0))])
 .ret))))))))
theorem f26:fnC Try.prog 26=some (c26,94,[(.tmp 4),(.tmp 5),(.tmp 6)]):=by kernel_rfl
def c28:CCode :=
 (.seq (.region [oo 1 (.box 34 (T 0)),oo 2 (.alloc 34 (.agg [(.val (.int .i64 0)),(.val (.slice none 0 0)),(.val (.slice none 0 0))])),oo 3 (.mov (kk 0))])
 (.seq (.region [oo 11 (.load true 3 (T 1)),oo 12 (.call (.func 22) [(T 11)]),vv 10 12,oo 13 (.extract (T 10) 0),oo 14 (.extract (T 10) 1),oo 4 (.alloc 34 (.agg [(.val (.int .i64 0)),(.val (.slice none 0 0)),(.val (.slice none 0 0))])),nn (.store 3 (T 4) (T 13)),vv 5 14])
 (.seq (.seq (.region [vv 15 5,oo 16 (.ibin .neq (T 15) (kk 0))])
 (.cond (T 16)
 (.seq (.region [oo 17 (.build [(.val (.int .i64 0)),(.val (.slice none 0 0)),(.val (.slice none 0 0))] []),vv 18 5,nn (.store 3 (T 2) (T 17)),vv 3 18])
 .ret)
 .skip))
 (.seq (.region [oo 6 (.alloc 79 (.agg [(.val (.int .u64 0)),(.val (.int .u64 0)),(.val (.int .u64 0)),(.val (.int .u64 0))]))])
 (.seq (.seq (.region [oo 19 (.fieldAddr 1 (T 4)),oo 20 (.load false 1 (T 19)),oo 21 (.len (T 20)),oo 22 (.mov (kk 0))])
 (.block 0 (.loop
 (.seq (.region [oo 23 (.ibin .lss (T 22) (T 21))])
 (.seq (.cond (T 23)
 .skip
 (.exit 0))
 (.seq (.block 1 (.seq (.region [vv 24 22,oo 25 (.idxS 1 (T 20) (T 22)),oo 26 (.load false 1 (T 25)),vv 7 24,vv 8 26])
 (.seq (.region [vv 27 8])
 (.cond (T 27)
 (.region [vv 28 7,oo 29 (.call (.func 60) [(T 6),(T 28)])])
 .skip))))
 (.region [oo 30 (.ibin .add (T 22) (kk 1)),vv 22 30])))))))
 (.seq (.region [oo 32 (.load true 4 (T 6)),oo 33 (.fieldAddr 0 (T 1)),oo 34 (.load false 1 (T 33)),oo 35 (.mkfunc (.func 63) [(T 4)]),oo 36 (.call (.func 48) [(T 32),(T 34),(.func 61),(T 35)]),vv 31 36,oo 37 (.extract (T 31) 0),oo 38 (.extract (T 31) 1),oo 9 (.alloc 97 (.agg [(.val (.int .i64 0)),(.val (.slice none 0 0)),(.val (.slice none 0 0))])),nn (.store 3 (T 9) (T 37)),vv 5 38])
 (.seq (.seq (.region [vv 39 5,oo 40 (.ibin .neq (T 39) (kk 0))])
 (.cond (T 40)
 (.seq (.region [oo 41 (.build [(.val (.int .i64 0)),(.val (.slice none 0 0)),(.val (.slice none 0 0))] []),vv 42 5,nn (.store 3 (T 2) (T 41)),vv 3 42])
 .ret)
 .skip))
 (.seq (.region [oo 43 (.load true 3 (T 9)),oo 44 (.call (.func 50) [(T 43)]),oo 45 (.extract (T 44) 0),oo 46 (.extract (T 44) 1),nn (.store 3 (T 2) (T 45)),vv 3 46])
 .ret))))))))
theorem f28:fnC Try.prog 28=some (c28,47,[(.cell 2 true 3),(.tmp 3)]):=by kernel_rfl
def c30:CCode :=
 (.seq (.region [oo 2 (.box 26 (T 0)),oo 3 (.box 26 (T 1)),oo 4 (.mov (.const (.bool false)))])
 (.seq (.seq (.region [oo 7 (.fieldAddr 0 (T 2)),oo 8 (.load false 1 (T 7)),oo 9 (.fieldAddr 0 (T 3)),oo 10 (.load false 1 (T 9)),oo 11 (.ibin .neq (T 8) (T 10)),vv 12 11,gf 13 12 (.fieldAddr 1 (T 2)),gf 14 12 (.load false 1 (T 13)),gf 15 12 (.len (T 14)),gf 16 12 (.fieldAddr 1 (T 3)),gf 17 12 (.load false 1 (T 16)),gf 18 12 (.len (T 17)),gf 19 12 (.ibin .neq (T 15) (T 18)),oo 20 (.pick (T 12) (.const (.bool true)) (T 19)),vv 21 20,gf 22 21 (.fieldAddr 2 (T 2)),gf 23 21 (.load false 1 (T 22)),gf 24 21 (.len (T 23)),gf 25 21 (.fieldAddr 2 (T 3)),gf 26 21 (.load false 1 (T 25)),gf 27 21 (.len (T 26)),gf 28 21 (.ibin .neq (T 24) (T 27)),oo 29 (.pick (T 21) (.const (.bool true)) (T 28))])
 (.cond (T 29)
 (.seq (.region [oo 4 (.mov (.const (.bool false)))])
 .ret)
 .skip))
 (.seq (.seq (.region [oo 5 (.mov (kk 0))])
 (.block 0 (.loop
 (.seq (.seq (.region [vv 30 5,oo 31 (.fieldAddr 1 (T 2)),oo 32 (.load false 1 (T 31)),oo 33 (.len (T 32)),oo 34 (.ibin .lss (T 30) (T 33))])
 (.cond (T 34)
 .skip
 (.exit 0)))
 (.seq (.block 1 (.seq (.drawn [oo 37 (.fieldAddr 1 (T 2)),oo 38 (.load false 1 (T 37)),vv 39 5,oo 40 (.idxS 1 (T 38) (T 39)),oo 41 (.load false 1 (T 40)),oo 42 (.fieldAddr 1 (T 3)),oo 43 (.load false 1 (T 42)),vv 44 5,oo 45 (.idxS 1 (T 43) (T 44)),oo 46 (.load false 1 (T 45)),oo 47 (.bbin .neq (T 41) (T 46))] [])
 (.cond (T 47)
 (.seq (.region [oo 4 (.mov (.const (.bool false)))])
 .ret)
 .skip)))
 (.region [vv 35 5,oo 36 (.ibin .add (T 35) (kk 1)),vv 5 36]))))))
 (.seq (.seq (.region [oo 6 (.mov (kk 0))])
 (.block 2 (.loop
 (.seq (.seq (.region [vv 48 6,oo 49 (.fieldAddr 2 (T 2)),oo 50 (.load false 1 (T 49)),oo 51 (.len (T 50)),oo 52 (.ibin .lss (T 48) (T 51))])
 (.cond (T 52)
 .skip
 (.exit 2)))
 (.seq (.block 3 (.seq (.drawn [oo 55 (.fieldAddr 2 (T 2)),oo 56 (.load false 1 (T 55)),vv 57 6,oo 58 (.idxS 3 (T 56) (T 57)),oo 59 (.load true 3 (T 58)),oo 60 (.fieldAddr 2 (T 3)),oo 61 (.load false 1 (T 60)),vv 62 6,oo 63 (.idxS 3 (T 61) (T 62)),oo 64 (.load true 3 (T 63)),oo 65 (.aeq true 3 (T 59) (T 64))] [])
 (.cond (T 65)
 (.seq (.region [oo 4 (.mov (.const (.bool false)))])
 .ret)
 .skip)))
 (.region [vv 53 6,oo 54 (.ibin .add (T 53) (kk 1)),vv 6 54]))))))
 (.seq (.region [oo 4 (.mov (.const (.bool true)))])
 .ret)))))
theorem f30:fnC Try.prog 30=some (c30,66,[(.tmp 4)]):=by kernel_rfl
def c31:CCode :=
 (.seq (.region [oo 1 (.box 34 (T 0)),oo 2 (.alloc 26 (.agg [(.val (.int .i64 0)),(.val (.slice none 0 0)),(.val (.slice none 0 0))]))])
 (.seq (.region [oo 6 (.fieldAddr 0 (T 1)),oo 7 (.load false 1 (T 6)),oo 8 (.build [(.val (.int .i64 0)),(.val (.slice none 0 0)),(.val (.slice none 0 0))] [(0,(1,(T 7)))]),oo 3 (.alloc 26 (.agg [(.val (.int .i64 0)),(.val (.slice none 0 0)),(.val (.slice none 0 0))])),nn (.store 3 (T 3) (T 8))])
 (.seq (.region [oo 9 (.fieldAddr 1 (T 3)),oo 10 (.load false 1 (T 9)),oo 11 (.fieldAddr 1 (T 1)),oo 12 (.load false 1 (T 11)),oo 13 (.append 4 1 1 (T 10) (T 12)),oo 14 (.fieldAddr 1 (T 3)),nn (.store 1 (T 14) (T 13))])
 (.seq (.seq (.region [oo 4 (.mov (kk 0))])
 (.block 0 (.loop
 (.seq (.seq (.region [vv 15 4,oo 16 (.fieldAddr 2 (T 1)),oo 17 (.load false 1 (T 16)),oo 18 (.len (T 17)),oo 19 (.ibin .lss (T 15) (T 18))])
 (.cond (T 19)
 .skip
 (.exit 0)))
 (.seq (.block 1 (.seq (.region [oo 22 (.fieldAddr 2 (T 1)),oo 23 (.load false 1 (T 22)),vv 24 4,oo 25 (.idxS 3 (T 23) (T 24)),oo 26 (.load true 3 (T 25)),oo 5 (.alloc 72 (.agg [(.val (.int .i64 0)),(.val (.int .i64 0)),(.val (.int .i64 0))])),nn (.store 3 (T 5) (T 26))])
 (.region [oo 27 (.fieldAddr 2 (T 3)),oo 28 (.load false 1 (T 27)),oo 29 (.fieldAddr 0 (T 5)),oo 30 (.load false 1 (T 29)),oo 31 (.fieldAddr 1 (T 5)),oo 32 (.load false 1 (T 31)),oo 33 (.fieldAddr 2 (T 5)),oo 34 (.load false 1 (T 33)),oo 35 (.build [(.val (.int .i64 0)),(.val (.int .i64 0)),(.val (.int .i64 0))] [(0,(1,(T 30))),(1,(1,(T 32))),(2,(1,(T 34)))]),oo 36 (.bslice 71 3 [(T 35)]),oo 37 (.append 71 3 24 (T 28) (T 36)),oo 38 (.fieldAddr 2 (T 3)),nn (.store 1 (T 38) (T 37))])))
 (.region [vv 20 4,oo 21 (.ibin .add (T 20) (kk 1)),vv 4 21]))))))
 (.seq (.region [oo 39 (.load true 3 (T 3)),nn (.store 3 (T 2) (T 39))])
 .ret)))))
theorem f31:fnC Try.prog 31=some (c31,40,[(.cell 2 true 3)]):=by kernel_rfl
def c33:CCode :=
 (.seq (.region [oo 4 (.mov (kk 0))])
 (.seq (.seq (.region [vv 5 0,oo 6 (.ibin .lss (T 5) (kk 0))])
 (.cond (T 6)
 (.region [vv 7 0,oo 8 (.ibin .add (T 7) (kk 1)),oo 9 (.neg (T 8)),vv 0 9])
 .skip))
 (.seq (.seq (.region [vv 10 1,oo 11 (.ibin .lss (T 10) (kk 1))])
 (.cond (T 11)
 (.seq (.region [oo 4 (.mov (kk 0))])
 .ret)
 .skip))
 (.seq (.region [vv 12 0,vv 13 1,oo 14 (.ibin .rem (T 12) (T 13)),vv 4 14])
 .ret))))
theorem f33:fnC Try.prog 33=some (c33,15,[(.tmp 4)]):=by kernel_rfl
def c35:CCode :=
 (.seq (.region [oo 1 (.box 34 (T 0)),oo 2 (.alloc 34 (.agg [(.val (.int .i64 0)),(.val (.slice none 0 0)),(.val (.slice none 0 0))])),oo 3 (.mov (kk 0))])
 (.seq (.region [oo 13 (.load true 3 (T 1)),oo 14 (.call (.func 22) [(T 13)]),vv 12 14,oo 15 (.extract (T 12) 0),oo 16 (.extract (T 12) 1),oo 4 (.alloc 34 (.agg [(.val (.int .i64 0)),(.val (.slice none 0 0)),(.val (.slice none 0 0))])),nn (.store 3 (T 4) (T 15)),vv 5 16])
 (.seq (.seq (.region [vv 17 5,oo 18 (.ibin .neq (T 17) (kk 0))])
 (.cond (T 18)
 (.seq (.region [oo 19 (.build [(.val (.int .i64 0)),(.val (.slice none 0 0)),(.val (.slice none 0 0))] []),vv 20 5,nn (.store 3 (T 2) (T 19)),vv 3 20])
 .ret)
 .skip))
 (.seq (.region [oo 21 (.load true 3 (T 4)),oo 22 (.call (.func 65) [(T 21)]),oo 6 (.alloc 97 (.agg [(.val (.int .i64 0)),(.val (.slice none 0 0)),(.val (.slice none 0 0))])),nn (.store 3 (T 6) (T 22))])
 (.seq (.region [oo 23 (.fieldAddr 2 (T 6)),oo 24 (.load false 1 (T 23)),oo 25 (.len (T 24)),vv 7 25])
 (.seq (.drawn [oo 26 (.fieldAddr 2 (T 6)),oo 27 (.load false 1 (T 26)),vv 28 7,oo 29 (.bslice 3 1 [(T 28)]),oo 30 (.fieldAddr 0 (T 1)),oo 31 (.load false 1 (T 30))] [(oo 32 (.call (.func 66) [(T 29),(T 31)]),[oo 26 (.fieldAddr 2 (T 6)),oo 27 (.load false 1 (T 26))]),(oo 33 (.bslice 22 1 [(T 32)]),[oo 26 (.fieldAddr 2 (T 6)),oo 27 (.load false 1 (T 26))]),(oo 34 (.append 22 1 24 (T 27) (T 33)),[]),(oo 35 (.fieldAddr 2 (T 6)),[]),(nn (.store 1 (T 35) (T 34)),[])])
 (.seq (.region [oo 36 (.fieldAddr 1 (T 6)),oo 37 (.load false 1 (T 36)),oo 38 (.call (.func 67) [(T 37)]),oo 39 (.bslice 4 1 [(.const (.bool false))]),oo 40 (.append 4 1 1 (T 38) (T 39)),oo 41 (.fieldAddr 1 (T 6)),nn (.store 1 (T 41) (T 40))])
 (.seq (.seq (.region [oo 42 (.fieldAddr 2 (T 6)),oo 43 (.load false 1 (T 42)),oo 44 (.len (T 43)),oo 45 (.mov (kk 0))])
 (.block 0 (.loop
 (.seq (.region [oo 46 (.ibin .lss (T 45) (T 44))])
 (.seq (.cond (T 46)
 .skip
 (.exit 0))
 (.seq (.block 1 (.seq (.region [vv 47 45,oo 48 (.idxS 1 (T 43) (T 45)),oo 49 (.load false 1 (T 48)),vv 8 47,vv 9 49])
 (.seq (.drawn [oo 50 (.fieldAddr 1 (T 6)),oo 51 (.load false 1 (T 50)),vv 52 8,oo 53 (.fieldAddr 1 (T 6)),oo 54 (.load false 1 (T 53)),vv 55 8,oo 56 (.idxS 1 (T 54) (T 55)),oo 57 (.load false 1 (T 56)),oo 58 (.lnot (T 57)),oo 59 (.idxS 1 (T 51) (T 52))] [(nn (.store 1 (T 59) (T 58)),[])])
 (.seq (.region [vv 60 9,oo 61 (.len (T 60)),oo 62 (.mov (kk 0))])
 (.block 2 (.loop
 (.seq (.region [oo 63 (.ibin .lss (T 62) (T 61))])
 (.seq (.cond (T 63)
 .skip
 (.exit 2))
 (.seq (.block 3 (.seq (.region [vv 64 62,oo 65 (.idxS 1 (T 60) (T 62)),oo 66 (.load false 1 (T 65)),vv 10 64,vv 11 66])
 (.seq (.region [vv 67 11,oo 68 (.ibin .lss (T 67) (kk 0))])
 (.cond (T 68)
 (.region [vv 69 9,vv 70 10,vv 71 7,oo 72 (.idxS 1 (T 69) (T 70)),nn (.store 1 (T 72) (T 71))])
 .skip))))
 (.region [oo 73 (.ibin .add (T 62) (kk 1)),vv 62 73]))))))))))
 (.region [oo 74 (.ibin .add (T 45) (kk 1)),vv 45 74])))))))
 (.seq (.region [oo 75 (.load true 3 (T 6)),oo 76 (.call (.func 50) [(T 75)]),oo 77 (.extract (T 76) 0),oo 78 (.extract (T 76) 1),nn (.store 3 (T 2) (T 77)),vv 3 78])
 .ret)))))))))
theorem f35:fnC Try.prog 35=some (c35,79,[(.cell 2 true 3),(.tmp 3)]):=by kernel_rfl
def c36:CCode :=
 (.seq (.region [oo 2 (.box 34 (T 0)),oo 3 (.box 34 (T 1)),oo 4 (.alloc 34 (.agg [(.val (.int .i64 0)),(.val (.slice none 0 0)),(.val (.slice none 0 0))])),oo 5 (.mov (kk 0))])
 (.seq (.region [oo 11 (.load true 3 (T 2)),oo 12 (.load true 3 (T 3)),oo 13 (.call (.func 55) [(T 11),(T 12)]),vv 10 13,oo 14 (.extract (T 10) 0),oo 15 (.extract (T 10) 1),oo 16 (.extract (T 10) 2),oo 6 (.alloc 97 (.agg [(.val (.int .i64 0)),(.val (.slice none 0 0)),(.val (.slice none 0 0))])),oo 7 (.alloc 97 (.agg [(.val (.int .i64 0)),(.val (.slice none 0 0)),(.val (.slice none 0 0))])),nn (.store 3 (T 6) (T 14)),nn (.store 3 (T 7) (T 15)),vv 8 16])
 (.seq (.seq (.region [vv 17 8,oo 18 (.ibin .neq (T 17) (kk 0))])
 (.cond (T 18)
 (.seq (.region [oo 19 (.build [(.val (.int .i64 0)),(.val (.slice none 0 0)),(.val (.slice none 0 0))] []),vv 20 8,nn (.store 3 (T 4) (T 19)),vv 5 20])
 .ret)
 .skip))
 (.seq (.region [oo 22 (.build [(.val (.int .i64 0)),(.val (.int .i64 0))] []),oo 23 (.fieldAddr 0 (T 2)),oo 24 (.load false 1 (T 23)),oo 25 (.mkfunc (.func 69) [(T 6),(T 7)]),oo 26 (.mkfunc (.func 70) [(T 6),(T 7)]),oo 27 (.call (.func 68) [(T 22),(T 24),(T 25),(T 26)]),vv 21 27,oo 28 (.extract (T 21) 0),oo 29 (.extract (T 21) 1),oo 9 (.alloc 97 (.agg [(.val (.int .i64 0)),(.val (.slice none 0 0)),(.val (.slice none 0 0))])),nn (.store 3 (T 9) (T 28)),vv 8 29])
 (.seq (.seq (.region [vv 30 8,oo 31 (.ibin .neq (T 30) (kk 0))])
 (.cond (T 31)
 (.seq (.region [oo 32 (.build [(.val (.int .i64 0)),(.val (.slice none 0 0)),(.val (.slice none 0 0))] []),vv 33 8,nn (.store 3 (T 4) (T 32)),vv 5 33])
 .ret)
 .skip))
 (.seq (.region [oo 34 (.load true 3 (T 9)),oo 35 (.call (.func 50) [(T 34)]),oo 36 (.extract (T 35) 0),oo 37 (.extract (T 35) 1),nn (.store 3 (T 4) (T 36)),vv 5 37])
 .ret))))))
def c39:CCode :=
 (.seq (.region [oo 4 (.mov (.const (.bool false)))])
 (.seq (.region [vv 5 0,vv 6 1,oo 7 (.call (.func 72) [(T 5),(T 6)]),oo 8 (.ibin .geq (T 7) (kk 0)),vv 4 8])
 .ret))
theorem f39:fnC Try.prog 39=some (c39,9,[(.tmp 4)]):=by kernel_rfl
def c40:CCode :=
 (.seq (.region [oo 3 (.box 72 (T 0)),oo 4 (.mov (.const (.bool false)))])
 (.seq (.region [oo 5 (.fieldAddr 0 (T 3)),oo 6 (.load false 1 (T 5)),oo 7 (.fieldAddr 2 (T 3)),oo 8 (.load false 1 (T 7)),oo 9 (.imin (T 6) (T 8)),oo 10 (.ibin .lss (T 9) (kk 0)),vv 11 10,gf 12 11 (.fieldAddr 0 (T 3)),gf 13 11 (.load false 1 (T 12)),gf 14 11 (.fieldAddr 2 (T 3)),gf 15 11 (.load false 1 (T 14)),gf 16 11 (.imax (T 13) (T 15)),gf 17 11 (.load false 1 (T 1)),gf 18 11 (.ibin .geq (T 16) (T 17)),oo 19 (.pick (T 11) (.const (.bool true)) (T 18)),vv 20 19,gf 21 20 (.fieldAddr 1 (T 3)),gf 22 20 (.load false 1 (T 21)),gf 23 20 (.ibin .lss (T 22) (kk (-1))),oo 24 (.pick (T 20) (.const (.bool true)) (T 23)),vv 25 24,gf 26 25 (.fieldAddr 1 (T 3)),gf 27 25 (.load false 1 (T 26)),gf 28 25 (.fieldAddr 0 (T 2)),gf 29 25 (.load false 1 (T 28)),gf 30 25 (.ibin .geq (T 27) (T 29)),oo 31 (.pick (T 25) (.const (.bool true)) (T 30)),vv 4 31])
 .ret))
theorem f40:fnC Try.prog 40=some (c40,32,[(.tmp 4)]):=by kernel_rfl
end Go.Proofs.Ytjilachpkjlhdaa
namespace Go.Proofs.Ytjilachpkjlhdaa
open Dak
def c41:CCode :=
 (.seq (.region [oo 1 (.box 34 (T 0)),oo 2 (.mov (.const (.pointer none)))])
 (.seq (.region [oo 18 (.fieldAddr 1 (T 1)),oo 19 (.load false 1 (T 18)),oo 20 (.len (T 19)),vv 3 20])
 (.seq (.region [vv 21 3,oo 22 (.mkslice 22 1 24 (.val (.slice none 0 0)) (T 21) (T 21)),oo 4 (.alloc 61 (.val (.slice none 0 0))),nn (.store 1 (T 4) (T 22))])
 (.seq (.seq (.region [oo 23 (.fieldAddr 2 (T 1)),oo 24 (.load false 1 (T 23)),oo 25 (.len (T 24)),oo 26 (.mov (kk 0))])
 (.block 0 (.loop
 (.seq (.region [oo 27 (.ibin .lss (T 26) (T 25))])
 (.seq (.cond (T 27)
 .skip
 (.exit 0))
 (.seq (.block 1 (.seq (.region [oo 28 (.idxS 3 (T 24) (T 26)),oo 29 (.load true 3 (T 28)),oo 6 (.alloc 72 (.agg [(.val (.int .i64 0)),(.val (.int .i64 0)),(.val (.int .i64 0))])),nn (.store 3 (T 6) (T 29))])
 (.seq (.region [oo 30 (.fieldAddr 1 (T 6)),oo 31 (.load false 1 (T 30)),oo 32 (.ibin .lss (T 31) (kk 0))])
 (.cond (T 32)
 (.drawn [oo 33 (.load false 1 (T 4)),oo 34 (.fieldAddr 0 (T 6)),oo 35 (.load false 1 (T 34)),oo 36 (.load false 1 (T 4)),oo 37 (.fieldAddr 0 (T 6)),oo 38 (.load false 1 (T 37)),oo 39 (.idxS 1 (T 36) (T 38)),oo 40 (.load false 1 (T 39)),oo 41 (.fieldAddr 2 (T 6)),oo 42 (.load false 1 (T 41)),oo 43 (.bslice 3 1 [(T 42)])] [(oo 44 (.append 3 1 8 (T 40) (T 43)),[oo 33 (.load false 1 (T 4)),oo 34 (.fieldAddr 0 (T 6)),oo 35 (.load false 1 (T 34))]),(oo 45 (.idxS 1 (T 33) (T 35)),[]),(nn (.store 1 (T 45) (T 44)),[])])
 .skip))))
 (.region [oo 46 (.ibin .add (T 26) (kk 1)),vv 26 46])))))))
 (.seq (.region [vv 47 3,oo 48 (.mkslice 79 4 32 (.agg [(.val (.int .u64 0)),(.val (.int .u64 0)),(.val (.int .u64 0)),(.val (.int .u64 0))]) (T 47) (T 47)),oo 7 (.alloc 128 (.val (.slice none 0 0))),nn (.store 1 (T 7) (T 48))])
 (.seq (.seq (.region [vv 49 3,oo 50 (.mov (kk 0))])
 (.block 2 (.loop
 (.seq (.region [oo 51 (.ibin .lss (T 50) (T 49))])
 (.seq (.cond (T 51)
 .skip
 (.exit 2))
 (.seq (.block 3 (.seq (.region [vv 52 50,oo 8 (.alloc 3 (.val (.int .i64 0))),nn (.store 1 (T 8) (T 52))])
 (.seq (.region [oo 9 (.alloc 117 (.val .nilFunc))])
 (.seq (.region [oo 53 (.mkfunc (.func 73) [(T 7),(T 8),(T 4),(T 9)]),nn (.store 1 (T 9) (T 53))])
 (.region [oo 54 (.load false 1 (T 9)),oo 55 (.load false 1 (T 8)),oo 56 (.call (T 54) [(T 55)])])))))
 (.region [oo 57 (.ibin .add (T 50) (kk 1)),vv 50 57])))))))
 (.seq (.drawn [oo 58 (.fieldAddr 0 (T 1)),oo 59 (.load false 1 (T 58)),vv 60 3,oo 61 (.mkslice 128 1 24 (.val (.slice none 0 0)) (T 60) (T 60)),oo 62 (.load false 1 (T 7)),oo 63 (.idxS 4 (T 62) (kk 0)),oo 64 (.load true 4 (T 63)),oo 65 (.build [(.val (.int .i64 0)),(.val (.int .u64 0)),(.val (.int .u64 0)),(.val (.int .u64 0)),(.val (.int .u64 0)),(.val (.slice none 0 0)),(.val (.int .u64 0)),(.val (.int .u64 0)),(.val (.int .u64 0)),(.val (.int .u64 0))] [(0,(1,(T 59))),(5,(1,(T 61))),(6,(4,(T 64)))]),oo 66 (.box 82 (T 65)),vv 10 66] [])
 (.seq (.seq (.region [oo 67 (.fieldAddr 1 (T 1)),oo 68 (.load false 1 (T 67)),oo 69 (.len (T 68)),oo 70 (.mov (kk 0))])
 (.block 4 (.loop
 (.seq (.region [oo 71 (.ibin .lss (T 70) (T 69))])
 (.seq (.cond (T 71)
 .skip
 (.exit 4))
 (.seq (.block 5 (.seq (.region [vv 72 70,oo 73 (.idxS 1 (T 68) (T 70)),oo 74 (.load false 1 (T 73)),vv 11 72,vv 12 74])
 (.seq (.drawn [vv 75 10,oo 76 (.nilCheck (T 75)),oo 77 (.fieldAddr 5 (T 76)),oo 78 (.load false 1 (T 77)),vv 79 11,oo 80 (.fieldAddr 0 (T 1)),oo 81 (.load false 1 (T 80)),oo 82 (.mkslice 79 4 32 (.agg [(.val (.int .u64 0)),(.val (.int .u64 0)),(.val (.int .u64 0)),(.val (.int .u64 0))]) (T 81) (T 81)),oo 83 (.idxS 1 (T 78) (T 79))] [(nn (.store 1 (T 83) (T 82)),[])])
 (.seq (.region [vv 84 12])
 (.cond (T 84)
 (.region [vv 85 10,oo 86 (.nilCheck (T 85)),oo 87 (.fieldAddr 1 (T 86)),vv 88 11,oo 89 (.call (.func 60) [(T 87),(T 88)])])
 .skip)))))
 (.region [oo 90 (.ibin .add (T 70) (kk 1)),vv 70 90])))))))
 (.seq (.seq (.region [oo 91 (.fieldAddr 2 (T 1)),oo 92 (.load false 1 (T 91)),oo 93 (.len (T 92)),oo 94 (.mov (kk 0))])
 (.block 6 (.loop
 (.seq (.region [oo 95 (.ibin .lss (T 94) (T 93))])
 (.seq (.cond (T 95)
 .skip
 (.exit 6))
 (.seq (.block 7 (.seq (.region [oo 96 (.idxS 3 (T 92) (T 94)),oo 97 (.load true 3 (T 96)),oo 14 (.alloc 72 (.agg [(.val (.int .i64 0)),(.val (.int .i64 0)),(.val (.int .i64 0))])),nn (.store 3 (T 14) (T 97))])
 (.seq (.region [oo 98 (.fieldAddr 1 (T 14)),oo 99 (.load false 1 (T 98)),oo 100 (.ibin .geq (T 99) (kk 0))])
 (.cond (T 100)
 (.seq (.drawn [vv 101 10,oo 102 (.nilCheck (T 101)),oo 103 (.fieldAddr 5 (T 102)),oo 104 (.load false 1 (T 103)),oo 105 (.fieldAddr 0 (T 14)),oo 106 (.load false 1 (T 105)),oo 107 (.idxS 1 (T 104) (T 106)),oo 108 (.load false 1 (T 107)),oo 109 (.fieldAddr 1 (T 14)),oo 110 (.load false 1 (T 109)),oo 111 (.idxS 4 (T 108) (T 110)),vv 15 111] [])
 (.seq (.region [oo 112 (.load false 1 (T 7)),oo 113 (.fieldAddr 2 (T 14)),oo 114 (.load false 1 (T 113)),oo 115 (.idxS 4 (T 112) (T 114)),oo 116 (.load true 4 (T 115)),oo 117 (.mov (kk 0))])
 (.block 8 (.loop
 (.seq (.region [oo 118 (.ibin .lss (T 117) (kk 4))])
 (.seq (.cond (T 118)
 .skip
 (.exit 8))
 (.seq (.block 9 (.seq (.region [vv 119 117,oo 120 (.idxV false 4 1 (T 116) (T 117)),vv 16 119,vv 17 120])
 (.drawn [vv 121 15,vv 122 16,oo 123 (.nilCheck (T 121)),oo 124 (.idxA 4 1 (T 123) (T 122)),oo 125 (.load false 1 (T 124)),vv 126 17,oo 127 (.ibin .or (T 125) (T 126)),oo 128 (.nilCheck (T 121)),oo 129 (.idxA 4 1 (T 128) (T 122))] [(nn (.store 1 (T 129) (T 127)),[])])))
 (.region [oo 130 (.ibin .add (T 117) (kk 1)),vv 117 130]))))))))
 .skip))))
 (.region [oo 131 (.ibin .add (T 94) (kk 1)),vv 94 131])))))))
 (.seq (.region [vv 132 10,vv 2 132])
 .ret))))))))))
theorem f41:fnC Try.prog 41=some (c41,133,[(.tmp 2)]):=by kernel_rfl
def c42:CCode :=
 (.seq (.region [oo 4 (.box 79 (T 1)),oo 6 (.alloc 79 (.agg [(.val (.int .u64 0)),(.val (.int .u64 0)),(.val (.int .u64 0)),(.val (.int .u64 0))]))])
 (.seq (.region [oo 7 (.alloc 79 (.agg [(.val (.int .u64 0)),(.val (.int .u64 0)),(.val (.int .u64 0)),(.val (.int .u64 0))]))])
 (.seq (.seq (.region [vv 11 0,oo 12 (.nilCheck (T 11)),oo 13 (.fieldAddr 5 (T 12)),oo 14 (.load false 1 (T 13)),oo 15 (.len (T 14)),oo 16 (.mov (kk 0))])
 (.block 0 (.loop
 (.seq (.region [oo 17 (.ibin .lss (T 16) (T 15))])
 (.seq (.cond (T 17)
 .skip
 (.exit 0))
 (.seq (.block 1 (.seq (.region [vv 18 16,vv 8 18])
 (.seq (.region [oo 19 (.load true 4 (T 4)),vv 20 8,oo 21 (.call (.func 62) [(T 19),(T 20)])])
 (.cond (T 21)
 (.seq (.region [vv 22 0,oo 23 (.nilCheck (T 22)),oo 24 (.fieldAddr 5 (T 23)),oo 25 (.load false 1 (T 24)),vv 26 8,oo 27 (.idxS 1 (T 25) (T 26)),oo 28 (.load false 1 (T 27)),vv 29 2,oo 30 (.idxS 4 (T 28) (T 29)),oo 31 (.load true 4 (T 30)),oo 32 (.mov (kk 0))])
 (.block 2 (.loop
 (.seq (.region [oo 33 (.ibin .lss (T 32) (kk 4))])
 (.seq (.cond (T 33)
 .skip
 (.exit 2))
 (.seq (.block 3 (.seq (.region [vv 34 32,oo 35 (.idxV false 4 1 (T 31) (T 32)),vv 9 34,vv 10 35])
 (.region [vv 36 9,oo 37 (.idxA 4 1 (T 7) (T 36)),oo 38 (.load false 1 (T 37)),vv 39 10,oo 40 (.ibin .or (T 38) (T 39)),oo 41 (.idxA 4 1 (T 7) (T 36)),nn (.store 1 (T 41) (T 40))])))
 (.region [oo 42 (.ibin .add (T 32) (kk 1)),vv 32 42])))))))
 .skip))))
 (.region [oo 43 (.ibin .add (T 16) (kk 1)),vv 16 43])))))))
 (.seq (.region [oo 44 (.load true 4 (T 7)),nn (.store 4 (T 6) (T 44))])
 .ret))))
theorem f42:fnC Try.prog 42=some (c42,45,[(.cell 6 true 4)]):=by kernel_rfl
def c43:CCode :=
 (.seq (.region [oo 2 (.box 79 (T 0)),oo 3 (.box 79 (T 1)),oo 4 (.mov (.const (.bool false)))])
 (.seq (.seq (.region [oo 7 (.load true 4 (T 2)),oo 8 (.mov (kk 0))])
 (.block 0 (.loop
 (.seq (.region [oo 9 (.ibin .lss (T 8) (kk 4))])
 (.seq (.cond (T 9)
 .skip
 (.exit 0))
 (.seq (.block 1 (.seq (.region [vv 10 8,oo 11 (.idxV false 4 1 (T 7) (T 8)),vv 5 10,vv 6 11])
 (.seq (.region [vv 12 6,vv 13 5,oo 14 (.idxA 4 1 (T 3) (T 13)),oo 15 (.load false 1 (T 14)),oo 16 (.ibin .and (T 12) (T 15)),oo 17 (.ibin .neq (T 16) (.const (.int .u64 0)))])
 (.cond (T 17)
 (.seq (.region [oo 4 (.mov (.const (.bool true)))])
 .ret)
 .skip))))
 (.region [oo 18 (.ibin .add (T 8) (kk 1)),vv 8 18])))))))
 (.seq (.region [oo 4 (.mov (.const (.bool false)))])
 .ret)))
theorem f43:fnC Try.prog 43=some (c43,19,[(.tmp 4)]):=by kernel_rfl
def c44:CCode :=
 (.seq (.region [oo 1 (.box 26 (T 0)),oo 2 (.mov (.const (.slice none 0 0)))])
 (.seq (.region [oo 4 (.fieldAddr 1 (T 1)),oo 5 (.load false 1 (T 4)),oo 6 (.len (T 5)),oo 7 (.mkslice 4 1 1 (.val (.bool false)) (T 6) (T 6)),vv 3 7])
 (.seq (.region [vv 8 3,oo 9 (.idxS 1 (T 8) (kk 0)),nn (.store 1 (T 9) (.const (.bool true)))])
 (.seq (.region [oo 10 (.load true 3 (T 1)),vv 11 3,oo 12 (.call (.func 74) [(T 10),(T 11)]),vv 2 12])
 .ret))))
theorem f44:fnC Try.prog 44=some (c44,13,[(.tmp 2)]):=by kernel_rfl
def c45:CCode :=
 (.seq (.region [oo 3 (.box 26 (T 0)),oo 6 (.mov (.const (.slice none 0 0))),oo 7 (.mov (.const (.bool false)))])
 (.seq (.region [oo 12 (.fieldAddr 1 (T 3)),oo 13 (.load false 1 (T 12)),oo 14 (.len (T 13)),oo 15 (.mkslice 4 1 1 (.val (.bool false)) (T 14) (T 14)),vv 8 15])
 (.seq (.region [oo 9 (.mov (.const (.bool false)))])
 (.seq (.seq (.region [oo 10 (.mov (kk 0))])
 (.block 0 (.loop
 (.seq (.seq (.region [vv 16 10,oo 17 (.fieldAddr 2 (T 3)),oo 18 (.load false 1 (T 17)),oo 19 (.len (T 18)),oo 20 (.ibin .lss (T 16) (T 19))])
 (.cond (T 20)
 .skip
 (.exit 0)))
 (.seq (.block 1 (.seq (.region [oo 23 (.fieldAddr 2 (T 3)),oo 24 (.load false 1 (T 23)),vv 25 10,oo 26 (.idxS 3 (T 24) (T 25)),oo 27 (.load true 3 (T 26)),oo 11 (.alloc 71 (.agg [(.val (.int .i64 0)),(.val (.int .i64 0)),(.val (.int .i64 0))])),nn (.store 3 (T 11) (T 27))])
 (.seq (.region [oo 28 (.fieldAddr 1 (T 11)),oo 29 (.load false 1 (T 28)),vv 30 2,oo 31 (.ibin .eql (T 29) (T 30)),vv 32 31,vt 33 32 1,gt 34 32 (.fieldAddr 0 (T 11)),gt 35 32 (.load false 1 (T 34)),gt 36 32 (.idxS 1 (T 33) (T 35)),gt 37 32 (.load false 1 (T 36)),oo 38 (.pick (T 32) (T 37) (.const (.bool false)))])
 (.cond (T 38)
 (.seq (.region [vv 39 8,oo 40 (.fieldAddr 2 (T 11)),oo 41 (.load false 1 (T 40)),oo 42 (.idxS 1 (T 39) (T 41)),nn (.store 1 (T 42) (.const (.bool true)))])
 (.region [oo 9 (.mov (.const (.bool true)))]))
 .skip))))
 (.region [vv 21 10,oo 22 (.ibin .add (T 21) (kk 1)),vv 10 22]))))))
 (.seq (.region [oo 43 (.load true 3 (T 3)),vv 44 8,oo 45 (.call (.func 74) [(T 43),(T 44)]),vv 46 9,vv 6 45,vv 7 46])
 .ret)))))
theorem f45:fnC Try.prog 45=some (c45,47,[(.tmp 6),(.tmp 7)]):=by kernel_rfl
def c46:CCode :=
 (.seq (.region [oo 2 (.box 26 (T 0)),oo 4 (.mov (.const (.bool false)))])
 (.seq (.seq (.region [oo 5 (.mov (kk 0))])
 (.block 0 (.loop
 (.seq (.seq (.region [vv 6 5,vv 7 1,oo 8 (.len (T 7)),oo 9 (.ibin .lss (T 6) (T 8))])
 (.cond (T 9)
 .skip
 (.exit 0)))
 (.seq (.block 1 (.seq (.region [vv 12 1,vv 13 5,oo 14 (.idxS 1 (T 12) (T 13)),oo 15 (.load false 1 (T 14)),vv 16 15,gt 17 16 (.fieldAddr 1 (T 2)),gt 18 16 (.load false 1 (T 17)),vt 19 16 5,gt 20 16 (.idxS 1 (T 18) (T 19)),gt 21 16 (.load false 1 (T 20)),oo 22 (.pick (T 16) (T 21) (.const (.bool false)))])
 (.cond (T 22)
 (.seq (.region [oo 4 (.mov (.const (.bool true)))])
 .ret)
 .skip)))
 (.region [vv 10 5,oo 11 (.ibin .add (T 10) (kk 1)),vv 5 11]))))))
 (.seq (.region [oo 4 (.mov (.const (.bool false)))])
 .ret)))
theorem f46:fnC Try.prog 46=some (c46,23,[(.tmp 4)]):=by kernel_rfl
def c47:CCode :=
 (.seq (.region [oo 2 (.mov (.const (.slice none 0 0)))])
 (.seq (.seq (.region [vv 3 0,oo 4 (.isNil true false (T 3) (.const (.slice none 0 0)))])
 (.cond (T 4)
 (.seq (.region [oo 2 (.mov (.const (.slice none 0 0)))])
 .ret)
 .skip))
 (.seq (.region [oo 5 (.bslice 3 1 []),vv 6 0,oo 7 (.append 3 1 8 (T 5) (T 6)),vv 2 7])
 .ret)))
theorem f47:fnC Try.prog 47=some (c47,8,[(.tmp 2)]):=by kernel_rfl
def c48:CCode :=
 (.seq (.region [oo 4 (.box 79 (T 0)),oo 8 (.alloc 97 (.agg [(.val (.int .i64 0)),(.val (.slice none 0 0)),(.val (.slice none 0 0))])),oo 9 (.mov (kk 0))])
 (.seq (.region [vv 20 1,oo 21 (.build [(.val (.int .i64 0)),(.val (.slice none 0 0)),(.val (.slice none 0 0))] [(0,(1,(T 20)))]),oo 10 (.alloc 97 (.agg [(.val (.int .i64 0)),(.val (.slice none 0 0)),(.val (.slice none 0 0))])),nn (.store 3 (T 10) (T 21))])
 (.seq (.region [oo 22 (.mnew 1000000011),oo 23 (.load true 4 (T 4)),nn (.mset 11 (T 22) (T 23) (kk 0)),vv 24 22,vv 11 24])
 (.seq (.seq (.region [oo 25 (.load true 4 (T 4)),oo 26 (.bslice 79 4 [(T 25)]),vv 12 26])
 (.block 0 (.loop
 (.seq (.seq (.region [oo 27 (.fieldAddr 2 (T 10)),oo 28 (.load false 1 (T 27)),oo 29 (.len (T 28)),vv 30 12,oo 31 (.len (T 30)),oo 32 (.ibin .lss (T 29) (T 31))])
 (.cond (T 32)
 .skip
 (.exit 0)))
 (.block 1 (.seq (.region [vv 33 12,oo 34 (.fieldAddr 2 (T 10)),oo 35 (.load false 1 (T 34)),oo 36 (.len (T 35)),oo 37 (.idxS 4 (T 33) (T 36)),oo 38 (.load true 4 (T 37)),oo 13 (.alloc 79 (.agg [(.val (.int .u64 0)),(.val (.int .u64 0)),(.val (.int .u64 0)),(.val (.int .u64 0))])),nn (.store 4 (T 13) (T 38))])
 (.seq (.region [vv 39 1,oo 40 (.mkslice 3 1 8 (.val (.int .i64 0)) (T 39) (T 39)),vv 14 40])
 (.seq (.seq (.region [vv 41 14,oo 42 (.len (T 41)),oo 43 (.mov (kk 0))])
 (.block 2 (.loop
 (.seq (.region [oo 44 (.ibin .lss (T 43) (T 42))])
 (.seq (.cond (T 44)
 .skip
 (.exit 2))
 (.seq (.block 3 (.seq (.region [vv 45 43,vv 15 45])
 (.seq (.region [vv 47 3,oo 48 (.load true 4 (T 13)),vv 49 15,oo 50 (.call (T 47) [(T 48),(T 49)]),vv 46 50,oo 51 (.extract (T 46) 0),oo 52 (.extract (T 46) 1),oo 16 (.alloc 79 (.agg [(.val (.int .u64 0)),(.val (.int .u64 0)),(.val (.int .u64 0)),(.val (.int .u64 0))])),nn (.store 4 (T 16) (T 51)),vv 17 52])
 (.seq (.seq (.region [vv 53 17,oo 54 (.lnot (T 53))])
 (.cond (T 54)
 (.seq (.region [vv 55 14,vv 56 15,oo 57 (.idxS 1 (T 55) (T 56)),nn (.store 1 (T 57) (kk (-1)))])
 (.exit 3))
 .skip))
 (.seq (.region [vv 59 11,oo 60 (.load true 4 (T 16)),oo 61 (.mget 11 true (.int .i64 0) (T 59) (T 60)),vv 58 61,oo 62 (.extract (T 58) 0),oo 63 (.extract (T 58) 1),vv 18 62,vv 19 63])
 (.seq (.seq (.region [vv 64 19,oo 65 (.lnot (T 64))])
 (.cond (T 65)
 (.seq (.region [vv 66 12,oo 67 (.len (T 66)),vv 18 67])
 (.seq (.region [vv 68 11,oo 69 (.load true 4 (T 16)),vv 70 18,nn (.mset 11 (T 68) (T 69) (T 70))])
 (.region [vv 71 12,oo 72 (.load true 4 (T 16)),oo 73 (.bslice 79 4 [(T 72)]),oo 74 (.append 79 4 32 (T 71) (T 73)),vv 12 74])))
 .skip))
 (.region [vv 75 14,vv 76 15,vv 77 18,oo 78 (.idxS 1 (T 75) (T 76)),nn (.store 1 (T 78) (T 77))])))))))
 (.region [oo 79 (.ibin .add (T 43) (kk 1)),vv 43 79])))))))
 (.seq (.seq (.region [vv 80 12,oo 81 (.len (T 80)),oo 82 (.ibin .gtr (T 81) (kk 256))])
 (.cond (T 82)
 (.seq (.region [oo 83 (.build [(.val (.int .i64 0)),(.val (.slice none 0 0)),(.val (.slice none 0 0))] []),nn (.store 3 (T 8) (T 83)),oo 9 (.mov (kk 4))])
 .ret)
 .skip))
 (.cut [oo 84 (.fieldAddr 2 (T 10)),oo 85 (.load false 1 (T 84)),vv 86 14,oo 87 (.bslice 22 1 [(T 86)]),oo 89 (.fieldAddr 1 (T 10)),oo 90 (.load false 1 (T 89)),vv 91 2,oo 92 (.load true 4 (T 13))] [] (.alt (oo 88 (.append 22 1 24 (T 85) (T 87))) [oo 89 (.fieldAddr 1 (T 10)),oo 90 (.load false 1 (T 89)),vv 91 2,oo 92 (.load true 4 (T 13))] (.alt (oo 93 (.call (T 91) [(T 92)])) [oo 89 (.fieldAddr 1 (T 10)),oo 90 (.load false 1 (T 89))] (.alt (oo 94 (.bslice 4 1 [(T 93)])) [oo 89 (.fieldAddr 1 (T 10)),oo 90 (.load false 1 (T 89))] (.alt (oo 95 (.append 4 1 1 (T 90) (T 94))) [] (.alt (oo 96 (.fieldAddr 2 (T 10))) [vv 91 2,oo 92 (.load true 4 (T 13))] (.alt (nn (.store 1 (T 96) (T 88))) [] (.alt (oo 97 (.fieldAddr 1 (T 10))) [] (.alt (nn (.store 1 (T 97) (T 95))) [] .done .stop) .stop) .stop) .stop) (.alt (oo 96 (.fieldAddr 2 (T 10))) [vv 91 2,oo 92 (.load true 4 (T 13))] (.alt (oo 95 (.append 4 1 1 (T 90) (T 94))) [] (.alt (nn (.store 1 (T 96) (T 88))) [] (.alt (oo 97 (.fieldAddr 1 (T 10))) [] (.alt (nn (.store 1 (T 97) (T 95))) [] .done .stop) .stop) .stop) .stop) .stop)) (.alt (oo 96 (.fieldAddr 2 (T 10))) [vv 91 2,oo 92 (.load true 4 (T 13))] (.alt (oo 94 (.bslice 4 1 [(T 93)])) [oo 89 (.fieldAddr 1 (T 10)),oo 90 (.load false 1 (T 89))] (.alt (oo 95 (.append 4 1 1 (T 90) (T 94))) [] (.alt (nn (.store 1 (T 96) (T 88))) [] (.alt (oo 97 (.fieldAddr 1 (T 10))) [] (.alt (nn (.store 1 (T 97) (T 95))) [] .done .stop) .stop) .stop) .stop) .stop) .stop)) (.alt (oo 96 (.fieldAddr 2 (T 10))) [vv 91 2,oo 92 (.load true 4 (T 13))] (.alt (oo 93 (.call (T 91) [(T 92)])) [oo 89 (.fieldAddr 1 (T 10)),oo 90 (.load false 1 (T 89))] (.alt (oo 94 (.bslice 4 1 [(T 93)])) [oo 89 (.fieldAddr 1 (T 10)),oo 90 (.load false 1 (T 89))] (.alt (oo 95 (.append 4 1 1 (T 90) (T 94))) [] (.alt (nn (.store 1 (T 96) (T 88))) [] (.alt (oo 97 (.fieldAddr 1 (T 10))) [] (.alt (nn (.store 1 (T 97) (T 95))) [] .done .stop) .stop) .stop) .stop) .stop) .stop) .stop)) .stop)))))))))))
 (.seq (.region [oo 98 (.load true 3 (T 10)),nn (.store 3 (T 8) (T 98)),oo 9 (.mov (kk 0))])
 .ret)))))
theorem f48:fnC Try.prog 48=some (c48,99,[(.cell 8 true 3),(.tmp 9)]):=by kernel_rfl
def c49:CCode :=
 (.seq (.region [oo 3 (.box 79 (T 0)),oo 5 (.alloc 79 (.agg [(.val (.int .u64 0)),(.val (.int .u64 0)),(.val (.int .u64 0)),(.val (.int .u64 0))])),oo 6 (.mov (.const (.bool false)))])
 (.seq (.region [oo 8 (.load false 1 (T 2)),oo 9 (.load true 4 (T 3)),vv 10 1,oo 11 (.call (.func 42) [(T 8),(T 9),(T 10)]),oo 7 (.alloc 79 (.agg [(.val (.int .u64 0)),(.val (.int .u64 0)),(.val (.int .u64 0)),(.val (.int .u64 0))])),nn (.store 4 (T 7) (T 11))])
 (.seq (.drawn [oo 12 (.load true 4 (T 7)),oo 13 (.load true 4 (T 7)),oo 14 (.build [(.val (.int .u64 0)),(.val (.int .u64 0)),(.val (.int .u64 0)),(.val (.int .u64 0))] []),oo 15 (.aeq true 4 (T 13) (T 14))] [(nn (.store 4 (T 5) (T 12)),[oo 13 (.load true 4 (T 7)),oo 14 (.build [(.val (.int .u64 0)),(.val (.int .u64 0)),(.val (.int .u64 0)),(.val (.int .u64 0))] []),oo 15 (.aeq true 4 (T 13) (T 14))]),(vv 6 15,[])])
 .ret)))
theorem f49:fnC Try.prog 49=some (c49,16,[(.cell 5 true 4),(.tmp 6)]):=by kernel_rfl
def c50:CCode :=
 (.seq (.region [oo 1 (.box 97 (T 0)),oo 2 (.alloc 34 (.agg [(.val (.int .i64 0)),(.val (.slice none 0 0)),(.val (.slice none 0 0))])),oo 3 (.mov (kk 0))])
 (.seq (.region [oo 13 (.load true 3 (T 1)),oo 14 (.call (.func 75) [(T 13)]),nn (.store 3 (T 1) (T 14))])
 (.seq (.region [oo 15 (.load true 3 (T 1)),oo 16 (.call (.func 76) [(T 15)]),vv 4 16])
 (.seq (.region [oo 17 (.mnew 1000000000),vv 18 4,oo 19 (.idxS 1 (T 18) (kk 0)),oo 20 (.load false 1 (T 19)),nn (.mset 0 (T 17) (T 20) (kk 0)),vv 21 17,vv 5 21])
 (.seq (.region [oo 22 (.fieldAddr 0 (T 1)),oo 23 (.load false 1 (T 22)),oo 24 (.build [(.val (.int .i64 0)),(.val (.slice none 0 0)),(.val (.slice none 0 0))] [(0,(1,(T 23)))]),oo 6 (.alloc 34 (.agg [(.val (.int .i64 0)),(.val (.slice none 0 0)),(.val (.slice none 0 0))])),nn (.store 3 (T 6) (T 24))])
 (.seq (.seq (.region [oo 25 (.bslice 3 1 [(kk 0)]),vv 7 25])
 (.block 0 (.loop
 (.seq (.seq (.region [oo 26 (.fieldAddr 1 (T 6)),oo 27 (.load false 1 (T 26)),oo 28 (.len (T 27)),vv 29 7,oo 30 (.len (T 29)),oo 31 (.ibin .lss (T 28) (T 30))])
 (.cond (T 31)
 .skip
 (.exit 0)))
 (.block 1 (.seq (.region [oo 32 (.fieldAddr 1 (T 6)),oo 33 (.load false 1 (T 32)),oo 34 (.len (T 33)),vv 8 34])
 (.seq (.drawn [oo 35 (.fieldAddr 1 (T 6)),oo 36 (.load false 1 (T 35)),oo 37 (.fieldAddr 1 (T 1)),oo 38 (.load false 1 (T 37)),vv 39 7,vv 40 8,oo 41 (.idxS 1 (T 39) (T 40)),oo 42 (.load false 1 (T 41)),oo 43 (.idxS 1 (T 38) (T 42)),oo 44 (.load false 1 (T 43)),oo 45 (.bslice 4 1 [(T 44)])] [(oo 46 (.append 4 1 1 (T 36) (T 45)),[]),(oo 47 (.fieldAddr 1 (T 6)),[]),(nn (.store 1 (T 47) (T 46)),[])])
 (.seq (.drawn [oo 48 (.fieldAddr 2 (T 1)),oo 49 (.load false 1 (T 48)),vv 50 7,vv 51 8,oo 52 (.idxS 1 (T 50) (T 51)),oo 53 (.load false 1 (T 52)),oo 54 (.idxS 1 (T 49) (T 53)),oo 55 (.load false 1 (T 54)),oo 56 (.len (T 55)),oo 57 (.mov (kk 0))] [])
 (.block 2 (.loop
 (.seq (.region [oo 58 (.ibin .lss (T 57) (T 56))])
 (.seq (.cond (T 58)
 .skip
 (.exit 2))
 (.seq (.block 3 (.seq (.region [vv 59 57,oo 60 (.idxS 1 (T 55) (T 57)),oo 61 (.load false 1 (T 60)),vv 9 59,vv 10 61])
 (.seq (.seq (.region [vv 62 10,oo 63 (.ibin .lss (T 62) (kk 0)),vv 64 63,vf 65 64 4,vf 66 64 10,gf 67 64 (.idxS 1 (T 65) (T 66)),gf 68 64 (.load false 1 (T 67)),gf 69 64 (.ibin .lss (T 68) (kk 0)),oo 70 (.pick (T 64) (.const (.bool true)) (T 69))])
 (.cond (T 70)
 (.exit 3)
 .skip))
 (.seq (.region [vv 72 5,vv 73 4,vv 74 10,oo 75 (.idxS 1 (T 73) (T 74)),oo 76 (.load false 1 (T 75)),oo 77 (.mget 0 true (.int .i64 0) (T 72) (T 76)),vv 71 77,oo 78 (.extract (T 71) 0),oo 79 (.extract (T 71) 1),vv 11 78,vv 12 79])
 (.seq (.seq (.region [vv 80 12,oo 81 (.lnot (T 80))])
 (.cond (T 81)
 (.seq (.region [vv 82 7,oo 83 (.len (T 82)),vv 11 83])
 (.seq (.region [vv 84 5,vv 85 4,vv 86 10,oo 87 (.idxS 1 (T 85) (T 86)),oo 88 (.load false 1 (T 87)),vv 89 11,nn (.mset 0 (T 84) (T 88) (T 89))])
 (.region [vv 90 7,vv 91 10,oo 92 (.bslice 3 1 [(T 91)]),oo 93 (.append 3 1 8 (T 90) (T 92)),vv 7 93])))
 .skip))
 (.region [oo 94 (.fieldAddr 2 (T 6)),oo 95 (.load false 1 (T 94)),vv 96 8,vv 97 9,vv 98 11,oo 99 (.build [(.val (.int .i64 0)),(.val (.int .i64 0)),(.val (.int .i64 0))] [(0,(1,(T 96))),(1,(1,(T 97))),(2,(1,(T 98)))]),oo 100 (.bslice 72 3 [(T 99)]),oo 101 (.append 72 3 24 (T 95) (T 100)),oo 102 (.fieldAddr 2 (T 6)),nn (.store 1 (T 102) (T 101))]))))))
 (.region [oo 103 (.ibin .add (T 57) (kk 1)),vv 57 103]))))))))))))))
 (.seq (.seq (.region [oo 104 (.load true 3 (T 6)),oo 105 (.call (.func 14) [(T 104)]),oo 106 (.ibin .neq (T 105) (kk 0))])
 (.cond (T 106)
 (.seq (.region [oo 107 (.build [(.val (.int .i64 0)),(.val (.slice none 0 0)),(.val (.slice none 0 0))] []),nn (.store 3 (T 2) (T 107)),oo 3 (.mov (kk 4))])
 .ret)
 .skip))
 (.seq (.region [oo 108 (.load true 3 (T 6)),nn (.store 3 (T 2) (T 108)),oo 3 (.mov (kk 0))])
 .ret))))))))
theorem f50:fnC Try.prog 50=some (c50,109,[(.cell 2 true 3),(.tmp 3)]):=by kernel_rfl
def c54:CCode :=
 (.seq (.region [oo 6 (.mov (kk 0))])
 (.seq (.seq (.region [vv 7 1,oo 8 (.ibin .lss (T 7) (kk 0)),vv 9 8,vf 10 9 1,vf 11 9 0,gf 12 9 (.len (T 11)),gf 13 9 (.ibin .geq (T 10) (T 12)),oo 14 (.pick (T 9) (.const (.bool true)) (T 13))])
 (.cond (T 14)
 (.seq (.region [oo 6 (.mov (kk 0))])
 .ret)
 .skip))
 (.seq (.region [vv 15 0,vv 16 1,oo 17 (.idxS 1 (T 15) (T 16)),oo 18 (.load false 1 (T 17)),vv 19 2,oo 20 (.call (.func 33) [(T 18),(T 19)]),vv 6 20])
 .ret)))
theorem f54:fnC Try.prog 54=some (c54,21,[(.tmp 6)]):=by kernel_rfl
def c55:CCode :=
 (.seq (.region [oo 2 (.box 34 (T 0)),oo 3 (.box 34 (T 1)),oo 4 (.alloc 97 (.agg [(.val (.int .i64 0)),(.val (.slice none 0 0)),(.val (.slice none 0 0))])),oo 5 (.alloc 97 (.agg [(.val (.int .i64 0)),(.val (.slice none 0 0)),(.val (.slice none 0 0))])),oo 6 (.mov (kk 0))])
 (.seq (.seq (.region [oo 12 (.load true 3 (T 2)),oo 13 (.load true 3 (T 3)),oo 14 (.bslice 34 3 [(T 12),(T 13)]),oo 15 (.len (T 14)),oo 16 (.mov (kk 0))])
 (.block 0 (.loop
 (.seq (.region [oo 17 (.ibin .lss (T 16) (T 15))])
 (.seq (.cond (T 17)
 .skip
 (.exit 0))
 (.seq (.block 1 (.seq (.region [oo 18 (.idxS 3 (T 14) (T 16)),oo 19 (.load true 3 (T 18)),oo 8 (.alloc 34 (.agg [(.val (.int .i64 0)),(.val (.slice none 0 0)),(.val (.slice none 0 0))])),nn (.store 3 (T 8) (T 19))])
 (.seq (.region [oo 20 (.load true 3 (T 8)),oo 21 (.call (.func 14) [(T 20)]),vv 9 21])
 (.seq (.region [vv 22 9,oo 23 (.ibin .neq (T 22) (kk 0))])
 (.cond (T 23)
 (.seq (.drawn [oo 24 (.load true 3 (T 4)),oo 25 (.load true 3 (T 5)),vv 26 9] [(nn (.store 3 (T 4) (T 24)),[oo 25 (.load true 3 (T 5)),vv 26 9]),(nn (.store 3 (T 5) (T 25)),[vv 26 9]),(vv 6 26,[])])
 .ret)
 .skip)))))
 (.region [oo 27 (.ibin .add (T 16) (kk 1)),vv 16 27])))))))
 (.seq (.seq (.region [oo 28 (.fieldAddr 0 (T 2)),oo 29 (.load false 1 (T 28)),oo 30 (.fieldAddr 0 (T 3)),oo 31 (.load false 1 (T 30)),oo 32 (.ibin .neq (T 29) (T 31))])
 (.cond (T 32)
 (.seq (.drawn [oo 33 (.load true 3 (T 4)),oo 34 (.load true 3 (T 5))] [(nn (.store 3 (T 4) (T 33)),[oo 34 (.load true 3 (T 5))]),(nn (.store 3 (T 5) (T 34)),[]),(oo 6 (.mov (kk 13)),[])])
 .ret)
 .skip))
 (.seq (.region [oo 36 (.load true 3 (T 2)),oo 37 (.call (.func 22) [(T 36)]),vv 35 37,oo 38 (.extract (T 35) 0),oo 39 (.extract (T 35) 1),oo 10 (.alloc 34 (.agg [(.val (.int .i64 0)),(.val (.slice none 0 0)),(.val (.slice none 0 0))])),nn (.store 3 (T 10) (T 38)),vv 6 39])
 (.seq (.seq (.region [vv 40 6,oo 41 (.ibin .neq (T 40) (kk 0))])
 (.cond (T 41)
 (.seq (.drawn [oo 42 (.load true 3 (T 4)),oo 43 (.load true 3 (T 5)),vv 44 6] [(nn (.store 3 (T 4) (T 42)),[oo 43 (.load true 3 (T 5)),vv 44 6]),(nn (.store 3 (T 5) (T 43)),[vv 44 6]),(vv 6 44,[])])
 .ret)
 .skip))
 (.seq (.region [oo 46 (.load true 3 (T 3)),oo 47 (.call (.func 22) [(T 46)]),vv 45 47,oo 48 (.extract (T 45) 0),oo 49 (.extract (T 45) 1),oo 11 (.alloc 34 (.agg [(.val (.int .i64 0)),(.val (.slice none 0 0)),(.val (.slice none 0 0))])),nn (.store 3 (T 11) (T 48)),vv 6 49])
 (.seq (.seq (.region [vv 50 6,oo 51 (.ibin .neq (T 50) (kk 0))])
 (.cond (T 51)
 (.seq (.drawn [oo 52 (.load true 3 (T 4)),oo 53 (.load true 3 (T 5)),vv 54 6] [(nn (.store 3 (T 4) (T 52)),[oo 53 (.load true 3 (T 5)),vv 54 6]),(nn (.store 3 (T 5) (T 53)),[vv 54 6]),(vv 6 54,[])])
 .ret)
 .skip))
 (.seq (.drawn [oo 55 (.load true 3 (T 10)),oo 57 (.load true 3 (T 11))] [(oo 56 (.call (.func 65) [(T 55)]),[oo 57 (.load true 3 (T 11))]),(oo 58 (.call (.func 65) [(T 57)]),[]),(nn (.store 3 (T 4) (T 56)),[]),(nn (.store 3 (T 5) (T 58)),[]),(oo 6 (.mov (kk 0)),[])])
 .ret))))))))
theorem f55:fnC Try.prog 55=some (c55,59,[(.cell 4 true 3),(.cell 5 true 3),(.tmp 6)]):=by kernel_rfl
def c56:CCode :=
 (.seq (.region [oo 2 (.box 97 (T 0)),oo 4 (.mov (.const (.bool false)))])
 (.seq (.region [vv 5 1,oo 6 (.ibin .geq (T 5) (kk 0)),vv 7 6,gt 8 7 (.fieldAddr 1 (T 2)),gt 9 7 (.load false 1 (T 8)),vt 10 7 1,gt 11 7 (.idxS 1 (T 9) (T 10)),gt 12 7 (.load false 1 (T 11)),oo 13 (.pick (T 7) (T 12) (.const (.bool false))),vv 4 13])
 .ret))
theorem f56:fnC Try.prog 56=some (c56,14,[(.tmp 4)]):=by kernel_rfl
def c57:CCode :=
 (.seq (.region [oo 3 (.box 97 (T 0)),oo 6 (.mov (kk 0))])
 (.seq (.seq (.region [vv 7 1,oo 8 (.ibin .lss (T 7) (kk 0))])
 (.cond (T 8)
 (.seq (.region [oo 6 (.mov (kk (-1)))])
 .ret)
 .skip))
 (.seq (.region [oo 9 (.fieldAddr 2 (T 3)),oo 10 (.load false 1 (T 9)),vv 11 1,oo 12 (.idxS 1 (T 10) (T 11)),oo 13 (.load false 1 (T 12)),vv 14 2,oo 15 (.idxS 1 (T 13) (T 14)),oo 16 (.load false 1 (T 15)),vv 6 16])
 .ret)))
theorem f57:fnC Try.prog 57=some (c57,17,[(.tmp 6)]):=by kernel_rfl
def c60:CCode :=
 (.drawn [vv 4 0,vv 5 1,oo 6 (.ibin .quo (T 5) (kk 64)),oo 7 (.nilCheck (T 4)),oo 8 (.idxA 4 1 (T 7) (T 6)),oo 9 (.load false 1 (T 8)),vv 10 1,oo 11 (.ibin .rem (T 10) (kk 64)),oo 12 (.ibin .shl (.const (.int .u64 1)) (T 11)),oo 13 (.ibin .or (T 9) (T 12)),oo 14 (.nilCheck (T 4)),oo 15 (.idxA 4 1 (T 14) (T 6))] [(nn (.store 1 (T 15) (T 13)),[])])
theorem f60:fnC Try.prog 60=some (c60,16,[]):=by kernel_rfl
def c61:CCode :=
 (.seq (.region [oo 1 (.box 79 (T 0)),oo 2 (.mov (.const (.bool false)))])
 (.seq (.region [oo 3 (.load true 4 (T 1)),oo 4 (.call (.func 62) [(T 3),(kk 0)]),vv 2 4])
 .ret))
theorem f61:fnC Try.prog 61=some (c61,5,[(.tmp 2)]):=by kernel_rfl
def c62:CCode :=
 (.seq (.region [oo 2 (.box 79 (T 0)),oo 4 (.mov (.const (.bool false)))])
 (.seq (.region [vv 5 1,oo 6 (.ibin .quo (T 5) (kk 64)),oo 7 (.idxA 4 1 (T 2) (T 6)),oo 8 (.load false 1 (T 7)),vv 9 1,oo 10 (.ibin .rem (T 9) (kk 64)),oo 11 (.ibin .shr (T 8) (T 10)),oo 12 (.ibin .and (T 11) (.const (.int .u64 1))),oo 13 (.ibin .eql (T 12) (.const (.int .u64 1))),vv 4 13])
 .ret))
theorem f62:fnC Try.prog 62=some (c62,14,[(.tmp 4)]):=by kernel_rfl
def c63:CCode :=
 (.seq (.region [oo 3 (.box 79 (T 0)),oo 5 (.alloc 79 (.agg [(.val (.int .u64 0)),(.val (.int .u64 0)),(.val (.int .u64 0)),(.val (.int .u64 0))])),oo 6 (.mov (.const (.bool false)))])
 (.seq (.region [oo 7 (.alloc 79 (.agg [(.val (.int .u64 0)),(.val (.int .u64 0)),(.val (.int .u64 0)),(.val (.int .u64 0))]))])
 (.seq (.seq (.region [oo 10 (.fieldAddr 2 (T 2)),oo 11 (.load false 1 (T 10)),oo 12 (.len (T 11)),oo 13 (.mov (kk 0))])
 (.block 0 (.loop
 (.seq (.region [oo 14 (.ibin .lss (T 13) (T 12))])
 (.seq (.cond (T 14)
 .skip
 (.exit 0))
 (.seq (.block 1 (.seq (.region [oo 15 (.idxS 3 (T 11) (T 13)),oo 16 (.load true 3 (T 15)),oo 9 (.alloc 72 (.agg [(.val (.int .i64 0)),(.val (.int .i64 0)),(.val (.int .i64 0))])),nn (.store 3 (T 9) (T 16))])
 (.seq (.region [oo 17 (.fieldAddr 1 (T 9)),oo 18 (.load false 1 (T 17)),vv 19 1,oo 20 (.ibin .eql (T 18) (T 19)),vv 21 20,gt 22 21 (.load true 4 (T 3)),gt 23 21 (.fieldAddr 2 (T 9)),gt 24 21 (.load false 1 (T 23)),gt 25 21 (.call (.func 62) [(T 22),(T 24)]),oo 26 (.pick (T 21) (T 25) (.const (.bool false)))])
 (.cond (T 26)
 (.region [oo 27 (.fieldAddr 0 (T 9)),oo 28 (.load false 1 (T 27)),oo 29 (.call (.func 60) [(T 7),(T 28)])])
 .skip))))
 (.region [oo 30 (.ibin .add (T 13) (kk 1)),vv 13 30])))))))
 (.seq (.drawn [oo 31 (.load true 4 (T 7)),oo 32 (.load true 4 (T 7)),oo 33 (.build [(.val (.int .u64 0)),(.val (.int .u64 0)),(.val (.int .u64 0)),(.val (.int .u64 0))] []),oo 34 (.aeq true 4 (T 32) (T 33))] [(nn (.store 4 (T 5) (T 31)),[oo 32 (.load true 4 (T 7)),oo 33 (.build [(.val (.int .u64 0)),(.val (.int .u64 0)),(.val (.int .u64 0)),(.val (.int .u64 0))] []),oo 34 (.aeq true 4 (T 32) (T 33))]),(vv 6 34,[])])
 .ret))))
theorem f63:fnC Try.prog 63=some (c63,35,[(.cell 5 true 4),(.tmp 6)]):=by kernel_rfl
def c65:CCode :=
 (.seq (.region [oo 1 (.box 34 (T 0)),oo 2 (.alloc 97 (.agg [(.val (.int .i64 0)),(.val (.slice none 0 0)),(.val (.slice none 0 0))]))])
 (.seq (.drawn [oo 7 (.fieldAddr 0 (T 1)),oo 8 (.load false 1 (T 7)),oo 9 (.fieldAddr 1 (T 1)),oo 10 (.load false 1 (T 9)),oo 11 (.fieldAddr 1 (T 1)),oo 12 (.load false 1 (T 11)),oo 13 (.len (T 12)),oo 14 (.mkslice 22 1 24 (.val (.slice none 0 0)) (T 13) (T 13)),oo 15 (.build [(.val (.int .i64 0)),(.val (.slice none 0 0)),(.val (.slice none 0 0))] [(0,(1,(T 8))),(1,(1,(T 10))),(2,(1,(T 14)))]),oo 3 (.alloc 97 (.agg [(.val (.int .i64 0)),(.val (.slice none 0 0)),(.val (.slice none 0 0))]))] [(nn (.store 3 (T 3) (T 15)),[])])
 (.seq (.seq (.region [oo 16 (.fieldAddr 2 (T 3)),oo 17 (.load false 1 (T 16)),oo 18 (.len (T 17)),oo 19 (.mov (kk 0))])
 (.block 0 (.loop
 (.seq (.region [oo 20 (.ibin .lss (T 19) (T 18))])
 (.seq (.cond (T 20)
 .skip
 (.exit 0))
 (.seq (.block 1 (.seq (.region [vv 21 19,vv 4 21])
 (.drawn [oo 22 (.fieldAddr 2 (T 3)),oo 23 (.load false 1 (T 22)),vv 24 4,oo 25 (.bslice 3 1 [(kk (-1))]),oo 26 (.fieldAddr 0 (T 1)),oo 27 (.load false 1 (T 26))] [(oo 28 (.call (.func 66) [(T 25),(T 27)]),[oo 22 (.fieldAddr 2 (T 3)),oo 23 (.load false 1 (T 22)),vv 24 4]),(oo 29 (.idxS 1 (T 23) (T 24)),[]),(nn (.store 1 (T 29) (T 28)),[])])))
 (.region [oo 30 (.ibin .add (T 19) (kk 1)),vv 19 30])))))))
 (.seq (.seq (.region [oo 31 (.fieldAddr 2 (T 1)),oo 32 (.load false 1 (T 31)),oo 33 (.len (T 32)),oo 34 (.mov (kk 0))])
 (.block 2 (.loop
 (.seq (.region [oo 35 (.ibin .lss (T 34) (T 33))])
 (.seq (.cond (T 35)
 .skip
 (.exit 2))
 (.seq (.block 3 (.seq (.region [oo 36 (.idxS 3 (T 32) (T 34)),oo 37 (.load true 3 (T 36)),oo 6 (.alloc 72 (.agg [(.val (.int .i64 0)),(.val (.int .i64 0)),(.val (.int .i64 0))])),nn (.store 3 (T 6) (T 37))])
 (.drawn [oo 38 (.fieldAddr 2 (T 3)),oo 39 (.load false 1 (T 38)),oo 40 (.fieldAddr 0 (T 6)),oo 41 (.load false 1 (T 40)),oo 42 (.idxS 1 (T 39) (T 41)),oo 43 (.load false 1 (T 42)),oo 44 (.fieldAddr 1 (T 6)),oo 45 (.load false 1 (T 44)),oo 46 (.fieldAddr 2 (T 6)),oo 47 (.load false 1 (T 46)),oo 48 (.idxS 1 (T 43) (T 45))] [(nn (.store 1 (T 48) (T 47)),[])])))
 (.region [oo 49 (.ibin .add (T 34) (kk 1)),vv 34 49])))))))
 (.seq (.region [oo 50 (.load true 3 (T 3)),nn (.store 3 (T 2) (T 50))])
 .ret)))))
theorem f65:fnC Try.prog 65=some (c65,51,[(.cell 2 true 3)]):=by kernel_rfl
def c66:CCode :=
 (.seq (.region [oo 4 (.mov (.const (.slice none 0 0)))])
 (.seq (.seq (.region [vv 9 1,oo 10 (.ibin .lss (T 9) (kk 0))])
 (.cond (T 10)
 (.region [oo 11 (.bad),nn (.bad)])
 .skip))
 (.seq (.region [vv 13 0,oo 14 (.len (T 13)),oo 15 (.conv .u64 (T 14)),vv 16 1,oo 17 (.conv .u64 (T 16)),oo 18 (.call (.func 80) [(T 15),(T 17)]),vv 12 18,oo 19 (.extract (T 12) 0),oo 20 (.extract (T 12) 1),vv 5 19,vv 6 20])
 (.seq (.seq (.region [vv 21 5,oo 22 (.ibin .gtr (T 21) (.const (.int .u64 0))),vv 23 22,vf 24 23 6,gf 25 23 (.ibin .gtr (T 24) (.const (.int .u64 9223372036854775807))),oo 26 (.pick (T 23) (.const (.bool true)) (T 25))])
 (.cond (T 26)
 (.region [oo 27 (.bad),nn (.bad)])
 .skip))
 (.seq (.region [vv 28 6,oo 29 (.conv .i64 (T 28)),oo 30 (.mkslice 3 1 8 (.val (.int .i64 0)) (T 29) (T 29)),vv 7 30])
 (.seq (.region [vv 31 7,vv 32 0,oo 33 (.copy 1 (T 31) (T 32)),vv 8 33])
 (.seq (.block 0 (.loop
 (.seq (.seq (.region [vv 34 8,vv 35 7,oo 36 (.len (T 35)),oo 37 (.ibin .lss (T 34) (T 36))])
 (.cond (T 37)
 .skip
 (.exit 0)))
 (.block 1 (.drawn [vv 38 8,vv 39 7,vv 40 8,oo 41 (.slice 1 (T 39) (some (T 40)) none),vv 42 7,vv 43 8,oo 44 (.slice 1 (T 42) none (some (T 43)))] [(oo 45 (.copy 1 (T 41) (T 44)),[vv 38 8]),(oo 46 (.ibin .add (T 38) (T 45)),[]),(vv 8 46,[])])))))
 (.seq (.region [vv 47 7,vv 4 47])
 .ret))))))))
theorem f66:fnC Try.prog 66=some (c66,48,[(.tmp 4)]):=by kernel_rfl
def c67:CCode :=
 (.seq (.region [oo 2 (.mov (.const (.slice none 0 0)))])
 (.seq (.seq (.region [vv 3 0,oo 4 (.isNil true false (T 3) (.const (.slice none 0 0)))])
 (.cond (T 4)
 (.seq (.region [oo 2 (.mov (.const (.slice none 0 0)))])
 .ret)
 .skip))
 (.seq (.region [oo 5 (.bslice 4 1 []),vv 6 0,oo 7 (.append 4 1 1 (T 5) (T 6)),vv 2 7])
 .ret)))
theorem f67:fnC Try.prog 67=some (c67,8,[(.tmp 2)]):=by kernel_rfl
def c72:CCode :=
 (.seq (.region [oo 4 (.mov (kk 0))])
 (.seq (.seq (.region [vv 6 0,oo 7 (.len (T 6)),oo 8 (.mov (kk 0))])
 (.block 0 (.loop
 (.seq (.region [oo 9 (.ibin .lss (T 8) (T 7))])
 (.seq (.cond (T 9)
 .skip
 (.exit 0))
 (.seq (.block 1 (.seq (.region [vv 10 8,vv 5 10])
 (.seq (.region [vv 11 1,vv 12 0,vv 13 5,oo 14 (.idxS 3 (T 12) (T 13)),oo 15 (.load true 3 (T 14)),oo 16 (.call (T 11) [(T 15)])])
 (.cond (T 16)
 (.seq (.region [vv 17 5,vv 4 17])
 .ret)
 .skip))))
 (.region [oo 18 (.ibin .add (T 8) (kk 1)),vv 8 18])))))))
 (.seq (.region [oo 4 (.mov (kk (-1)))])
 .ret)))
theorem f72:fnC Try.prog 72=some (c72,19,[(.tmp 4)]):=by kernel_rfl
def c73:CCode :=
 (.seq (.seq (.region [oo 8 (.load false 1 (T 1)),oo 9 (.load false 1 (T 2)),oo 10 (.idxS 4 (T 8) (T 9)),oo 11 (.load true 4 (T 10)),vv 12 0,oo 13 (.call (.func 62) [(T 11),(T 12)])])
 (.cond (T 13)
 .ret
 .skip))
 (.seq (.region [oo 14 (.load false 1 (T 1)),oo 15 (.load false 1 (T 2)),oo 16 (.idxS 4 (T 14) (T 15)),vv 17 0,oo 18 (.call (.func 60) [(T 16),(T 17)])])
 (.seq (.region [oo 19 (.load false 1 (T 3)),vv 20 0,oo 21 (.idxS 1 (T 19) (T 20)),oo 22 (.load false 1 (T 21)),oo 23 (.len (T 22)),oo 24 (.mov (kk 0))])
 (.block 0 (.loop
 (.seq (.region [oo 25 (.ibin .lss (T 24) (T 23))])
 (.seq (.cond (T 25)
 .skip
 (.exit 0))
 (.seq (.block 1 (.seq (.region [oo 26 (.idxS 1 (T 22) (T 24)),oo 27 (.load false 1 (T 26)),vv 7 27])
 (.region [oo 28 (.load false 1 (T 4)),vv 29 7,oo 30 (.call (T 28) [(T 29)])])))
 (.region [oo 31 (.ibin .add (T 24) (kk 1)),vv 24 31])))))))))
theorem f73:fnC Try.prog 73=some (c73,32,[]):=by kernel_rfl
def c74:CCode :=
 (.seq (.region [oo 2 (.box 26 (T 0)),oo 4 (.mov (.const (.slice none 0 0)))])
 (.seq (.region [oo 5 (.mov (.const (.slice none 0 0)))])
 (.seq (.region [vv 9 5,vv 10 1,oo 11 (.append 4 1 1 (T 9) (T 10)),vv 5 11])
 (.seq (.seq (.region [oo 6 (.mov (.const (.bool true)))])
 (.block 0 (.loop
 (.seq (.seq (.region [vv 12 6])
 (.cond (T 12)
 .skip
 (.exit 0)))
 (.block 1 (.seq (.region [oo 6 (.mov (.const (.bool false)))])
 (.seq (.region [oo 7 (.mov (kk 0))])
 (.block 2 (.loop
 (.seq (.seq (.region [vv 13 7,oo 14 (.fieldAddr 2 (T 2)),oo 15 (.load false 1 (T 14)),oo 16 (.len (T 15)),oo 17 (.ibin .lss (T 13) (T 16))])
 (.cond (T 17)
 .skip
 (.exit 2)))
 (.seq (.block 3 (.seq (.region [oo 20 (.fieldAddr 2 (T 2)),oo 21 (.load false 1 (T 20)),vv 22 7,oo 23 (.idxS 3 (T 21) (T 22)),oo 24 (.load true 3 (T 23)),oo 8 (.alloc 71 (.agg [(.val (.int .i64 0)),(.val (.int .i64 0)),(.val (.int .i64 0))])),nn (.store 3 (T 8) (T 24))])
 (.seq (.region [oo 25 (.fieldAddr 1 (T 8)),oo 26 (.load false 1 (T 25)),oo 27 (.ibin .eql (T 26) (kk (-1))),vv 28 27,vt 29 28 5,gt 30 28 (.fieldAddr 0 (T 8)),gt 31 28 (.load false 1 (T 30)),gt 32 28 (.idxS 1 (T 29) (T 31)),gt 33 28 (.load false 1 (T 32)),oo 34 (.pick (T 28) (T 33) (.const (.bool false))),vv 35 34,vt 36 35 5,gt 37 35 (.fieldAddr 2 (T 8)),gt 38 35 (.load false 1 (T 37)),gt 39 35 (.idxS 1 (T 36) (T 38)),gt 40 35 (.load false 1 (T 39)),gt 41 35 (.lnot (T 40)),oo 42 (.pick (T 35) (T 41) (.const (.bool false)))])
 (.cond (T 42)
 (.seq (.region [vv 43 5,oo 44 (.fieldAddr 2 (T 8)),oo 45 (.load false 1 (T 44)),oo 46 (.idxS 1 (T 43) (T 45)),nn (.store 1 (T 46) (.const (.bool true)))])
 (.region [oo 6 (.mov (.const (.bool true)))]))
 .skip))))
 (.region [vv 18 7,oo 19 (.ibin .add (T 18) (kk 1)),vv 7 19]))))))))))))
 (.seq (.region [vv 47 5,vv 4 47])
 .ret)))))
theorem f74:fnC Try.prog 74=some (c74,48,[(.tmp 4)]):=by kernel_rfl
def c75:CCode :=
 (.seq (.region [oo 1 (.box 97 (T 0)),oo 2 (.alloc 97 (.agg [(.val (.int .i64 0)),(.val (.slice none 0 0)),(.val (.slice none 0 0))]))])
 (.seq (.region [oo 9 (.load true 3 (T 1)),oo 10 (.call (.func 81) [(T 9)]),vv 3 10])
 (.seq (.region [oo 11 (.fieldAddr 2 (T 1)),oo 12 (.load false 1 (T 11)),oo 13 (.len (T 12)),oo 14 (.mkslice 22 1 24 (.val (.slice none 0 0)) (T 13) (T 13)),vv 4 14])
 (.seq (.seq (.region [oo 15 (.fieldAddr 2 (T 1)),oo 16 (.load false 1 (T 15)),oo 17 (.len (T 16)),oo 18 (.mov (kk 0))])
 (.block 0 (.loop
 (.seq (.region [oo 19 (.ibin .lss (T 18) (T 17))])
 (.seq (.cond (T 19)
 .skip
 (.exit 0))
 (.seq (.block 1 (.seq (.region [vv 20 18,oo 21 (.idxS 1 (T 16) (T 18)),oo 22 (.load false 1 (T 21)),vv 5 20,vv 6 22])
 (.seq (.region [vv 23 4,vv 24 5,vv 25 6,oo 26 (.call (.func 47) [(T 25)]),oo 27 (.idxS 1 (T 23) (T 24)),nn (.store 1 (T 27) (T 26))])
 (.seq (.region [vv 28 6,oo 29 (.len (T 28)),oo 30 (.mov (kk 0))])
 (.block 2 (.loop
 (.seq (.region [oo 31 (.ibin .lss (T 30) (T 29))])
 (.seq (.cond (T 31)
 .skip
 (.exit 2))
 (.seq (.block 3 (.seq (.region [vv 32 30,oo 33 (.idxS 1 (T 28) (T 30)),oo 34 (.load false 1 (T 33)),vv 7 32,vv 8 34])
 (.seq (.region [vv 35 8,oo 36 (.ibin .geq (T 35) (kk 0)),vv 37 36,vt 38 37 3,vt 39 37 8,gt 40 37 (.idxS 1 (T 38) (T 39)),gt 41 37 (.load false 1 (T 40)),gt 42 37 (.lnot (T 41)),oo 43 (.pick (T 37) (T 42) (.const (.bool false)))])
 (.cond (T 43)
 (.region [vv 44 4,vv 45 5,oo 46 (.idxS 1 (T 44) (T 45)),oo 47 (.load false 1 (T 46)),vv 48 7,oo 49 (.idxS 1 (T 47) (T 48)),nn (.store 1 (T 49) (kk (-1)))])
 .skip))))
 (.region [oo 50 (.ibin .add (T 30) (kk 1)),vv 30 50]))))))))))
 (.region [oo 51 (.ibin .add (T 18) (kk 1)),vv 18 51])))))))
 (.seq (.region [oo 52 (.fieldAddr 0 (T 1)),oo 53 (.load false 1 (T 52)),oo 54 (.fieldAddr 1 (T 1)),oo 55 (.load false 1 (T 54)),vv 56 4,oo 57 (.build [(.val (.int .i64 0)),(.val (.slice none 0 0)),(.val (.slice none 0 0))] [(0,(1,(T 53))),(1,(1,(T 55))),(2,(1,(T 56)))]),nn (.store 3 (T 2) (T 57))])
 .ret)))))
theorem f75:fnC Try.prog 75=some (c75,58,[(.cell 2 true 3)]):=by kernel_rfl
def c76:CCode :=
 (.seq (.region [oo 1 (.box 97 (T 0)),oo 2 (.mov (.const (.slice none 0 0)))])
 (.seq (.region [oo 19 (.fieldAddr 2 (T 1)),oo 20 (.load false 1 (T 19)),oo 21 (.len (T 20)),oo 22 (.mkslice 3 1 8 (.val (.int .i64 0)) (T 21) (T 21)),vv 3 22])
 (.seq (.seq (.region [oo 23 (.fieldAddr 1 (T 1)),oo 24 (.load false 1 (T 23)),oo 25 (.len (T 24)),oo 26 (.mov (kk 0))])
 (.block 0 (.loop
 (.seq (.region [oo 27 (.ibin .lss (T 26) (T 25))])
 (.seq (.cond (T 27)
 .skip
 (.exit 0))
 (.seq (.block 1 (.seq (.region [vv 28 26,oo 29 (.idxS 1 (T 24) (T 26)),oo 30 (.load false 1 (T 29)),vv 4 28,vv 5 30])
 (.seq (.region [vv 31 5])
 (.cond (T 31)
 (.region [vv 32 3,vv 33 4,oo 34 (.idxS 1 (T 32) (T 33)),nn (.store 1 (T 34) (kk 1))])
 .skip))))
 (.region [oo 35 (.ibin .add (T 26) (kk 1)),vv 26 35])))))))
 (.seq (.region [oo 6 (.mov (kk 0))])
 (.seq (.block 2 (.loop
 (.block 3 (.seq (.region [oo 36 (.mnew 1000000001),vv 7 36])
 (.seq (.region [vv 37 3,oo 38 (.len (T 37)),oo 39 (.mkslice 3 1 8 (.val (.int .i64 0)) (T 38) (T 38)),vv 8 39])
 (.seq (.seq (.region [oo 40 (.fieldAddr 2 (T 1)),oo 41 (.load false 1 (T 40)),oo 42 (.len (T 41)),oo 43 (.mov (kk 0))])
 (.block 4 (.loop
 (.seq (.region [oo 44 (.ibin .lss (T 43) (T 42))])
 (.seq (.cond (T 44)
 .skip
 (.exit 4))
 (.seq (.block 5 (.seq (.region [vv 45 43,oo 46 (.idxS 1 (T 41) (T 43)),oo 47 (.load false 1 (T 46)),vv 9 45,vv 10 47])
 (.seq (.drawn [vv 48 3,vv 49 9,oo 50 (.idxS 1 (T 48) (T 49)),oo 51 (.load false 1 (T 50)),oo 52 (.ibin .shr (T 51) (.const (.int .u64 8))),oo 53 (.conv .u8 (T 52)),vv 54 3,vv 55 9,oo 56 (.idxS 1 (T 54) (T 55)),oo 57 (.load false 1 (T 56)),oo 58 (.conv .u8 (T 57)),oo 59 (.bslice 2000000005 1 [(T 53),(T 58)]),vv 11 59] [])
 (.seq (.seq (.region [vv 60 10,oo 61 (.len (T 60)),oo 62 (.mov (kk 0))])
 (.block 6 (.loop
 (.seq (.region [oo 63 (.ibin .lss (T 62) (T 61))])
 (.seq (.cond (T 63)
 .skip
 (.exit 6))
 (.seq (.block 7 (.seq (.region [oo 64 (.idxS 1 (T 60) (T 62)),oo 65 (.load false 1 (T 64)),vv 13 65])
 (.seq (.region [oo 14 (.mov (kk (-1)))])
 (.seq (.seq (.region [vv 66 13,oo 67 (.ibin .geq (T 66) (kk 0))])
 (.cond (T 67)
 (.region [vv 68 3,vv 69 13,oo 70 (.idxS 1 (T 68) (T 69)),oo 71 (.load false 1 (T 70)),vv 14 71])
 .skip))
 (.region [vv 72 11,vv 73 14,oo 74 (.ibin .shr (T 73) (.const (.int .u64 8))),oo 75 (.conv .u8 (T 74)),vv 76 14,oo 77 (.conv .u8 (T 76)),oo 78 (.bslice 2000000005 1 [(T 75),(T 77)]),oo 79 (.append 5 1 1 (T 72) (T 78)),vv 11 79])))))
 (.region [oo 80 (.ibin .add (T 62) (kk 1)),vv 62 80])))))))
 (.seq (.region [vv 82 7,vv 83 11,oo 84 (.str (T 83)),oo 85 (.mget 1 true (.int .i64 0) (T 82) (T 84)),vv 81 85,oo 86 (.extract (T 81) 0),oo 87 (.extract (T 81) 1),vv 15 86,vv 16 87])
 (.seq (.seq (.region [vv 88 16,oo 89 (.lnot (T 88))])
 (.cond (T 89)
 (.seq (.region [vv 90 7,oo 91 (.mlen 1 (T 90)),vv 15 91])
 (.region [vv 92 7,vv 93 11,oo 94 (.str (T 93)),vv 95 15,nn (.mset 1 (T 92) (T 94) (T 95))]))
 .skip))
 (.region [vv 96 8,vv 97 9,vv 98 15,oo 99 (.idxS 1 (T 96) (T 97)),nn (.store 1 (T 99) (T 98))])))))))
 (.region [oo 100 (.ibin .add (T 43) (kk 1)),vv 43 100])))))))
 (.seq (.seq (.region [vv 101 7,oo 102 (.mlen 1 (T 101)),vv 103 6,oo 104 (.ibin .eql (T 102) (T 103))])
 (.cond (T 104)
 (.exit 2)
 .skip))
 (.region [vv 105 7,oo 106 (.mlen 1 (T 105)),vv 107 8,vv 6 106,vv 3 107]))))))))
 (.seq (.seq (.region [oo 108 (.load true 3 (T 1)),oo 109 (.call (.func 81) [(T 108)]),oo 110 (.len (T 109)),oo 111 (.mov (kk 0))])
 (.block 8 (.loop
 (.seq (.region [oo 112 (.ibin .lss (T 111) (T 110))])
 (.seq (.cond (T 112)
 .skip
 (.exit 8))
 (.seq (.block 9 (.seq (.region [vv 113 111,oo 114 (.idxS 1 (T 109) (T 111)),oo 115 (.load false 1 (T 114)),vv 17 113,vv 18 115])
 (.seq (.region [vv 116 18,oo 117 (.lnot (T 116))])
 (.cond (T 117)
 (.region [vv 118 3,vv 119 17,oo 120 (.idxS 1 (T 118) (T 119)),nn (.store 1 (T 120) (kk (-1)))])
 .skip))))
 (.region [oo 121 (.ibin .add (T 111) (kk 1)),vv 111 121])))))))
 (.seq (.region [vv 122 3,vv 2 122])
 .ret)))))))
theorem f76:fnC Try.prog 76=some (c76,123,[(.tmp 2)]):=by kernel_rfl
def c80:CCode :=
 (.seq (.region [oo 4 (.mov (.const (.int .u64 0))),oo 5 (.mov (.const (.int .u64 0)))])
 (.seq (.cond (.const (.bool false))
 (.seq (.region [vv 11 0,oo 12 (.conv .u32 (T 11)),vv 13 1,oo 14 (.conv .u32 (T 13)),oo 15 (.call (.func 84) [(T 12),(T 14)]),vv 10 15,oo 16 (.extract (T 10) 0),oo 17 (.extract (T 10) 1),vv 6 16,vv 7 17])
 (.seq (.region [vv 18 6,oo 19 (.conv .u64 (T 18)),vv 20 7,oo 21 (.conv .u64 (T 20)),vv 4 19,vv 5 21])
 .ret))
 .skip)
 (.seq (.region [vv 23 0,vv 24 1,oo 25 (.call (.func 85) [(T 23),(T 24)]),vv 22 25,oo 26 (.extract (T 22) 0),oo 27 (.extract (T 22) 1),vv 8 26,vv 9 27])
 (.seq (.region [vv 28 8,vv 29 9,vv 4 28,vv 5 29])
 .ret))))
theorem f80:fnC Try.prog 80=some (c80,30,[(.tmp 4),(.tmp 5)]):=by kernel_rfl
def c81:CCode :=
 (.seq (.region [oo 1 (.box 97 (T 0)),oo 2 (.mov (.const (.slice none 0 0)))])
 (.seq (.region [oo 7 (.fieldAddr 1 (T 1)),oo 8 (.load false 1 (T 7)),oo 9 (.call (.func 67) [(T 8)]),oo 3 (.alloc 23 (.val (.slice none 0 0))),nn (.store 1 (T 3) (T 9))])
 (.seq (.seq (.region [oo 4 (.mov (.const (.bool true)))])
 (.block 0 (.loop
 (.seq (.seq (.region [vv 10 4])
 (.cond (T 10)
 .skip
 (.exit 0)))
 (.block 1 (.seq (.region [oo 4 (.mov (.const (.bool false)))])
 (.seq (.region [oo 11 (.fieldAddr 2 (T 1)),oo 12 (.load false 1 (T 11)),oo 13 (.len (T 12)),oo 14 (.mov (kk 0))])
 (.block 2 (.loop
 (.seq (.region [oo 15 (.ibin .lss (T 14) (T 13))])
 (.seq (.cond (T 15)
 .skip
 (.exit 2))
 (.seq (.block 3 (.seq (.region [vv 16 14,oo 17 (.idxS 1 (T 12) (T 14)),oo 18 (.load false 1 (T 17)),vv 5 16,vv 6 18])
 (.seq (.region [oo 19 (.load false 1 (T 3)),vv 20 5,oo 21 (.idxS 1 (T 19) (T 20)),oo 22 (.load false 1 (T 21)),oo 23 (.lnot (T 22)),vv 24 23,vt 25 24 6,gt 26 24 (.mkfunc (.func 87) [(T 3)]),gt 27 24 (.call (.func 86) [(T 25),(T 26)]),oo 28 (.pick (T 24) (T 27) (.const (.bool false)))])
 (.cond (T 28)
 (.region [oo 29 (.load false 1 (T 3)),vv 30 5,oo 31 (.idxS 1 (T 29) (T 30)),nn (.store 1 (T 31) (.const (.bool true))),oo 4 (.mov (.const (.bool true)))])
 .skip))))
 (.region [oo 32 (.ibin .add (T 14) (kk 1)),vv 14 32])))))))))))))
 (.seq (.region [oo 33 (.load false 1 (T 3)),vv 2 33])
 .ret))))
theorem f81:fnC Try.prog 81=some (c81,34,[(.tmp 2)]):=by kernel_rfl
def c85:CCode :=
 (.seq (.region [oo 4 (.mov (.const (.int .u64 0))),oo 5 (.mov (.const (.int .u64 0)))])
 (.seq (.region [vv 14 0,oo 15 (.ibin .and (T 14) (.const (.int .u64 4294967295))),vv 6 15])
 (.seq (.region [vv 16 0,oo 17 (.ibin .shr (T 16) (.const (.int .u64 32))),vv 7 17])
 (.seq (.region [vv 18 1,oo 19 (.ibin .and (T 18) (.const (.int .u64 4294967295))),vv 8 19])
 (.seq (.region [vv 20 1,oo 21 (.ibin .shr (T 20) (.const (.int .u64 32))),vv 9 21])
 (.seq (.region [vv 22 6,vv 23 8,oo 24 (.ibin .mul (T 22) (T 23)),vv 10 24])
 (.seq (.region [vv 25 7,vv 26 8,oo 27 (.ibin .mul (T 25) (T 26)),vv 28 10,oo 29 (.ibin .shr (T 28) (.const (.int .u64 32))),oo 30 (.ibin .add (T 27) (T 29)),vv 11 30])
 (.seq (.region [vv 31 11,oo 32 (.ibin .and (T 31) (.const (.int .u64 4294967295))),vv 12 32])
 (.seq (.region [vv 33 11,oo 34 (.ibin .shr (T 33) (.const (.int .u64 32))),vv 13 34])
 (.seq (.region [vv 35 12,vv 36 6,vv 37 9,oo 38 (.ibin .mul (T 36) (T 37)),oo 39 (.ibin .add (T 35) (T 38)),vv 12 39])
 (.seq (.region [vv 40 7,vv 41 9,oo 42 (.ibin .mul (T 40) (T 41)),vv 43 13,oo 44 (.ibin .add (T 42) (T 43)),vv 45 12,oo 46 (.ibin .shr (T 45) (.const (.int .u64 32))),oo 47 (.ibin .add (T 44) (T 46)),vv 4 47])
 (.seq (.region [vv 48 0,vv 49 1,oo 50 (.ibin .mul (T 48) (T 49)),vv 5 50])
 .ret))))))))))))
theorem f85:fnC Try.prog 85=some (c85,51,[(.tmp 4),(.tmp 5)]):=by kernel_rfl
def c86:CCode :=
 (.seq (.region [oo 4 (.mov (.const (.bool false)))])
 (.seq (.region [vv 5 0,vv 6 1,oo 7 (.call (.func 88) [(T 5),(T 6)]),oo 8 (.ibin .geq (T 7) (kk 0)),vv 4 8])
 .ret))
theorem f86:fnC Try.prog 86=some (c86,9,[(.tmp 4)]):=by kernel_rfl
def c87:CCode :=
 (.seq (.region [oo 3 (.mov (.const (.bool false)))])
 (.seq (.region [vv 4 0,oo 5 (.ibin .geq (T 4) (kk 0)),vv 6 5,gt 7 6 (.load false 1 (T 1)),vt 8 6 0,gt 9 6 (.idxS 1 (T 7) (T 8)),gt 10 6 (.load false 1 (T 9)),oo 11 (.pick (T 6) (T 10) (.const (.bool false))),vv 3 11])
 .ret))
theorem f87:fnC Try.prog 87=some (c87,12,[(.tmp 3)]):=by kernel_rfl
def c88:CCode :=
 (.seq (.region [oo 4 (.mov (kk 0))])
 (.seq (.seq (.region [vv 6 0,oo 7 (.len (T 6)),oo 8 (.mov (kk 0))])
 (.block 0 (.loop
 (.seq (.region [oo 9 (.ibin .lss (T 8) (T 7))])
 (.seq (.cond (T 9)
 .skip
 (.exit 0))
 (.seq (.block 1 (.seq (.region [vv 10 8,vv 5 10])
 (.seq (.region [vv 11 1,vv 12 0,vv 13 5,oo 14 (.idxS 1 (T 12) (T 13)),oo 15 (.load false 1 (T 14)),oo 16 (.call (T 11) [(T 15)])])
 (.cond (T 16)
 (.seq (.region [vv 17 5,vv 4 17])
 .ret)
 .skip))))
 (.region [oo 18 (.ibin .add (T 8) (kk 1)),vv 8 18])))))))
 (.seq (.region [oo 4 (.mov (kk (-1)))])
 .ret)))
theorem f88:fnC Try.prog 88=some (c88,19,[(.tmp 4)]):=by kernel_rfl
end Go.Proofs.Ytjilachpkjlhdaa
namespace Dak
open Go Go.RowKit
variable [Globs]
def AgreeR (σ : Nat->Nat) (base:List AObj) (env:List (Nat × AV)):List (Nat × AV)->Prop
 | []=>True
 | (k,v)::r=>lk env k=v.ren σ/\v.inR base=true/\AgreeR σ base env r
theorem agreeR_lk {σ : Nat->Nat} {base:List AObj} {env:List (Nat × AV)}:∀ {env':List (Nat × AV)},AgreeR σ base env env'->∀ t,lk env' t = .junk \/ (lk env t=(lk env' t).ren σ/\(lk env' t).inR base=true)
 | [],_,t=>.inl rfl
 | (k,v)::r,h,t=>by
  simp only [lk]
  split
  ·rename_i e;subst e;exact .inr ⟨h.1,h.2.1⟩
  ·exact agreeR_lk h.2.2 t
theorem ren_junk {σ : Nat->Nat} {x:AV} (h:x.ren σ = .junk):x = .junk:=by
 cases x <;> simp_all [AV.ren,AV.ren1]
theorem WkE.rename {n:Nat} {env env':List (Nat × AV)} {objs base:List AObj} (σ : Nat->Nat) (hR:Ren σ base objs) (hi:(base.all fun o=>o.inRO base)=true) (h:AgreeR σ base env env'):WkE n ⟨env,objs⟩ ⟨env',base⟩:=by
 intro hk
 refine ⟨fun t ht=>?_,fun F0 w0 a w hs=>?_⟩
 ·rcases agreeR_lk h t with e | ⟨e,_⟩
  ·exact e
  ·have:=hk t ht
   rw [show lk env t = .junk from this] at e
   exact ren_junk e.symm
 obtain ⟨hd,L,g,hsz,ht⟩:=sim_slots hk hs
 have g':=ren_in hR g hi
 refine sim_mk (s:=⟨env',base⟩) (L:=L.back σ base) hd ⟨g'.obj,g'.out,g'.inj,fun i b o m hb=>?_,g.old,g.ext,g.gl⟩ hsz fun t hlt=>?_
 ·have hb:(if isArr base i then L.blk (σ i) else none)=some (b,o,m):=hb
  split at hb
  ·exact g.own _ _ _ _ hb
  ·cases hb
 ·rcases agreeR_lk h t with e | ⟨e,e2⟩
  ·rw [e];exact .junk _
  ·have:=ht t hlt
   simp only at this
   rw [e] at this
   exact unren_vr hR this e2
end Dak
namespace Dak
open Go Go.RowKit
variable [Globs]
variable {P : Program} {F0 : FD} {w0 w : World} {L : Lay} {objs objs0 : List AObj} {nid n : Nat}
theorem bsliceO_ok (g:Good F0 w0 w L objs) {t e:TypeId} (hem:e<mapT) {size:Nat} {parts:List (Nat × Operand)} {ev:Operand->AV} {ρ : Operand->Value}
 (ht:P.underlying t=some (.slice e)) (hs:tsize P e=some size) (hpos:0<size) (hz:∃ z,(P.info? e).bind (·.zero)=some z) (hp:parts.map (·.1)=List.range parts.length)
 (he:∀ x,VR w L objs (ev x) (ρ x)) (hk:∀ x ∈ parts.map (·.2),Known objs (ev x)) (hv:objs[nid]? = some .void)
 (hall:((parts.map (·.2)).all fun x=>(ev x).fits && (ev x).cells.length == size)=true) (hsz:parts.length*size<=2 ^ 24) :
 Does P (do pure (.value (<-Instr.buildSlice t parts.length (parts.map fun p=>(p.1,ρ p.2)).toArray))) F0 w0 w L objs nid (.own nid parts.length 0 parts.length) (some (.arr parts.length size e ((parts.map (·.2)).map ev))):=by
 have hm:parts.length<=maxLen:=by have:=Nat.le_mul_of_pos_right parts.length hpos;unfold maxLen;omega
 rw [List.all_eq_true] at hall
 have hcs:∀ v ∈ (parts.map fun p=>ρ p.2),v.cells.size=size:=by
  intro v hv
  obtain ⟨p,hp,rfl⟩:=List.mem_map.1 hv
  have h1:=hall p.2 (List.mem_map.2 ⟨p,hp,rfl⟩)
  simp only [Bool.and_eq_true,beq_iff_eq] at h1
  rw [(fits_CR (he p.2) h1.1 (hk _ (List.mem_map.2 ⟨p,hp,rfl⟩))).1];exact h1.2
 obtain ⟨z,hz⟩:=hz
 have hinfo:∃ i,P.info? e=some i/\i.zero=some z:=by
  cases hi:P.info? e with
  | none=>rw [hi] at hz;cases hz
  | some i=>rw [hi] at hz;exact ⟨i,rfl,hz⟩
 obtain ⟨i,hi,hiz⟩:=hinfo
 have key:∀ zc:Array Value,∃ us:Array Value,Instr.fill (fun i=>some (i*size,size)) ((Array.range (parts.length*size)).map (zc[· % zc.size]!)) (parts.map fun p=>(p.1,ρ p.2))=some us/\us.size=parts.length*size /\
  ∀ i v,(parts.map fun p=>ρ p.2)[i]? = some v->∀ j,j<size->us[i*size+j]? = v.cells[j]?:=by
  intro zc
  have e:=zipIdx_range ρ parts 0 (by rw [hp,List.range_eq_range'])
  rw [e]
  obtain ⟨us,h1,h2,_,h4⟩:=fill_row size (parts.map fun p=>ρ p.2) 0 ((Array.range (parts.length*size)).map (zc[· % zc.size]!)) hcs (by simp)
  exact ⟨us,h1,by rw [h2];simp,fun i v hv j hj=>by have:=h4 i v hv j hj;rwa [Nat.zero_add] at this⟩
 have hrun:∃ us:Array Value,(Instr.buildSlice t parts.length (parts.map fun p=>(p.1,ρ p.2)).toArray).run P w = .ok (.slice (some ⟨w.heap.size,0,none⟩) parts.length parts.length) (w.alloc (.cells us e))/\us.size=parts.length*size /\
  ∀ i v,(parts.map fun p=>ρ p.2)[i]? = some v->∀ j,j<size->us[i*size+j]? = v.cells[j]?:=by
  have n1:¬ (parts.length*size > 2 ^ 24):=by omega
  have hzv:(zeroValue e).run P w = .ok z w:=by simp [zeroValue,typeInfo,hi,hiz]
  by_cases h0:parts.length*size=0
  ·obtain ⟨us,h1,h2,h3⟩:=key #[]
   refine ⟨us,?_,h2,h3⟩
   have e0:∀ f:Nat->Value,(Array.range (parts.length*size)).map f=#[]:=by intro f;rw [h0];simp
   rw [e0] at h1
   simp only [Instr.buildSlice,Sem.run_bind,run_underlying ht,Result.andThen_ok,run_sizeOf hs,Sem.run_ite,if_neg n1,if_pos h0,Sem.run_pure,e0,h1,newRow,run_newObj]
   rfl
  ·obtain ⟨us,h1,h2,h3⟩:=key z.cells
   refine ⟨us,?_,h2,h3⟩
   simp only [Instr.buildSlice,Sem.run_bind,run_underlying ht,Result.andThen_ok,run_sizeOf hs,Sem.run_ite,if_neg n1,if_neg h0,Sem.run_pure,hzv,h1,newRow,run_newObj]
   rfl
 obtain ⟨us,hrun,hus,hcell⟩:=hrun
 have hrow:Row w L objs us 0 size (parts.map fun p=>ev p.2):=by
  refine row_of (vs:=parts.map fun p=>ρ p.2) (by simp) (by simp [hus]) (fun i x hx=>?_) hcell
  rw [List.getElem?_map,Option.map_eq_some_iff] at hx
  obtain ⟨p,hp,rfl⟩:=hx
  have hm:=List.mem_of_getElem? hp
  have h1:=hall p.2 (List.mem_map.2 ⟨p,hm,rfl⟩)
  simp only [Bool.and_eq_true,beq_iff_eq] at h1
  exact ⟨ρ p.2,by rw [List.getElem?_map,hp];rfl,h1.2,fits_CR (he p.2) h1.1 (hk _ (List.mem_map.2 ⟨p,hm,rfl⟩))⟩
 have hid:=(List.getElem?_eq_some_iff.1 hv).1
 simp only [List.map_map] at *
 refine ⟨.slice (some ⟨w.heap.size,0,none⟩) parts.length parts.length,_,_,by simp [hrun],g.new (gen:=parts.length) (elem:=e) hv us hem hrow,.new hv _ _,?_⟩
 have:=VR.ownL (w:=w.alloc (.cells us e)) (L:=L.put nid (some (w.heap.size,0,us.size))) (objs:=objs.set nid (.arr parts.length size e (parts.map fun p=>ev p.2))) nid parts.length 0 parts.length parts.length size w.heap.size 0 us.size
  (live_self hid) (by simp [Lay.put]) (Nat.le_refl _) hm (by simp [hus])
 simpa [putO,Function.comp_def] using this
theorem bsliceO1_ok {o:Oper} {e:TypeId} {size:Nat} {ps:List Operand} (hlt:e<2000000000) (hc:comp1 P o=some (.bslice e size ps)) (g:Good F0 w0 w L objs) {ev:Operand->AV} {ρ : Operand->Value} (he:∀ x,VR w L objs (ev x) (ρ x)) (hv:objs[nid]? = some .void)
 (hkn:∀ x ∈ ps,Known objs (ev x)) (hall:(ps.all fun x=>(ev x).fits && (ev x).cells.length == size)=true) (hsz:ps.length*size<=2 ^ 24) :
 Does P (execOp ρ o) F0 w0 w L objs nid (.own nid ps.length 0 ps.length) (some (.arr ps.length size e (ps.map ev))):=by
 obtain ⟨dst,op,type,pos,after,guard⟩:=o
 have key:∃ t len parts,op = .buildSlice t len parts:=by
  cases op with
  | buildSlice t len parts=>exact ⟨t,len,parts,rfl⟩
  | call c =>
   exfalso
   obtain ⟨callee,args,argTypes⟩:=c
   simp only [comp1] at hc
   repeat' (split at hc)
   all_goals first | (cases hc;done) | (simp at hc;done) | skip
  | unOp op _ _=>exfalso;cases op <;> simp [comp1] at hc
  | slice _ _ _ hi m=>exfalso;cases m <;> cases hi <;> simp only [comp1] at hc <;> (repeat' (split at hc)) <;> simp at hc
  | build t parts =>
   exfalso
   simp only [comp1] at hc
   repeat' (split at hc)
   all_goals first | (cases hc;done) | (simp [Option.bind_eq_some_iff,Option.map_eq_some_iff] at hc;done)
  | makeMap t rs=>exfalso;cases rs <;> simp only [comp1] at hc <;> (repeat' (split at hc)) <;> simp at hc
  | _=>exfalso;first | (simp [comp1] at hc;done) | (simp only [comp1] at hc;(repeat' (split at hc)) <;> simp at hc)
 obtain ⟨t,len,parts,rfl⟩:=key
 simp only [comp1] at hc
 split at hc
 ·rename_i e' hu
  split at hc
  ·rename_i z size' _ hi
   simp only [Option.ite_none_right_eq_some,Option.some.injEq,COp.bslice.injEq] at hc
   obtain ⟨⟨hp,hps,hem⟩,rfl,rfl,rfl⟩:=hc
   rw [litE_lt hlt] at *
   unfold tinfo at hi
   obtain ⟨i,hi1,hi2⟩:=Option.map_eq_some_iff.1 hi
   simp only [Prod.mk.injEq] at hi2
   have hlen:len=parts.toList.length:=by
    have:=congrArg List.length hps;simpa using this.symm
   subst hlen
   have:=bsliceO_ok (P:=P) g hem hu (by simp [tsize,hi1,hi2.2.1]) hp ⟨z,by simp [hi1,hi2.1]⟩ hps he (fun x hx=>hkn x hx) hv hall (by simpa using hsz)
   have e:(List.map (fun p=>(p.1,ρ p.2)) parts.toList).toArray=parts.map fun x=>(x.1,ρ x.2):=by apply Array.ext';simp
   rw [e] at this
   simpa [execOp] using this
  ·cases hc
 ·cases hc
theorem step_bsliceO {o:Oper} {e:TypeId} {size:Nat} {ps:List Operand} (hlt:e<2000000000) (hc:comp1 P o=some (.bslice e size ps)) {K:St->Prop} {st:St} {a:Act} {w:World} (hsim:Sim F0 w0 st a w)
 (hall:(ps.all fun x=>(St.ev st.tmps x).fits && (St.ev st.tmps x).cells.length == size && (St.ev st.tmps x).isT)=true) (hsz:ps.length*size<=2 ^ 24)
 (h:K ⟨St.put st.tmps o.dst (.own st.objs.length ps.length 0 ps.length),st.objs++[.arr ps.length size e (ps.map (St.ev st.tmps))]⟩)
 {next:Act->World->Prop} {Q:Exit->Act->World->Prop} (hn:∀ st' a' w',K st'->Sim F0 w0 st' a' w'->next a' w'):o.wp P a w next Q:=by
 obtain ⟨hd,L,g,hs,ht⟩:=hsim
 have he:=ev_ok (objs:=st.objs) g.gl hs ht
 obtain ⟨gv,hlv⟩:=good_void g
 have hv:(st.objs++[AObj.void])[st.objs.length]? = some .void:=by simp
 rw [List.all_eq_true] at hall
 have hall':(ps.all fun x=>(St.ev st.tmps x).fits && (St.ev st.tmps x).cells.length == size)=true:=List.all_eq_true.2 fun x hx=>(Bool.and_eq_true_iff.1 (hall x hx)).1
 have hkn:∀ x ∈ ps,Known (st.objs++[AObj.void]) (St.ev st.tmps x):=by
  intro x hx id gg hk
  have hT:=(Bool.and_eq_true_iff.1 (hall x hx)).2
  rcases hk with ⟨o,l,e⟩ | ⟨e',c,e⟩ <;> rw [e] at hT <;> cases hT
 obtain ⟨v,w',L',hr,hg,hl,hvr⟩:=bsliceO1_ok (P:=P) (nid:=st.objs.length) hlt hc gv (fun x=>(he x).stay hlv) hv hkn hall' hsz
 simp only [putO,set_void] at hg hl hvr
 unfold Oper.wp
 rw [hr,Oper.upon_value]
 exact hn _ _ _ h (sim_put hd hs ht hg (hlv.trans hl) o.dst hvr)
theorem CwpE.regionB (k:Nat) {d:Nat} {e:TypeId} {size:Nat} {ps:List Operand} {cs:List COper} {Q:Exit->Est->Prop} {s:Est} (hd:d<n)
 (hall:(ps.all fun x=>(evE s.env x).fits && (evE s.env x).cells.length == size && (evE s.env x).isT)=true) (hsz:ps.length*size<=2 ^ 24)
 (h:RopsE P n (cs.take k) (fun s1=>∃ s2,WkE n s1 s2/\RopsE P n (cs.drop k) (Q .normal) s2) ⟨putE s.env (some d) (.own s.objs.length ps.length 0 ps.length),s.objs++[.arr ps.length size e (ps.map (evE s.env))]⟩) (hlt:e<2000000000:=by decide) :
 CwpE P F0 w0 n (.region (⟨some d,none,.bslice e size ps⟩::cs)) Q s:=by
 intro hk F1 w1 m r rn code hc hro a w hs
 cases code with
 | region id ops dr =>
  cases dr with
  | false =>
   simp only [compC,Option.map_eq_some_iff,CCode.region.injEq] at hc
   obtain ⟨cs',hcs,hcs2⟩:=hc
   refine wpIn_mono (wpIn_region (ops_in (calm_of hcs) lift_in _ _ _ ?_)) (Q:=Lift F1 w1 fun e st=>e = .normal/\LiftE n (Q .normal) st) ?_
   ·rw [hcs2] at hcs
    cases hl:ops.toList with
    | nil=>rw [hl] at hcs;simp at hcs
    | cons o l =>
     rw [hl] at hcs
     simp only [List.mapM_cons,Option.bind_eq_bind,Option.bind_eq_some_iff,Option.pure_def,Option.some.injEq,List.cons.injEq] at hcs
     obtain ⟨c,hc,cs1,hcs1,rfl,rfl⟩:=hcs
     simp only [compO,Option.bind_eq_some_iff] at hc
     obtain ⟨op,hop,hc⟩:=hc
     have hg:o.guard=none:=by
      cases hg:o.guard with
      | none=>rfl
      | some q =>
       obtain ⟨j,want⟩:=q
       rw [hg] at hc
       simp only [Option.map_eq_some_iff,COper.mk.injEq] at hc
       obtain ⟨t,_,_,h2,_⟩:=hc
       cases h2
     rw [hg] at hc
     simp only [Option.some.injEq,COper.mk.injEq,true_and] at hc
     obtain ⟨hdst,rfl⟩:=hc
     have hcomp:comp1 P o=some (.bslice e size ps):=by
      rcases compB_cases hop with h | h
      ·exact h
      ·cases h
     have hsz':ops.size=l.length+1:=by rw [<-Array.length_toList,hl];rfl
     have h0:ops[0]? = some o:=by rw [<-Array.getElem?_toList,hl];rfl
     rw [hsz',List.range_eq_range',List.range'_succ]
     simp only [wpOps,h0]
     have hw:Region.wanted o (yielded ops a.tmps)=true:=by unfold Region.wanted;rw [hg]
     rw [hw,if_pos rfl]
     refine .inl (step_bsliceO (P:=P) (K:=fun st=>st=Est.toSt n ⟨putE s.env (some d) (.own s.objs.length ps.length 0 ps.length),s.objs++[.arr ps.length size e (ps.map (evE s.env))]⟩) hlt hcomp hs ?_ hsz ?_ ?_)
     ·simp only [Est.toSt,ev_toT hk];exact hall
     ·rw [hdst]
      simp only [Est.toSt,ev_toT hk]
      rw [put_toT (show okD n (some d) from hd)]
     ·rintro st' a' w' rfl hs'
      have hk':KeysOk n (putE s.env (some d) (.own s.objs.length ps.length 0 ps.length)):=keys_put hk (show okD n (some d) from hd) _
      have:=rops_ok2 (F0:=F1) (w0:=w1) (K:=LiftE n (Q .normal)) ops (cs1.drop k) l (cs1.take k) 1 (fun j=>by
       rw [<-Array.getElem?_toList,hl,Nat.add_comm];rfl) (by rw [List.take_append_drop];exact hcs1) _ a' w' hs' ?_
      ·exact this
      ·have h1:=ropsE_ok (P:=P) (cs1.take k) _ hk' h
       refine vc_mono (F0:=F0) (w0:=w0) (.region (cs1.take k)) (Q:=fun _=>LiftE n (fun s1=>∃ s2,WkE n s1 s2/\RopsE P n (cs1.drop k) (Q .normal) s2)) (Q':=fun _ st1=>∃ st2,Wk st1 st2/\Rops P (cs1.drop k) (LiftE n (Q .normal)) st2) _ ?_ h1
       rintro _ st ⟨s1,⟨s2,hwk,h2⟩,hk1,rfl⟩
       exact ⟨s2.toSt n,(hwk hk1).2,ropsE_ok _ _ (hwk hk1).1 h2⟩
   ·rintro e a' w' ⟨st',⟨rfl,hq⟩,hs'⟩;exact .mk hq hs'
  | true=>rcases compC_reg hc with ⟨h,_⟩ | ⟨_,_,h⟩ | ⟨_,_,_,h⟩ <;> cases h
 | _=>simp [compC,Option.bind_eq_some_iff] at hc
end Dak
namespace P5
abbrev bt (s:List Bool) (i:Nat):Bool:=s.getD i false
theorem bt_lt {s:List Bool} {i:Nat} (h:bt s i=true):i<s.length:=by
 by_cases hi:i<s.length
 ·exact hi
 ·rw [bt,List.getD_eq_getElem?_getD,List.getElem?_eq_none (by omega)] at h;cases h
theorem bt_ext {s t:List Bool} (hl:s.length=t.length) (h:∀ i,i<s.length->(bt s i=true ↔ bt t i=true)):s=t:=by
 apply List.ext_getElem hl
 intro i h1 h2
 have:=h i h1
 rw [bt,bt,List.getD_eq_getElem?_getD,List.getD_eq_getElem?_getD,List.getElem?_eq_getElem h1,List.getElem?_eq_getElem h2,Option.getD_some,Option.getD_some] at this
 cases e1:s[i] <;> cases e2:t[i] <;> simp_all
theorem bt_map {n:Nat} {f:Nat->Bool} {j:Nat}:bt ((List.range n).map f) j=(decide (j<n) && f j):=by
 rw [bt,List.getD_eq_getElem?_getD,List.getElem?_map]
 by_cases h:j<n
 ·simp [h]
 ·simp [h]
def stepS (n:Nat) (r:Nat->Nat->Bool) (s:List Bool):List Bool:=(List.range n).map fun j=>bt s j || (List.range n).any fun i=>bt s i && r i j
def iterS (n:Nat) (r:Nat->Nat->Bool):Nat->List Bool->List Bool
 | 0,s=>s
 | k+1,s=>iterS n r k (stepS n r s)
def cl (n:Nat) (r:Nat->Nat->Bool) (s:List Bool):List Bool:=iterS n r (n+1) s
structure IsCl (n:Nat) (r:Nat->Nat->Bool) (s t:List Bool):Prop where
 len:t.length=n
 sub:∀ i,bt s i=true->bt t i=true
 clo:∀ i j,bt t i=true->r i j=true->j<n->bt t j=true
 least:∀ P:Nat->Prop,(∀ i,bt s i=true->P i)->(∀ i j,P i->r i j=true->i<n->j<n->P j)->∀ j,bt t j=true->P j
theorem IsCl.uniq {n:Nat} {r:Nat->Nat->Bool} {s t u:List Bool} (h:IsCl n r s t) (k:IsCl n r s u):t=u:=by
 refine bt_ext (by rw [h.len,k.len]) fun j _=>⟨fun hj=>?_,fun hj=>?_⟩
 ·exact h.least (fun j=>bt u j=true) k.sub (fun i j hi hr _ hjn=>k.clo i j hi hr hjn) j hj
 ·exact k.least (fun j=>bt t j=true) h.sub (fun i j hi hr _ hjn=>h.clo i j hi hr hjn) j hj
def cnt (s:List Bool):Nat:=(s.filter id).length
theorem cnt_le (s:List Bool):cnt s<=s.length:=List.length_filter_le _ _
theorem stepS_len (n:Nat) (r:Nat->Nat->Bool) (s:List Bool):(stepS n r s).length=n:=by simp [stepS]
theorem stepS_bt {n:Nat} {r:Nat->Nat->Bool} {s:List Bool} {j:Nat}:bt (stepS n r s) j=true ↔ j<n/\(bt s j=true \/ ∃ i,i<n/\bt s i=true/\r i j=true):=by
 rw [stepS,bt_map]
 simp [List.any_eq_true]
theorem cnt_mono:∀ (s t:List Bool),s.length=t.length->(∀ i,bt s i=true->bt t i=true)->cnt s<=cnt t/\(cnt s=cnt t->s=t)
 | [],[],_,_=>⟨Nat.le_refl _,fun _=>rfl⟩
 | a::s,b::t,hl,h=>by
  have ih:=cnt_mono s t (by simpa using hl) (fun i hi=>h (i+1) hi)
  have h0:=h 0
  simp only [bt,List.getD_cons_zero] at h0
  unfold cnt at *
  cases a <;> cases b <;> simp_all <;> omega
theorem iterS_fix {n:Nat} {r:Nat->Nat->Bool} {s:List Bool} (h:stepS n r s=s):∀ k,iterS n r k s=s
 | 0=>rfl
 | k+1=>by rw [iterS,h];exact iterS_fix h k
theorem iterS_stable {n:Nat} {r:Nat->Nat->Bool}:∀ (k:Nat) (s:List Bool),s.length=n->n-cnt s<k->stepS n r (iterS n r k s)=iterS n r k s
 | 0,_,_,h=>absurd h (Nat.not_lt_zero _)
 | k+1,s,hl,h=>by
  by_cases e:stepS n r s=s
  ·rw [iterS,e,iterS_fix e,e]
  ·rw [iterS]
   have hm:=cnt_mono s (stepS n r s) (by rw [hl,stepS_len]) (fun i hi=>stepS_bt.2 ⟨by have:=bt_lt hi;omega,.inl hi⟩)
   have h1:cnt s<cnt (stepS n r s):=Nat.lt_of_le_of_ne hm.1 (fun e'=>e (hm.2 e').symm)
   have h2:=cnt_le (stepS n r s)
   rw [stepS_len] at h2
   exact iterS_stable k _ (stepS_len _ _ _) (by omega)
theorem iterS_len {n:Nat} {r:Nat->Nat->Bool}:∀ (k:Nat) (s:List Bool),s.length=n->(iterS n r k s).length=n
 | 0,_,h=>h
 | k+1,_,_=>iterS_len k _ (stepS_len _ _ _)
end P5
