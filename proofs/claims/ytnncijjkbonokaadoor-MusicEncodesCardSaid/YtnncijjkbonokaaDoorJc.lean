/- Lemmas used by all laws. -/
import Derived.Test.YtnncijjkbonokaaDoorJa
import Derived.Test.YtnncijjkbonokaaDoorJb
import Derived.WalkKit
import Derived.WalkSpells
import Derived.WalkLawsBesides
import Derived.Orders
import Derived.Laws.MakeOwn
import Derived.Deep.AppendSrc
import Derived.Lib.AppendZerosOnto
import Derived.Defers
import Derived.Laws.StructEq
import Derived.Scope
import Derived.Deep.LoopGhost
import Derived.OrdersIn
import Derived.ControlIn
import Derived.Sort.LoopGhostIn
import Derived.RangeFuncLeaves
import Derived.RangeFuncRecord
import Derived.RangeFuncFrom
import Derived.Test.YtnncijjkbonokaaDoorProg
set_option linter.unusedSimpArgs false
set_option linter.unusedVariables false
set_option linter.unusedSectionVars false
set_option maxRecDepth 100000
namespace Dak
open Go Go.RowKit
variable [Globs]
variable {P : Program} {F0 : FD} {w0 w : World} {L : Lay} {objs objs0 : List AObj} {nid : Nat}
def lk : List (Nat × AV) -> Nat -> AV
 | [], _ => .junk
 | (k, v) :: r, t => if k = t then v else lk r t
abbrev T (n : Nat) : Operand := .tmp n
structure Est where
 env : List (Nat × AV)
 objs : List AObj
def KeysOk (n : Nat) (env : List (Nat × AV)) : Prop := ∀ t, n <= t -> lk env t = .junk
def toT (n : Nat) (env : List (Nat × AV)) : List AV := (List.range n).map (lk env)
def Est.toSt (n : Nat) (s : Est) : St := ⟨toT n s.env, s.objs⟩
def evE (env : List (Nat × AV)) : Operand -> AV
 | .tmp t => lk env t
 | .const v => ofV v
 | .func f => .clo (.func f) []
 | .global g => gAV g
def putE (env : List (Nat × AV)) (dst : Option Nat) (v : AV) : List (Nat × AV) :=
 match dst with
 | some d => (d, v) :: env
 | none => env
def okD (n : Nat) : Option Nat -> Prop
 | some d => d < n
 | none => True
theorem toT_getD {n : Nat} {env : List (Nat × AV)} (hk : KeysOk n env) (t : Nat) : (toT n env).getD t .junk = lk env t := by
 unfold toT
 by_cases h : t < n
 ·rw [List.getD_eq_getElem?_getD, List.getElem?_eq_getElem (by simpa using h)]; simp
 ·rw [List.getD_eq_getElem?_getD, List.getElem?_eq_none (by simp; omega)]
  exact (hk t (by omega)).symm
theorem ev_toT {n : Nat} {env : List (Nat × AV)} (hk : KeysOk n env) : St.ev (toT n env) = evE env := by
 funext x
 cases x with
 | tmp t => exact toT_getD hk t
 | _ => rfl
theorem put_toT {n : Nat} {env : List (Nat × AV)} {dst : Option Nat} (hd : okD n dst) (v : AV) : St.put (toT n env) dst v = toT n (putE env dst v) := by
 cases dst with
 | none => rfl
 | some d =>
  have hd : d < n := hd
  refine getD_ext (by rw [put_len]; simp [toT]) fun t ht => ?_
  rw [put_len] at ht
  have ht' : t < n := by simpa [toT] using ht
  rw [put_getD ht]
  have e : ∀ env, (toT n env).getD t .junk = lk env t := by
   intro env
   unfold toT
   rw [List.getD_eq_getElem?_getD, List.getElem?_eq_getElem (by simpa using ht')]; simp
  rw [e, e]
  simp only [putE, lk, Option.some.injEq]
theorem keys_put {n : Nat} {env : List (Nat × AV)} (hk : KeysOk n env) {dst : Option Nat} (hd : okD n dst) (v : AV) : KeysOk n (putE env dst v) := by
 cases dst with
 | none => exact hk
 | some d =>
  have hd : d < n := hd
  intro t ht
  simp only [putE, lk]
  rw [if_neg (fun e => absurd hd (by rw [e]; exact Nat.not_lt.2 ht))]; exact hk t ht
def RstepE (P : Program) (n : Nat) (c : COper) (K : Est -> Prop) (s : Est) : Prop :=
 match c.op with
 | .call f args => okD n c.dst /\ ∃ r objs', CallM P true s.objs (evE s.env f) (args.map (evE s.env)) r objs' /\ K ⟨putE s.env c.dst r, objs'⟩
 | op => match step1 s.objs (evE s.env) op with
  | some (r, objs) => okD n c.dst /\ K ⟨putE s.env c.dst r, objs⟩
  | none => False
def RopsE (P : Program) (n : Nat) : List COper -> (Est -> Prop) -> Est -> Prop
 | [], K, s => K s
 | c :: rest, K, s =>
  match c.guard with
  | none => RstepE P n c (RopsE P n rest K) s
  | some (t, want) => match gdB (lk s.env t) with
   | some b => (b = some want -> RstepE P n c (RopsE P n rest K) s) /\ (b ≠ some want -> okD n c.dst /\ RopsE P n rest K ⟨putE s.env c.dst nov, s.objs⟩)
   | none => False
def LiftE (n : Nat) (K : Est -> Prop) (st : St) : Prop := ∃ s, K s /\ KeysOk n s.env /\ st = s.toSt n
theorem ropsE_ok {n : Nat} {K : Est -> Prop} : ∀ (cs : List COper) (s : Est), KeysOk n s.env -> RopsE P n cs K s -> Rops P cs (LiftE n K) (s.toSt n)
 | [], s, hk, h => ⟨s, h, hk, rfl⟩
 | c :: rest, s, hk, h => by
  have step : RstepE P n c (RopsE P n rest K) s -> Rstep P c (Rops P rest (LiftE n K)) (s.toSt n) := by
   intro h
   have plain : ∀ op, op = c.op -> (match step1 s.objs (evE s.env) op with | some (r, objs) => okD n c.dst /\ RopsE P n rest K ⟨putE s.env c.dst r, objs⟩ | none => False) ->
    (match step1 s.objs (St.ev (toT n s.env)) op with | some (r, objs) => Rops P rest (LiftE n K) ⟨St.put (toT n s.env) c.dst r, objs⟩ | none => False) := by
    rintro op rfl h
    rw [ev_toT hk]
    split at h
    ·rename_i r objs' hq
     rw [put_toT h.1]
     exact ropsE_ok rest ⟨_, _⟩ (keys_put hk h.1 r) h.2
    ·exact h.elim
   unfold RstepE at h
   unfold Rstep
   split at h
   ·rename_i f args hop
    simp only [hop]
    obtain ⟨hd, r, objs', hc, hK⟩ := h
    refine ⟨r, objs', ?_, ?_⟩
    ·show CallM P true s.objs (St.ev (toT n s.env) f) (args.map (St.ev (toT n s.env))) r objs'
     rw [ev_toT hk]; exact hc
    ·show Rops P rest (LiftE n K) ⟨St.put (toT n s.env) c.dst r, objs'⟩
     rw [put_toT hd]
     exact ropsE_ok rest ⟨_, _⟩ (keys_put hk hd r) hK
   ·rename_i op hne
    have := plain _ rfl h
    split
    ·rename_i f args hop
     exact absurd hop (hne f args)
    ·exact this
  simp only [RopsE] at h
  simp only [Rops]
  cases hg : c.guard with
  | none => rw [hg] at h; exact step h
  | some q =>
   obtain ⟨t, want⟩ := q
   rw [hg] at h
   simp only at h ⊢
   have e : (s.toSt n).tmps.getD t .junk = lk s.env t := toT_getD hk t
   rw [e]
   split at h
   ·rename_i b hb
    rw [hb]
    refine ⟨fun hw => step (h.1 hw), fun hw => ?_⟩
    obtain ⟨hd, h2⟩ := h.2 hw
    show Rops P rest (LiftE n K) ⟨St.put (toT n s.env) c.dst nov, s.objs⟩
    rw [put_toT hd]
    exact ropsE_ok rest ⟨_, _⟩ (keys_put hk hd _) h2
   ·exact h.elim
def LatesE (s : Est) : List COper -> Prop
 | [] => True
 | l :: ls => (match l.dst with
  | some t => qstep s.objs (evE s.env) 0 l.op = some (lk s.env t, none)
  | none => False) /\ LatesE s ls
theorem latesE_ok {n : Nat} {s : Est} (hk : KeysOk n s.env) : ∀ {ls : List COper}, LatesE s ls -> LatesOk (s.toSt n) ls
 | [], _ => trivial
 | l :: ls, h => by
  refine ⟨?_, latesE_ok hk h.2⟩
  have h1 := h.1
  split at h1
  ·rename_i t hd
   refine ⟨t, hd, ?_⟩
   show qstep s.objs (St.ev (toT n s.env)) 0 l.op = some ((toT n s.env).getD t .junk, none)
   rw [ev_toT hk, toT_getD hk]; exact h1
  ·exact h1.elim
def RopsLE (P : Program) (n : Nat) : List (COper × List COper) -> (Est -> Prop) -> Est -> Prop
 | [], K, s => K s
 | (c, ls) :: rest, K, s =>
  match c.guard with
  | none => RstepE P n c (fun s => LatesE s ls /\ RopsLE P n rest K s) s
  | some (t, want) => match gdB (lk s.env t) with
   | some b => (b = some want -> RstepE P n c (fun s => LatesE s ls /\ RopsLE P n rest K s) s) /\
    (b ≠ some want -> okD n c.dst /\ LatesE ⟨putE s.env c.dst nov, s.objs⟩ ls /\ RopsLE P n rest K ⟨putE s.env c.dst nov, s.objs⟩)
   | none => False
theorem rstepE_ok {n : Nat} {c : COper} {K : Est -> Prop} {K' : St -> Prop} {s : Est} (hk : KeysOk n s.env) (hK : ∀ s, KeysOk n s.env -> K s -> K' (s.toSt n)) (h : RstepE P n c K s) : Rstep P c K' (s.toSt n) := by
 have plain : ∀ op, op = c.op -> (match step1 s.objs (evE s.env) op with | some (r, objs) => okD n c.dst /\ K ⟨putE s.env c.dst r, objs⟩ | none => False) ->
  (match step1 s.objs (St.ev (toT n s.env)) op with | some (r, objs) => K' ⟨St.put (toT n s.env) c.dst r, objs⟩ | none => False) := by
  rintro op rfl h
  rw [ev_toT hk]
  split at h
  ·rename_i r objs' hq
   rw [put_toT h.1]
   exact hK ⟨_, _⟩ (keys_put hk h.1 r) h.2
  ·exact h.elim
 unfold RstepE at h
 unfold Rstep
 generalize c.op = op at *
 cases op with
 | call f args =>
  obtain ⟨hd, r, objs', hc, hKr⟩ := h
  refine ⟨r, objs', ?_, ?_⟩
  ·show CallM P true s.objs (St.ev (toT n s.env) f) (args.map (St.ev (toT n s.env))) r objs'
   rw [ev_toT hk]; exact hc
  ·show K' ⟨St.put (toT n s.env) c.dst r, objs'⟩
   rw [put_toT hd]
   exact hK ⟨_, _⟩ (keys_put hk hd r) hKr
 | _ => exact plain _ rfl h
theorem ropsLE_ok {n : Nat} {K : Est -> Prop} : ∀ (cs : List (COper × List COper)) (s : Est), KeysOk n s.env -> RopsLE P n cs K s -> RopsL P cs (LiftE n K) (s.toSt n)
 | [], s, hk, h => ⟨s, h, hk, rfl⟩
 | (c, ls) :: rest, s, hk, h => by
  have next : ∀ s : Est, KeysOk n s.env -> LatesE s ls /\ RopsLE P n rest K s -> LatesOk (s.toSt n) ls /\ RopsL P rest (LiftE n K) (s.toSt n) := fun s hk h => ⟨latesE_ok hk h.1, ropsLE_ok rest s hk h.2⟩
  simp only [RopsLE] at h
  simp only [RopsL]
  cases hg : c.guard with
  | none => rw [hg] at h; exact rstepE_ok hk next h
  | some q =>
   obtain ⟨t, want⟩ := q
   rw [hg] at h
   simp only at h ⊢
   have e : (s.toSt n).tmps.getD t .junk = lk s.env t := toT_getD hk t
   rw [e]
   split at h
   ·rename_i b hb
    rw [hb]
    refine ⟨fun hw => rstepE_ok hk next (h.1 hw), fun hw => ?_⟩
    obtain ⟨hd, h2⟩ := h.2 hw
    show LatesOk ⟨St.put (toT n s.env) c.dst nov, s.objs⟩ ls /\ RopsL P rest (LiftE n K) ⟨St.put (toT n s.env) c.dst nov, s.objs⟩
    rw [put_toT hd]
    exact next ⟨_, _⟩ (keys_put hk hd _) h2
   ·exact h.elim
def QopsE (P : Program) (n : Nat) (objs0 : List AObj) : List COper -> (List (Nat × AV) -> List AObj -> Prop) -> List (Nat × AV) -> List AObj -> Prop
 | [], K, env, cr => K env cr
 | c :: rest, K, env, cr =>
  let go : Prop := match c.op with
   | .call f args => okD n c.dst /\ ∃ r objs', CallM P false objs0 (evE env f) (args.map (evE env)) r objs' /\ callX objs0 objs' cr (QopsE P n objs0 rest K (putE env c.dst r))
   | op => match qstepK (objs0 ++ cr) objs0 (evE env) (objs0.length + cr.length) op with
    | some (r, none) => okD n c.dst /\ QopsE P n objs0 rest K (putE env c.dst r) cr
    | some (r, some o) => okD n c.dst /\ QopsE P n objs0 rest K (putE env c.dst r) (cr ++ [o])
    | none => False
  match c.guard with
  | none => go
  | some (t, want) => match gdB (lk env t) with
   | some b => (b = some want -> go) /\ (b ≠ some want -> okD n c.dst /\ QopsE P n objs0 rest K (putE env c.dst nov) cr)
   | none => False
theorem qopsE_ok {n : Nat} {K : List (Nat × AV) -> List AObj -> Prop} : ∀ (cs : List COper) (env : List (Nat × AV)) (cr : List AObj), KeysOk n env -> QopsE P n objs0 cs K env cr ->
 Qops P objs0 cs (fun tmps cr => ∃ env, KeysOk n env /\ tmps = toT n env /\ K env cr) (toT n env) cr
 | [], env, cr, hk, h => ⟨env, hk, rfl, h⟩
 | c :: rest, env, cr, hk, h => by
  have ih := fun (env : List (Nat × AV)) (cr : List AObj) (hk : KeysOk n env) (h : QopsE P n objs0 rest K env cr) => qopsE_ok (K := K) rest env cr hk h
  have plain : ∀ op, op = c.op -> (match qstepK (objs0 ++ cr) objs0 (evE env) (objs0.length + cr.length) op with
   | some (r, none) => okD n c.dst /\ QopsE P n objs0 rest K (putE env c.dst r) cr
   | some (r, some o) => okD n c.dst /\ QopsE P n objs0 rest K (putE env c.dst r) (cr ++ [o])
   | none => False) -> (match qstepK (objs0 ++ cr) objs0 (St.ev (toT n env)) (objs0.length + cr.length) op with
   | some (r, none) => Qops P objs0 rest (fun tmps cr => ∃ env, KeysOk n env /\ tmps = toT n env /\ K env cr) (St.put (toT n env) c.dst r) cr
   | some (r, some o) => Qops P objs0 rest (fun tmps cr => ∃ env, KeysOk n env /\ tmps = toT n env /\ K env cr) (St.put (toT n env) c.dst r) (cr ++ [o])
   | none => False) := by
   rintro op rfl h
   rw [ev_toT hk]
   split at h
   ·rename_i r hq
    rw [put_toT h.1]; exact ih _ _ (keys_put hk h.1 r) h.2
   ·rename_i r o hq
    rw [put_toT h.1]; exact ih _ _ (keys_put hk h.1 r) h.2
   ·exact h.elim
  have go : (match c.op with
   | .call f args => okD n c.dst /\ ∃ r objs', CallM P false objs0 (evE env f) (args.map (evE env)) r objs' /\ callX objs0 objs' cr (QopsE P n objs0 rest K (putE env c.dst r))
   | op => match qstepK (objs0 ++ cr) objs0 (evE env) (objs0.length + cr.length) op with
    | some (r, none) => okD n c.dst /\ QopsE P n objs0 rest K (putE env c.dst r) cr
    | some (r, some o) => okD n c.dst /\ QopsE P n objs0 rest K (putE env c.dst r) (cr ++ [o])
    | none => False) -> (match c.op with
   | .call f args => ∃ r no, CallQ P objs0 (objs0.length + cr.length) (St.ev (toT n env) f) (args.map (St.ev (toT n env))) r no /\ Qops P objs0 rest (fun tmps cr => ∃ env, KeysOk n env /\ tmps = toT n env /\ K env cr) (St.put (toT n env) c.dst r) (cr ++ no.toList)
   | op => match qstepK (objs0 ++ cr) objs0 (St.ev (toT n env)) (objs0.length + cr.length) op with
    | some (r, none) => Qops P objs0 rest (fun tmps cr => ∃ env, KeysOk n env /\ tmps = toT n env /\ K env cr) (St.put (toT n env) c.dst r) cr
    | some (r, some o) => Qops P objs0 rest (fun tmps cr => ∃ env, KeysOk n env /\ tmps = toT n env /\ K env cr) (St.put (toT n env) c.dst r) (cr ++ [o])
    | none => False) := by
   intro h
   generalize c.op = op at *
   cases op with
   | call f args =>
    obtain ⟨hd, r, objs', hc, hX⟩ := h
    obtain ⟨no, hq, hK⟩ := hc.cq hX
    exact ⟨r, no, by rw [ev_toT hk]; exact hq, by rw [put_toT hd]; exact ih _ _ (keys_put hk hd r) hK⟩
   | _ => exact plain _ rfl h
  simp only [QopsE] at h
  simp only [Qops]
  cases hg : c.guard with
  | none => rw [hg] at h; exact go h
  | some q =>
   obtain ⟨t, want⟩ := q
   rw [hg] at h
   simp only at h ⊢
   rw [toT_getD hk]
   split at h
   ·rename_i b hb
    rw [hb]
    refine ⟨fun hw => go (h.1 hw), fun hw => ?_⟩
    obtain ⟨hd, h2⟩ := h.2 hw
    rw [put_toT hd]; exact ih _ _ (keys_put hk hd _) h2
   ·exact h.elim
def LiftX (n : Nat) (Q : Exit -> Est -> Prop) : Exit -> St -> Prop := fun e st => LiftE n (Q e) st
def CwpE (P : Program) (F0 : FD) (w0 : World) (n : Nat) (c : CCode) (Q : Exit -> Est -> Prop) (s : Est) : Prop := KeysOk n s.env -> Cwp P F0 w0 c (LiftX n Q) (s.toSt n)
def thenE (K : Est -> Prop) (Q : Exit -> Est -> Prop) : Exit -> Est -> Prop
 | .normal, s => K s
 | e, s => Q e s
def inBlockE (id : Nat) (Q : Exit -> Est -> Prop) : Exit -> Est -> Prop
 | .exit i, s => if i = id then Q .normal s else Q (.exit i) s
 | e, s => Q e s
def noGotoE (Q : Exit -> Est -> Prop) : Exit -> Est -> Prop
 | .goto _, _ => False
 | e, s => Q e s
def RGE (P : Program) (n : Nat) (c : COper) (K : Est -> Prop) (s : Est) : Prop :=
 match c.guard with
 | none => RstepE P n c K s
 | some (t, want) => match gdB (lk s.env t) with
  | some b => (b = some want -> RstepE P n c K s) /\ (b ≠ some want -> okD n c.dst /\ K ⟨putE s.env c.dst nov, s.objs⟩)
  | none => False
def RTE (P : Program) (n : Nat) : PT -> (Est -> Prop) -> Est -> Prop
 | .done, K, s => K s
 | .stop, _, _ => True
 | .alt c sub next, K, s => RGE P n c (RTE P n sub K) s /\ RTE P n next K s
theorem rtE_ok {n : Nat} {K : Est -> Prop} : ∀ (t : PT) (s : Est), KeysOk n s.env -> RTE P n t K s -> RT P t (LiftE n K) (s.toSt n)
 | .done, s, hk, h => ⟨s, h, hk, rfl⟩
 | .stop, _, _, _ => trivial
 | .alt c sub next, s, hk, h => by
  refine ⟨?_, rtE_ok next s hk h.2⟩
  have h := h.1
  simp only [RGE] at h
  simp only [RG]
  cases hg : c.guard with
  | none => rw [hg] at h; exact rstepE_ok hk (fun s hk h => rtE_ok sub s hk h) h
  | some q =>
   obtain ⟨t, want⟩ := q
   rw [hg] at h
   simp only at h ⊢
   have e : (s.toSt n).tmps.getD t .junk = lk s.env t := toT_getD hk t
   rw [e]
   split at h
   ·rename_i b hb
    rw [hb]
    refine ⟨fun hw => rstepE_ok hk (fun s hk h => rtE_ok sub s hk h) (h.1 hw), fun hw => ?_⟩
    obtain ⟨hd, h2⟩ := h.2 hw
    show RT P sub (LiftE n K) ⟨St.put (toT n s.env) c.dst nov, s.objs⟩
    rw [put_toT hd]
    exact rtE_ok sub ⟨_, _⟩ (keys_put hk hd _) h2
   ·exact h.elim
def vcE (P : Program) (F0 : FD) (w0 : World) (n : Nat) : CCode -> (Exit -> Est -> Prop) -> Est -> Prop
 | .skip, Q, s => Q .normal s
 | .region cs, Q, s => RopsE P n cs (Q .normal) s
 | .drawn pre post, Q, s => QopsE P n s.objs pre (fun env cr => RopsLE P n post (Q .normal) ⟨env, s.objs ++ cr⟩) s.env []
 | .cut pre post t, Q, s => QopsE P n s.objs pre (fun env cr => RopsLE P n post (RTE P n t (Q .normal)) ⟨env, s.objs ++ cr⟩) s.env []
 | .seq a b, Q, s => vcE P F0 w0 n a (thenE (vcE P F0 w0 n b Q) Q) s
 | .cond c a b, Q, s => match asB (evE s.env c) with
  | some t => (t = true -> vcE P F0 w0 n a Q s) /\ (t = false -> vcE P F0 w0 n b Q s)
  | none => False
 | .block id b, Q, s => vcE P F0 w0 n b (inBlockE id Q) s
 | .loop b, Q, s => CwpE P F0 w0 n (.loop b) Q s
 | .rangeF g ps a b, Q, s => CwpE P F0 w0 n (.rangeF g ps a b) Q s
 | .exit id, Q, s => Q (.exit id) s
 | .scope b, Q, s => vcE P F0 w0 n b (noGotoE Q) s
 | .ret, Q, s => Q .ret s
theorem vcE_ok {n : Nat} : ∀ (c : CCode) (Q : Exit -> Est -> Prop) (s : Est), KeysOk n s.env -> vcE P F0 w0 n c Q s -> vc P F0 w0 c (LiftX n Q) (s.toSt n) := by
 have rstep : ∀ (c : COper) {K K' : St -> Prop} (st : St), (∀ s, K s -> K' s) -> Rstep P c K st -> Rstep P c K' st := by
  intro c K K' st h h2
  unfold Rstep at h2 ⊢
  split at h2
  ·obtain ⟨r, o3, h3, h4⟩ := h2; exact ⟨r, o3, h3, h _ h4⟩
  ·split at h2
   ·exact h _ h2
   ·exact h2
 have rlmono : ∀ (cs : List (COper × List COper)) {K K' : St -> Prop} (st : St), (∀ s, K s -> K' s) -> RopsL P cs K st -> RopsL P cs K' st := by
  intro cs
  induction cs with
  | nil => intro K K' st h hh; exact h _ hh
  | cons cl rest ih =>
   intro K K' st h hh
   obtain ⟨c, ls⟩ := cl
   simp only [RopsL] at hh ⊢
   split at hh
   ·exact rstep c st (fun s hs => ⟨hs.1, ih s h hs.2⟩) hh
   ·split at hh
    ·exact ⟨fun e => rstep c st (fun s hs => ⟨hs.1, ih s h hs.2⟩) (hh.1 e), fun e => ⟨(hh.2 e).1, ih _ h (hh.2 e).2⟩⟩
    ·exact hh
 have qmono : ∀ (s : Est) (cs : List COper) {K K' : List AV -> List AObj -> Prop} (tmps : List AV) (cr : List AObj), (∀ t c, K t c -> K' t c) -> Qops P s.objs cs K tmps cr -> Qops P s.objs cs K' tmps cr := by
  intro s cs
  induction cs with
  | nil => intro K K' tmps cr h hh; exact h _ _ hh
  | cons c rest ih =>
   intro K K' tmps cr h hh
   simp only [Qops] at hh ⊢
   split at hh
   ·split at hh
    ·obtain ⟨r, no, h3, h4⟩ := hh; exact ⟨r, no, h3, ih _ _ h h4⟩
    ·split at hh <;> first | exact ih _ _ h hh | exact hh
   ·split at hh
    ·refine ⟨fun e => ?_, fun e => ih _ _ h (hh.2 e)⟩
     have hh1 := hh.1 e
     split at hh1
     ·obtain ⟨r, no, h3, h4⟩ := hh1; exact ⟨r, no, h3, ih _ _ h h4⟩
     ·split at hh1 <;> first | exact ih _ _ h hh1 | exact hh1
    ·exact hh
 intro c
 induction c with
 | skip => intro Q s hk h; exact ⟨s, h, hk, rfl⟩
 | region cs => intro Q s hk h; exact ropsE_ok cs s hk h
 | drawn pre post =>
  intro Q s hk h
  have h1 := qopsE_ok pre s.env [] hk h
  refine vc_mono (.drawn pre post) (Q := LiftX n Q) _ (fun _ _ h => h) ?_
  refine qmono s pre _ _ ?_ h1
  rintro _ cr ⟨env, hk', rfl, hR⟩
  exact ropsLE_ok post ⟨env, s.objs ++ cr⟩ hk' hR
 | cut pre post t =>
  intro Q s hk h
  have h1 := qopsE_ok pre s.env [] hk h
  refine vc_mono (.cut pre post t) (Q := LiftX n Q) _ (fun _ _ h => h) ?_
  refine qmono s pre _ _ ?_ h1
  rintro _ cr ⟨env, hk', rfl, hR⟩
  refine rlmono post _ ?_ (ropsLE_ok post ⟨env, s.objs ++ cr⟩ hk' hR)
  rintro st ⟨s', h', hk', rfl⟩
  exact rtE_ok t s' hk' h'
 | seq a b iha ihb =>
  intro Q s hk h
  refine vc_mono a (s.toSt n) ?_ (iha _ s hk h)
  rintro e st ⟨s', hq, hk', rfl⟩
  cases e with
  | normal => exact ihb Q s' hk' hq
  | _ => exact ⟨s', hq, hk', rfl⟩
 | cond c a b iha ihb =>
  intro Q s hk h
  simp only [vcE] at h
  simp only [vc]
  show match asB (St.ev (toT n s.env) c) with | some t => _ | none => False
  rw [ev_toT hk]
  split at h
  ·exact ⟨fun e => iha Q s hk (h.1 e), fun e => ihb Q s hk (h.2 e)⟩
  ·exact h.elim
 | block id b ih =>
  intro Q s hk h
  refine vc_mono b (s.toSt n) ?_ (ih _ s hk h)
  rintro e st ⟨s', hq, hk', rfl⟩
  cases e with
  | exit i =>
   simp only [inBlockE] at hq
   simp only [inBlock]
   split
   ·rename_i e; rw [if_pos e] at hq; exact ⟨s', hq, hk', rfl⟩
   ·rename_i e; rw [if_neg e] at hq; exact ⟨s', hq, hk', rfl⟩
  | _ => exact ⟨s', hq, hk', rfl⟩
 | loop b => intro Q s hk h; exact h hk
 | rangeF g ps a b ih => intro Q s hk h; exact h hk
 | exit id => intro Q s hk h; exact ⟨s, h, hk, rfl⟩
 | scope b ih =>
  intro Q s hk h
  refine vc_mono b (s.toSt n) ?_ (ih _ s hk h)
  rintro e st ⟨s', hq, hk', rfl⟩
  cases e with
  | goto l => exact hq.elim
  | _ => exact ⟨s', hq, hk', rfl⟩
 | ret => intro Q s hk h; exact ⟨s, h, hk, rfl⟩
def WkE (n : Nat) (s s' : Est) : Prop := KeysOk n s.env -> KeysOk n s'.env /\ Wk (s.toSt n) (s'.toSt n)
theorem WkE.refl (n : Nat) (s : Est) : WkE n s s := fun h => ⟨h, .refl _⟩
theorem WkE.trans {n : Nat} {a b c : Est} (h : WkE n a b) (k : WkE n b c) : WkE n a c := fun hk => ⟨(k (h hk).1).1, (h hk).2.trans (k (h hk).1).2⟩
def RoundE (n : Nat) (I : Nat -> Est -> Prop) (k : Nat) (Q : Exit -> Est -> Prop) : Exit -> Est -> Prop := thenE (fun s => ∃ m s', m < k /\ WkE n s s' /\ I m s') Q
theorem loopE {n : Nat} {b : CCode} {Q : Exit -> Est -> Prop} {s : Est} (I : Nat -> Est -> Prop) (k : Nat) (s0 : Est) (hw : WkE n s s0) (h0 : I k s0) (round : ∀ k s, I k s -> vcE P F0 w0 n b (RoundE n I k Q) s) : CwpE P F0 w0 n (.loop b) Q s := by
 intro hk
 refine Cwp.loop (fun k st => ∃ s, I k s /\ KeysOk n s.env /\ st = s.toSt n) k (hw hk).2 ⟨s0, h0, (hw hk).1, rfl⟩ ?_
 rintro k st ⟨s, hI, hk, rfl⟩
 refine vc_mono b (s.toSt n) ?_ (vcE_ok b _ s hk (round k s hI))
 rintro e st ⟨s', hq, hk', rfl⟩
 cases e with
 | normal =>
  obtain ⟨m, s'', hm, hwk, hI'⟩ := hq
  exact ⟨m, _, hm, (hwk hk').2, s'', hI', (hwk hk').1, rfl⟩
 | _ => exact ⟨s', hq, hk', rfl⟩
def resE (s : Est) : CRes -> Option AV
 | .tmp t => some (lk s.env t)
 | .cell a ag n => do
  let cs <- cellsAt s.objs (lk s.env a)
  if ag then if n <= cs.length then some (AV.agg (cs.take n)) else none else cs[0]?
def resAllE (s : Est) (rs : List CRes) : Option AV :=
 (rs.mapM (resE s)).map fun
  | [x] => x
  | xs => .tup xs
def retE (rs : List CRes) (r : AV) : Exit -> Est -> Prop
 | .normal, s => ∃ y, resAllE s rs = some y /\ Snap s.objs y r
 | .ret, s => ∃ y, resAllE s rs = some y /\ Snap s.objs y r
 | _, _ => False
def envOf : Nat -> List AV -> List (Nat × AV)
 | _, [] => []
 | k, x :: xs => (k, x) :: envOf (k + 1) xs
theorem lk_envOf : ∀ (xs : List AV) (k t : Nat), lk (envOf k xs) t = if k <= t then xs.getD (t - k) .junk else .junk
 | [], k, t => by simp [envOf, lk]
 | x :: xs, k, t => by
  simp only [envOf, lk]
  rw [lk_envOf xs (k + 1) t]
  by_cases h : k = t
  ·subst h; simp
  ·rw [if_neg h]
   by_cases h2 : k <= t
   ·rw [if_pos (by omega), if_pos h2, show t - k = (t - (k + 1)) + 1 from by omega]; simp
   ·rw [if_neg (by omega), if_neg h2]
theorem specE {f : FuncId} {c : CCode} {n : Nat} {rs : List CRes} (hf : fnC P f = some (c, n, rs)) {xs : List AV} (hn : xs.length <= n) {r : AV} (h : ∀ F0 w0, vcE P F0 w0 n c (retE rs r) ⟨envOf 0 xs, []⟩) : Ctr P f xs r := by
 refine spec_of hf fun F0 w0 => ?_
 have hk : KeysOk n (envOf 0 xs) := by
  intro t ht
  rw [lk_envOf, if_pos (Nat.zero_le _), List.getD_eq_getElem?_getD, List.getElem?_eq_none (by omega)]; rfl
 have e : (⟨xs ++ List.replicate (n - xs.length) .junk, []⟩ : St) = (⟨envOf 0 xs, []⟩ : Est).toSt n := by
  unfold Est.toSt
  congr 1
  refine getD_ext (by simp [toT]; omega) fun t ht => ?_
  rw [toT_getD hk, lk_envOf, if_pos (Nat.zero_le _), Nat.sub_zero]
  rw [List.getD_eq_getElem?_getD, List.getD_eq_getElem?_getD, List.getElem?_append]
  split
  ·rfl
  ·rename_i h1
   rw [List.getElem?_replicate, List.getElem?_eq_none (by omega)]
   split <;> rfl
 rw [e]
 refine vc_mono c _ ?_ (vcE_ok c _ _ hk (h F0 w0))
 rintro e st ⟨s, hq, hk', rfl⟩
 have hr : ∀ x, resA (s.toSt n) x = resE s x := by
  intro x
  cases x with
  | tmp t => simp only [resA, resE]; rw [show (s.toSt n).tmps = toT n s.env from rfl, toT_getD hk']
  | cell a ag m => simp only [resA, resE]; rw [show (s.toSt n).tmps = toT n s.env from rfl, toT_getD hk']; rfl
 have hra : ∀ rs, resAll (s.toSt n) rs = resAllE s rs := by
  intro rs; unfold resAll resAllE; rw [show resA (s.toSt n) = resE s from funext hr]
  cases rs.mapM (resE s) with
  | none => rfl
  | some ys => cases ys with
   | nil => rfl
   | cons y ys => cases ys <;> rfl
 cases e with
 | normal => simp only [retQ]; rw [hra]; exact hq
 | ret => simp only [retQ]; rw [hra]; exact hq
 | _ => exact hq
end Dak
namespace Dak
open Go Go.RowKit
variable [Globs]
variable {P : Program} {F0 : FD} {w0 w : World} {L : Lay} {objs objs0 : List AObj} {nid : Nat}
def Agree (env : List (Nat × AV)) : List (Nat × AV) -> Prop
 | [] => True
 | (k, v) :: r => lk env k = v /\ Agree env r
theorem agree_lk {env : List (Nat × AV)} : ∀ (env' : List (Nat × AV)), Agree env env' -> ∀ t, lk env' t = .junk \/ lk env' t = lk env t
 | [], _, t => .inl rfl
 | (k, v) :: r, h, t => by
  simp only [lk]
  split
  ·rename_i e; subst e; exact .inr h.1.symm
  ·exact agree_lk r h.2 t
theorem sim_slots {n : Nat} {s : Est} {a : Act} (hk : KeysOk n s.env) (h : Sim F0 w0 (s.toSt n) a w) :
 a.defers = F0.ds /\ ∃ L, Good F0 w0 w L s.objs /\ a.tmps.size = n /\ ∀ t, t < n -> VR w L s.objs (lk s.env t) (a.tmps.getD t undef) := by
 obtain ⟨hd, L, g, hs, ht⟩ := h
 refine ⟨hd, L, g, by simpa [Est.toSt, toT] using hs, fun t h => ?_⟩
 have := ht t (by simpa [Est.toSt, toT] using h)
 simpa [Est.toSt, toT] using this
theorem sim_mk {n : Nat} {s : Est} {a : Act} (hd : a.defers = F0.ds) (g : Good F0 w0 w L s.objs) (hs : a.tmps.size = n) (ht : ∀ t, t < n -> VR w L s.objs (lk s.env t) (a.tmps.getD t undef)) : Sim F0 w0 (s.toSt n) a w :=
 ⟨hd, L, g, by simp [Est.toSt, toT, hs], fun t h => by
  have h' : t < n := by simpa [Est.toSt, toT] using h
  simpa [Est.toSt, toT] using ht t h'⟩
theorem WkE.keep {n : Nat} {env env' : List (Nat × AV)} {objs : List AObj} (h : Agree env env') : WkE n ⟨env, objs⟩ ⟨env', objs⟩ := by
 intro hk
 refine ⟨fun t ht => ?_, fun F0 w0 a w hs => ?_⟩
 ·rcases agree_lk env' h t with h1 | h1
  ·exact h1
  ·rw [h1]; exact hk t ht
 ·obtain ⟨hd, L, g, hs, ht⟩ := sim_slots hk hs
  refine sim_mk (s := ⟨env', objs⟩) hd g hs fun t h' => ?_
  rcases agree_lk env' h t with h1 | h1
  ·show VR w L objs (lk env' t) _
   rw [h1]; exact .junk _
  ·show VR w L objs (lk env' t) _
   rw [h1]; exact ht t h'
theorem WkE.drop {n : Nat} {env : List (Nat × AV)} {objs : List AObj} (m : Nat) (he : ∀ p ∈ env, p.2.inn m = true) (ho : ∀ o ∈ objs.take m, o.innO m = true) : WkE n ⟨env, objs⟩ ⟨env, objs.take m⟩ := by
 intro hk
 refine ⟨hk, fun F0 w0 a w hs => ?_⟩
 obtain ⟨hd, L, g, hs, ht⟩ := sim_slots hk hs
 have hle : ∀ t, (lk env t).inn m = true := by
  intro t
  have : ∀ env : List (Nat × AV), (∀ p ∈ env, p.2.inn m = true) -> (lk env t).inn m = true := by
   intro env
   induction env with
   | nil => intro _; rfl
   | cons p env ih =>
    intro h
    simp only [lk]
    split
    ·exact h p (by simp)
    ·exact ih fun q hq => h q (by simp [hq])
  exact this env he
 exact sim_mk (s := ⟨env, objs.take m⟩) (L := L.cut m) hd (good_drop g m ho) hs fun t h => below_vr (L := L) (L' := L.cut m) (fun _ h => h) (fun id h => if_pos h) (ht t h) (hle t)
theorem WkE.round {n : Nat} {env env' : List (Nat × AV)} {objs objs' : List AObj} (h : Agree env env') (he : (env'.all fun p => p.2.inn objs'.length) = true) (ho : (objs'.all fun o => o.innO objs'.length) = true) (hp : objs.take objs'.length = objs') :
 WkE n ⟨env, objs⟩ ⟨env', objs'⟩ := by
 refine (WkE.keep h).trans ?_
 have := WkE.drop (n := n) (env := env') (objs := objs) objs'.length (fun p hp => List.all_eq_true.1 he p hp) (fun o ho' => by rw [hp] at ho'; exact List.all_eq_true.1 ho o ho')
 rwa [hp] at this
theorem WkE.nil {n : Nat} {env : List (Nat × AV)} {objs : List AObj} (k size : Nat) (elem : TypeId) (hkn : k < n) (h : lk env k = .val (.slice none 0 0)) : WkE n ⟨env, objs⟩ ⟨(k, .own objs.length 0 0 0) :: env, objs ++ [.arr 0 size elem []]⟩ := by
 intro hk
 refine ⟨fun t ht => ?_, fun F0 w0 a w hs => ?_⟩
 ·simp only [lk]; rw [if_neg (by omega)]; exact hk t ht
 ·obtain ⟨hd, L, g, hs, ht⟩ := sim_slots hk hs
  obtain ⟨gv, hlv⟩ := good_void g
  have hvd : (objs ++ [AObj.void])[objs.length]? = some .void := by simp
  have hl2 : Later w L (objs ++ [AObj.void]) w L ((objs ++ [AObj.void]).set objs.length (.arr 0 size elem [])) := by
   refine ⟨fun b hF hb => ⟨rfl, hF⟩, stale_set hvd, fun i g' s' hl => .inr ⟨?_, rfl⟩⟩
   have hne : objs.length ≠ i := by rintro rfl; obtain ⟨e', xs, h⟩ := hl; rw [hvd] at h; simp at h
   unfold live at hl ⊢
   rwa [List.getElem?_set_ne hne]
  have hl := hlv.trans hl2
  rw [set_void] at hl
  have hg : Good F0 w0 w L (objs ++ [.arr 0 size elem []]) := by
   refine ⟨fun id o ho => ?_, fun id hid => g.out id (by have hid' : (objs ++ [AObj.arr 0 size elem []]).length <= id := hid; rw [List.length_append] at hid'; show objs.length <= id; omega), g.inj, g.own, g.old, g.ext, g.gl⟩
   by_cases hlt : id < objs.length
   ·rw [List.getElem?_append_left hlt] at ho
    have := g.obj id o ho
    cases o with
    | void => exact this
    | dead => exact this
    | probe k st li bk ps => exact this.probe_stay hl rfl
    | arr gen size elem xs =>
     unfold OR at this ⊢
     cases hbk : L.blk id with
     | none => rw [hbk] at this; exact this
     | some q =>
      obtain ⟨b, o', n⟩ := q
      rw [hbk] at this
      obtain ⟨cur, hc, hn, hr⟩ := this
      exact ⟨cur, hc, hn, hr.stay hl⟩
   ·have hid : id = objs.length := by
     have := (List.getElem?_eq_some_iff.1 ho).1
     simp at this; omega
    subst hid
    simp at ho; subst ho
    unfold OR
    have hn : L.blk objs.length = none := g.out objs.length (Nat.le_refl _)
    rw [hn]
  refine sim_mk (s := ⟨_, _⟩) hd hg hs fun t h' => ?_
  simp only [lk]
  split
  ·rename_i e; subst e
   have := ht k h'
   simp only at this
   rw [h] at this
   rw [this.val_inv]
   exact .ownN _ _ _ _ size ⟨elem, [], by simp⟩
  ·exact (ht t h').stay hl
theorem WkE.freeze {n : Nat} {env : List (Nat × AV)} {objs : List AObj} (k id g off len size : Nat) (elem : TypeId) (xs : List AV) (hkn : k < n) (h : lk env k = .own id g off len) (ho : objs[id]? = some (.arr g size elem xs))
 (hle : off + len <= xs.length) (hT : (xs.all AV.isT) = true) : WkE n ⟨env, objs⟩ ⟨(k, .list size ((xs.drop off).take len)) :: env, objs.set id .dead⟩ := by
 intro hk
 have hid := (List.getElem?_eq_some_iff.1 ho).1
 refine ⟨fun t ht => ?_, fun F0 w0 a w hs => ?_⟩
 ·simp only [lk]; rw [if_neg (by omega)]; exact hk t ht
 ·obtain ⟨hd, L, gd, hs, ht⟩ := sim_slots hk hs
  have hsn : Snap (List.replicate id .dead ++ [.arr g size elem xs]) (.own id g off len) (.list size ((xs.drop off).take len)) := by
   have hl : ((xs.drop off).take len).length = len := by simp; omega
   refine .own id g off len size elem xs _ (by rw [List.getElem?_append_right (by simp)]; simp) hle hl fun i hi => ?_
   rw [List.getElem_take, List.getElem_drop]
   exact .tree _ (List.all_eq_true.1 hT _ (List.getElem_mem _))
  let L' : Lay := ⟨fun b => L.F b \/ ∃ o n, L.blk id = some (b, o, n), fun i => if i = id then none else L.blk i⟩
  have only : ∀ (i g' s' : Nat) (e' : TypeId) (xs' : List AV), (List.replicate id AObj.dead ++ [AObj.arr g size elem xs])[i]? = some (AObj.arr g' s' e' xs') -> i = id /\ AObj.arr g size elem xs = AObj.arr g' s' e' xs' := by
   intro i g' s' e' xs' hi
   by_cases hlt : i < id
   ·rw [List.getElem?_append_left (by simpa using hlt), List.getElem?_replicate, if_pos hlt] at hi; simp at hi
   ·have : i = id := by have := (List.getElem?_eq_some_iff.1 hi).1; simp at this; omega
    subst this
    rw [List.getElem?_append_right (by simp)] at hi
    simp only [List.length_replicate, Nat.sub_self, List.getElem?_cons_zero, Option.some.injEq] at hi
    exact ⟨rfl, hi⟩
  have hlater : Later w L objs w L' (objs.set id .dead) := by
   refine ⟨fun b hF hb => ⟨rfl, .inl hF⟩, fun i g' hst => ?_, fun i g' s' hl => ?_⟩
   ·by_cases e : id = i
    ·subst e; exact .inl (List.getElem?_set_self hid)
    ·unfold stale at hst ⊢; rwa [List.getElem?_set_ne e]
   ·by_cases e : id = i
    ·subst e; exact .inl (.inl (List.getElem?_set_self hid))
    ·refine .inr ⟨?_, if_neg (Ne.symm e)⟩
     unfold live at hl ⊢; rwa [List.getElem?_set_ne e]
  refine sim_mk (s := ⟨_, _⟩) (L := L') hd ⟨fun i o ho' => ?_, fun i hi => ?_, fun i j b o n o' n' h1 h2 => ?_, fun i b o n h => ?_, fun b hb => ?_, gd.ext, gd.gl.stay hlater.wk⟩ hs fun t h' => ?_
  ·by_cases e : i = id
   ·subst e
    rw [List.getElem?_set_self hid] at ho'
    simp only [Option.some.injEq] at ho'; subst ho'
    exact if_pos rfl
   ·rw [List.getElem?_set_ne (Ne.symm e)] at ho'
    have := gd.obj i o ho'
    have hbe : L'.blk i = L.blk i := if_neg e
    cases o with
    | void => unfold OR at this ⊢; rw [hbe]; exact this
    | dead => unfold OR at this ⊢; rw [hbe]; exact this
    | probe k st li bk ps => exact this.probe_stay hlater hbe
    | arr gen size elem xs =>
     unfold OR at this ⊢
     rw [hbe]
     cases hbk : L.blk i with
     | none => rw [hbk] at this; exact this
     | some q =>
      obtain ⟨b, o', n⟩ := q
      rw [hbk] at this
      obtain ⟨cur, hc, hn, hr⟩ := this
      exact ⟨cur, hc, hn, hr.stay hlater⟩
  ·rw [List.length_set] at hi
   show (if i = id then none else L.blk i) = none
   split
   ·rfl
   ·exact gd.out i hi
  ·have h1' : (if i = id then none else L.blk i) = some (b, o, n) := h1
   have h2' : (if j = id then none else L.blk j) = some (b, o', n') := h2
   split at h1' <;> split at h2' <;> first | exact gd.inj _ _ _ _ _ _ _ h1' h2' | cases h1' | cases h2'
  ·have h' : (if i = id then none else L.blk i) = some (b, o, n) := h
   split at h'
   ·cases h'
   ·rename_i e
    have := gd.own _ _ _ _ h'
    refine ⟨?_, this.2⟩
    rintro (hF | ⟨o2, n2, hF⟩)
    ·exact this.1 hF
    ·exact e (gd.inj _ _ _ _ _ _ _ h' hF)
  ·rcases hb with hb | ⟨o, n, hb⟩
   ·exact gd.old b hb
   ·have := gd.own _ _ _ _ hb
    exact ⟨.inr this.2.1, this.2.2⟩
  ·simp only [lk]
   split
   ·rename_i e; subst e
    have := ht k h'
    simp only at this
    rw [h] at this
    refine .tree (snap_ok gd ?_ (G := L'.F) (fun b hb => .inl hb) ?_ hsn _ this)
    ·intro i g' s' e' xs' hi
     obtain ⟨rfl, e⟩ := only i g' s' e' xs' hi
     rw [<- e]; exact ho
    ·intro i g' s' e' xs' hi b o n hb
     obtain ⟨rfl, _⟩ := only i g' s' e' xs' hi
     exact .inr ⟨o, n, hb⟩
   ·exact (ht t h').stay hlater
end Dak
namespace Dak
open Go Go.RowKit
variable [Globs]
variable {P : Program} {F0 : FD} {w0 w : World} {L : Lay} {objs objs0 : List AObj} {nid : Nat}
theorem live_set_same {id gen size : Nat} {elem : TypeId} {xs xs' : List AV} (ho : objs[id]? = some (.arr gen size elem xs)) : Later w L objs w L (objs.set id (.arr gen size elem xs')) := by
 have hid := (List.getElem?_eq_some_iff.1 ho).1
 refine ⟨fun b hF hb => ⟨rfl, hF⟩, stale_next ho (Nat.le_refl _), fun i g s h => .inr ⟨?_, rfl⟩⟩
 by_cases e : id = i
 ·subst e
  obtain ⟨e', ys, h⟩ := h
  rw [ho] at h; simp only [Option.some.injEq, AObj.arr.injEq] at h
  obtain ⟨rfl, rfl, rfl, rfl⟩ := h
  exact ⟨_, _, List.getElem?_set_self hid⟩
 ·unfold live at h ⊢; rwa [List.getElem?_set_ne e]
theorem good_recell {L' : Lay} {objs' : List AObj} (g : Good F0 w0 w L objs) (g' : Good F0 w0 w L' objs') (hl : Later w L objs w L' objs') {id gen size el c : Nat} {elem : TypeId} {xs : List AV} {y x0 x1 : AV}
 (ho : objs[id]? = some (.arr gen size elem xs)) (ho' : objs'[id]? = some (.arr gen size elem xs)) (hbk : L'.blk id = L.blk id) (hy : xs[el]? = some y) (hc : y.cells[c]? = some x0) (hx : ∀ u, u.oneCell' = true -> VR w L objs x0 u -> VR w L' objs' x1 u) (h1 : ∀ ds, x1 ≠ .agg ds) :
 Good F0 w0 w L' (objs'.set id (.arr gen size elem (xs.set el (recell y (y.cells.set c x1))))) := by
 have hid := (List.getElem?_eq_some_iff.1 ho').1
 have hl2 : Later w L' objs' w L' (objs'.set id (.arr gen size elem (xs.set el (recell y (y.cells.set c x1))))) := live_set_same ho'
 refine ⟨fun i o hi => ?_, fun i hi => g'.out i (by rw [List.length_set] at hi; exact hi), g'.inj, g'.own, g'.old, g'.ext, g'.gl⟩
 by_cases e : i = id
 ·subst e
  rw [List.getElem?_set_self hid] at hi
  simp only [Option.some.injEq] at hi; subst hi
  have := g.obj _ _ ho
  unfold OR at this ⊢
  rw [hbk]
  cases hb : L.blk i with
  | none =>
   rw [hb] at this
   simp only at this
   subst this; simp at hy
  | some q =>
   obtain ⟨b, o, n⟩ := q
   rw [hb] at this
   obtain ⟨cur, hcur, hn, hr1, hr2⟩ := this
   obtain ⟨hel, rfl⟩ := List.getElem?_eq_some_iff.1 hy
   obtain ⟨hcl, rfl⟩ := List.getElem?_eq_some_iff.1 hc
   have hna : ∀ c' ∈ xs[el].cells.set c x1, ∀ ds, c' ≠ .agg ds := by
    intro c' hc' ds
    obtain ⟨k, hk, rfl⟩ := List.getElem_of_mem hc'
    rw [List.getElem_set]
    split
    ·exact h1 ds
    ·obtain ⟨u, _, ho1, hv⟩ := (hr2 el hel).2 k (by simpa using hk)
     exact one_not_agg hv ho1 ds
   have hrc := recell_cells xs[el] _ hna
   refine ⟨cur, hcur, hn, by rw [List.length_set]; exact hr1, fun j hj => ?_⟩
   rw [List.length_set] at hj
   by_cases ej : el = j
   ·subst ej
    rw [List.getElem_set_self, hrc]
    refine ⟨by rw [List.length_set]; exact (hr2 el hel).1, fun k hk => ?_⟩
    rw [List.length_set] at hk
    obtain ⟨u, hu, ho1, hv⟩ := (hr2 el hel).2 k hk
    refine ⟨u, hu, ho1, ?_⟩
    rw [List.getElem_set]
    split
    ·rename_i ek; subst ek; exact (hx u ho1 hv).stay hl2
    ·exact (hv.stay hl).stay hl2
   ·rw [List.getElem_set_ne ej]
    refine ⟨(hr2 j hj).1, fun k hk => ?_⟩
    obtain ⟨u, hu, ho1, hv⟩ := (hr2 j hj).2 k hk
    exact ⟨u, hu, ho1, (hv.stay hl).stay hl2⟩
 ·rw [List.getElem?_set_ne (Ne.symm e)] at hi
  have := g'.obj i o hi
  cases o with
  | void => exact this
  | dead => exact this
  | probe k st li bk ps => exact this.probe_stay hl2 rfl
  | arr gen size elem xs =>
   unfold OR at this ⊢
   cases hbk : L'.blk i with
   | none => rw [hbk] at this; exact this
   | some q =>
    obtain ⟨b, o', n⟩ := q
    rw [hbk] at this
    obtain ⟨cur, hc, hn, hr⟩ := this
    exact ⟨cur, hc, hn, hr.stay hl2⟩
theorem good_empty (g : Good F0 w0 w L objs) (size : Nat) (elem : TypeId) : Good F0 w0 w L (objs ++ [.arr 0 size elem []]) /\ Later w L objs w L (objs ++ [.arr 0 size elem []]) := by
 obtain ⟨gv, hlv⟩ := good_void g
 have hvd : (objs ++ [AObj.void])[objs.length]? = some .void := by simp
 have hl2 : Later w L (objs ++ [AObj.void]) w L ((objs ++ [AObj.void]).set objs.length (.arr 0 size elem [])) := by
  refine ⟨fun b hF hb => ⟨rfl, hF⟩, stale_set hvd, fun i g' s' hl => .inr ⟨?_, rfl⟩⟩
  have hne : objs.length ≠ i := by rintro rfl; obtain ⟨e', xs, h⟩ := hl; rw [hvd] at h; simp at h
  unfold live at hl ⊢
  rwa [List.getElem?_set_ne hne]
 have hl := hlv.trans hl2
 rw [set_void] at hl
 refine ⟨⟨fun id o ho => ?_, fun id hid => g.out id (by rw [List.length_append] at hid; omega), g.inj, g.own, g.old, g.ext, g.gl⟩, hl⟩
 by_cases hlt : id < objs.length
 ·rw [List.getElem?_append_left hlt] at ho
  have := g.obj id o ho
  cases o with
  | void => exact this
  | dead => exact this
  | probe k st li bk ps => exact this.probe_stay hl rfl
  | arr gen size elem xs =>
   unfold OR at this ⊢
   cases hbk : L.blk id with
   | none => rw [hbk] at this; exact this
   | some q =>
    obtain ⟨b, o', n⟩ := q
    rw [hbk] at this
    obtain ⟨cur, hc, hn, hr⟩ := this
    exact ⟨cur, hc, hn, hr.stay hl⟩
 ·have hid : id = objs.length := by
   have := (List.getElem?_eq_some_iff.1 ho).1
   simp at this; omega
  subst hid
  simp at ho; subst ho
  unfold OR
  have hn : L.blk objs.length = none := g.out objs.length (Nat.le_refl _)
  rw [hn]
theorem WkE.nilCell {n : Nat} {env : List (Nat × AV)} {objs : List AObj} (id gen sz el c size : Nat) (elem et : TypeId) (xs : List AV) (y : AV) (ho : objs[id]? = some (.arr gen sz et xs)) (hy : xs[el]? = some y) (hc : y.cells[c]? = some (.val (.slice none 0 0))) :
 WkE n ⟨env, objs⟩ ⟨env, objs.set id (.arr gen sz et (xs.set el (recell y (y.cells.set c (.own objs.length 0 0 0))))) ++ [.arr 0 size elem []]⟩ := by
 intro hk
 refine ⟨hk, fun F0 w0 a w hs => ?_⟩
 obtain ⟨hd, L, g, hs, ht⟩ := sim_slots hk hs
 obtain ⟨g', hl⟩ := good_empty g size elem
 have hid := (List.getElem?_eq_some_iff.1 ho).1
 have ho' : (objs ++ [AObj.arr 0 size elem []])[id]? = some (.arr gen sz et xs) := by rw [List.getElem?_append_left hid]; exact ho
 have hg := good_recell (x1 := .own objs.length 0 0 0) g g' hl ho ho' rfl hy hc (fun u _ hu => by rw [hu.val_inv]; exact .ownN _ _ _ _ size ⟨elem, [], by simp⟩) (fun ds => by simp)
 have e : (objs ++ [AObj.arr 0 size elem []]).set id (.arr gen sz et (xs.set el (recell y (y.cells.set c (.own objs.length 0 0 0))))) = objs.set id (.arr gen sz et (xs.set el (recell y (y.cells.set c (.own objs.length 0 0 0))))) ++ [.arr 0 size elem []] := List.set_append_left _ _ hid
 rw [e] at hg
 have hl2 : Later w L (objs ++ [AObj.arr 0 size elem []]) w L ((objs ++ [AObj.arr 0 size elem []]).set id (.arr gen sz et (xs.set el (recell y (y.cells.set c (.own objs.length 0 0 0)))))) := live_set_same ho'
 rw [e] at hl2
 exact sim_mk (s := ⟨env, _⟩) hd hg hs fun t h => (ht t h).stay (hl.trans hl2)
theorem good_dead (g : Good F0 w0 w L objs) {id gen size : Nat} {elem : TypeId} {xs : List AV} (ho : objs[id]? = some (.arr gen size elem xs)) :
 ∃ L' : Lay, Good F0 w0 w L' (objs.set id .dead) /\ Later w L objs w L' (objs.set id .dead) /\ (∀ b, L.F b -> L'.F b) /\ (∀ b o n, L.blk id = some (b, o, n) -> L'.F b) /\ ∀ i, i ≠ id -> L'.blk i = L.blk i := by
 have hid := (List.getElem?_eq_some_iff.1 ho).1
 let L' : Lay := ⟨fun b => L.F b \/ ∃ o n, L.blk id = some (b, o, n), fun i => if i = id then none else L.blk i⟩
 have hlater : Later w L objs w L' (objs.set id .dead) := by
  refine ⟨fun b hF hb => ⟨rfl, .inl hF⟩, fun i g' hst => ?_, fun i g' s' hl => ?_⟩
  ·by_cases e : id = i
   ·subst e; exact .inl (List.getElem?_set_self hid)
   ·unfold stale at hst ⊢; rwa [List.getElem?_set_ne e]
  ·by_cases e : id = i
   ·subst e; exact .inl (.inl (List.getElem?_set_self hid))
   ·refine .inr ⟨?_, if_neg (Ne.symm e)⟩
    unfold live at hl ⊢; rwa [List.getElem?_set_ne e]
 refine ⟨L', ⟨fun i o ho' => ?_, fun i hi => ?_, fun i j b o n o' n' h1 h2 => ?_, fun i b o n h => ?_, fun b hb => ?_, g.ext, g.gl.stay hlater.wk⟩, hlater, fun b h => .inl h, fun b o n h => .inr ⟨o, n, h⟩, fun i h => if_neg h⟩
 ·by_cases e : i = id
  ·subst e
   rw [List.getElem?_set_self hid] at ho'
   simp only [Option.some.injEq] at ho'; subst ho'
   exact if_pos rfl
  ·rw [List.getElem?_set_ne (Ne.symm e)] at ho'
   have := g.obj i o ho'
   have hbe : L'.blk i = L.blk i := if_neg e
   cases o with
   | void => unfold OR at this ⊢; rw [hbe]; exact this
   | dead => unfold OR at this ⊢; rw [hbe]; exact this
   | probe k st li bk ps => exact this.probe_stay hlater hbe
   | arr gen size elem xs =>
    unfold OR at this ⊢
    rw [hbe]
    cases hbk : L.blk i with
    | none => rw [hbk] at this; exact this
    | some q =>
     obtain ⟨b, o', n⟩ := q
     rw [hbk] at this
     obtain ⟨cur, hc, hn, hr⟩ := this
     exact ⟨cur, hc, hn, hr.stay hlater⟩
 ·rw [List.length_set] at hi
  show (if i = id then none else L.blk i) = none
  split
  ·rfl
  ·exact g.out i hi
 ·have h1' : (if i = id then none else L.blk i) = some (b, o, n) := h1
  have h2' : (if j = id then none else L.blk j) = some (b, o', n') := h2
  split at h1' <;> split at h2' <;> first | exact g.inj _ _ _ _ _ _ _ h1' h2' | cases h1' | cases h2'
 ·have h' : (if i = id then none else L.blk i) = some (b, o, n) := h
  split at h'
  ·cases h'
  ·rename_i e
   have := g.own _ _ _ _ h'
   refine ⟨?_, this.2⟩
   rintro (hF | ⟨o2, n2, hF⟩)
   ·exact this.1 hF
   ·exact e (g.inj _ _ _ _ _ _ _ h' hF)
 ·rcases hb with hb | ⟨o, n, hb⟩
  ·exact g.old b hb
  ·have := g.own _ _ _ _ hb
   exact ⟨.inr this.2.1, this.2.2⟩
theorem own_data (gd : Good F0 w0 w L objs) {id g off len size : Nat} {elem : TypeId} {xs : List AV} (ho : objs[id]? = some (.arr g size elem xs)) (hle : off + len <= xs.length) (hT : (xs.all AV.isT) = true) {G : Nat -> Prop} (hF : ∀ b, L.F b -> G b) (hG : ∀ b o n, L.blk id = some (b, o, n) -> G b)
 {v : Value} (h : VR w L objs (.own id g off len) v) : TR w G (.list size ((xs.drop off).take len)) v := by
 have hsn : Snap (List.replicate id .dead ++ [.arr g size elem xs]) (.own id g off len) (.list size ((xs.drop off).take len)) := by
  have hl : ((xs.drop off).take len).length = len := by simp; omega
  refine .own id g off len size elem xs _ (by rw [List.getElem?_append_right (by simp)]; simp) hle hl fun i hi => ?_
  rw [List.getElem_take, List.getElem_drop]
  exact .tree _ (List.all_eq_true.1 hT _ (List.getElem_mem _))
 have only : ∀ (i g' s' : Nat) (e' : TypeId) (xs' : List AV), (List.replicate id AObj.dead ++ [AObj.arr g size elem xs])[i]? = some (AObj.arr g' s' e' xs') -> i = id /\ AObj.arr g size elem xs = AObj.arr g' s' e' xs' := by
  intro i g' s' e' xs' hi
  by_cases hlt : i < id
  ·rw [List.getElem?_append_left (by simpa using hlt), List.getElem?_replicate, if_pos hlt] at hi; simp at hi
  ·have : i = id := by have := (List.getElem?_eq_some_iff.1 hi).1; simp at this; omega
   subst this
   rw [List.getElem?_append_right (by simp)] at hi
   simp only [List.length_replicate, Nat.sub_self, List.getElem?_cons_zero, Option.some.injEq] at hi
   exact ⟨rfl, hi⟩
 refine snap_ok gd ?_ hF ?_ hsn _ h
 ·intro i g' s' e' xs' hi
  obtain ⟨rfl, e⟩ := only i g' s' e' xs' hi
  rw [<- e]; exact ho
 ·intro i g' s' e' xs' hi b o n hb
  obtain ⟨rfl, _⟩ := only i g' s' e' xs' hi
  exact hG b o n hb
theorem WkE.freezeCell {n : Nat} {env : List (Nat × AV)} {objs : List AObj} (id gen sz el c id2 g2 off len size : Nat) (et elem : TypeId) (xs ys : List AV) (y : AV) (ho : objs[id]? = some (.arr gen sz et xs)) (hy : xs[el]? = some y) (hc : y.cells[c]? = some (.own id2 g2 off len))
 (ho2 : objs[id2]? = some (.arr g2 size elem ys)) (hne : id ≠ id2) (hle : off + len <= ys.length) (hT : (ys.all AV.isT) = true) :
 WkE n ⟨env, objs⟩ ⟨env, (objs.set id2 .dead).set id (.arr gen sz et (xs.set el (recell y (y.cells.set c (.list size ((ys.drop off).take len))))))⟩ := by
 intro hk
 refine ⟨hk, fun F0 w0 a w hs => ?_⟩
 obtain ⟨hd, L, g, hs, ht⟩ := sim_slots hk hs
 obtain ⟨L', g', hl, h1, h2, h3⟩ := good_dead g ho2
 have ho' : (objs.set id2 .dead)[id]? = some (.arr gen sz et xs) := by rw [List.getElem?_set_ne (Ne.symm hne)]; exact ho
 have hg := good_recell (x1 := .list size ((ys.drop off).take len)) g g' hl ho ho' (h3 id hne) hy hc (fun u _ hu => .tree (own_data g ho2 hle hT h1 h2 hu)) (fun ds => by simp)
 exact sim_mk (s := ⟨env, _⟩) hd hg hs fun t h => (ht t h).stay (hl.trans (live_set_same ho'))
end Dak
namespace Dak
open Go Go.RowKit
variable [Globs]
theorem snaps_self : ∀ (args : List AV), (args.all AV.isT) = true -> ∀ objs, Snaps objs args args
 | [], _, _ => .nil
 | x :: xs, h, objs => by
  simp only [List.all_cons, Bool.and_eq_true] at h
  exact .cons (.tree _ h.1) (snaps_self xs h.2 objs)
theorem callT {P : Program} {m : Bool} {objs : List AObj} {f : FuncId} {args : List AV} {r : AV} {K : AV -> List AObj -> Prop} (h : Ctr P f args r) (hT : (args.all AV.isT) = true) (k : K r objs) : ∃ r objs', CallM P m objs (.clo (.func f) []) args r objs' /\ K r objs' :=
 ⟨r, objs, .ok (.data f [] args (args ++ []) r (by rw [List.append_nil]; exact snaps_self args hT _) (by rw [List.append_nil]; exact h)), k⟩
theorem callN {P : Program} {m : Bool} {objs : List AObj} {f : FuncId} {args xs : List AV} {r : AV} {K : AV -> List AObj -> Prop} (h : Ctr P f xs r) (hs : Snaps [] args xs) (k : K r objs) : ∃ r objs', CallM P m objs (.clo (.func f) []) args r objs' /\ K r objs' :=
 ⟨r, objs, .ok (.data f [] args xs r (by rw [List.append_nil]; exact hs) h), k⟩
theorem callF {P : Program} {m : Bool} {objs : List AObj} {f : FuncId} {args xs : List AV} {r : AV} {K : AV -> List AObj -> Prop} (h : Ctr P f xs r) (hs : Snaps objs args xs) (hf : r.flat = true) (k : K r objs) : ∃ r objs', CallM P m objs (.clo (.func f) []) args r objs' /\ K r objs' :=
 ⟨r, objs, .ok (.flat f [] args xs r (by rw [List.append_nil]; exact hs) h hf), k⟩
theorem callCN {P : Program} {m : Bool} {objs : List AObj} {f : FuncId} {cap args xs : List AV} {r : AV} {K : AV -> List AObj -> Prop} (h : Ctr P f xs r) (hs : Snaps [] (args ++ cap) xs) (k : K r objs) : ∃ r objs', CallM P m objs (.clo (.func f) cap) args r objs' /\ K r objs' :=
 ⟨r, objs, .ok (.data f cap args xs r hs h), k⟩
theorem callCF {P : Program} {m : Bool} {objs : List AObj} {f : FuncId} {cap args xs : List AV} {r : AV} {K : AV -> List AObj -> Prop} (h : Ctr P f xs r) (hs : Snaps objs (args ++ cap) xs) (hf : r.flat = true) (k : K r objs) : ∃ r objs', CallM P m objs (.clo (.func f) cap) args r objs' /\ K r objs' :=
 ⟨r, objs, .ok (.flat f cap args xs r hs h hf), k⟩
theorem callNew {P : Program} {objs news : List AObj} {f : FuncId} {cap args xs : List AV} {r : AV} {K : AV -> List AObj -> Prop} (h : CtrN P f xs r news) (hs : Snaps [] (args ++ cap) xs) (k : K (r.shift objs.length) (objs ++ news.map (AObj.shiftO objs.length))) :
 ∃ r objs', CallM P true objs (.clo (.func f) cap) args r objs' /\ K r objs' := ⟨_, _, .new f cap args xs objs news r hs h, k⟩
theorem callM {P : Program} {objs : List AObj} {f : FuncId} {cap args : List AV} {r : AV} {K : AV -> List AObj -> Prop} (base tail base' : List AObj) (h : CtrM P f (args ++ cap) base r base') (ho : objs = base ++ tail)
 (hb : (base.all fun o => o.innO base.length) = true) (ha : ((args ++ cap).all fun x => x.inn base.length) = true) (k : K r (base' ++ tail)) : ∃ r objs', CallM P true objs (.clo (.func f) cap) args r objs' /\ K r objs' := by
 subst ho
 exact ⟨r, _, .mod f cap args base tail r base' h hb ha, k⟩
end Dak
namespace Dak
open Go Go.RowKit
variable [Globs]
variable {P : Program} {F0 : FD} {w0 : World}
theorem CwpE.wk {n : Nat} {c : CCode} {Q : Exit -> Est -> Prop} {s s' : Est} (h : WkE n s s') (k : CwpE P F0 w0 n c Q s') : CwpE P F0 w0 n c Q s := fun hk => Cwp.wk (h hk).2 (k (h hk).1)
theorem CwpE.post {n : Nat} {c : CCode} {Q Q' : Exit -> Est -> Prop} {s : Est} (h : CwpE P F0 w0 n c Q s) (k : ∀ e s, Q e s -> ∃ s', WkE n s s' /\ Q' e s') : CwpE P F0 w0 n c Q' s := by
 intro hk F1 w1 m r rn code hc hro a w hs
 refine wpIn_mono (h hk F1 w1 m r rn code hc hro a w hs) ?_
 rintro e a w ⟨F2, w2, hm, _, ⟨s1, hq, hk1, rfl⟩, hs1⟩
 obtain ⟨s2, hwk, hq2⟩ := k e s1 hq
 exact ⟨F2, w2, hm, s2.toSt n, ⟨s2, hq2, (hwk hk1).1, rfl⟩, (hwk hk1).2 _ _ _ _ hs1⟩
def RoundX (n : Nat) (I : Nat -> Est -> Prop) (k : Nat) (x : Nat) (J : Est -> Prop) (Q : Exit -> Est -> Prop) : Exit -> Est -> Prop
 | .normal, s => ∃ m s', m < k /\ WkE n s s' /\ I m s'
 | .exit i, s => if i = x then ∃ s', WkE n s s' /\ J s' else Q (.exit i) s
 | e, s => Q e s
theorem loopX {n : Nat} {b : CCode} {Q : Exit -> Est -> Prop} {s : Est} (x : Nat) (I : Nat -> Est -> Prop) (J : Est -> Prop) (k : Nat) (s0 : Est) (hw : WkE n s s0) (h0 : I k s0) (round : ∀ k s, I k s -> vcE P F0 w0 n b (RoundX n I k x J Q) s) (post : ∀ s, J s -> Q (.exit x) s) : CwpE P F0 w0 n (.loop b) Q s := by
 refine CwpE.post (Q := fun e s => match e with | .exit i => if i = x then ∃ s', WkE n s s' /\ J s' else Q (.exit i) s | e => Q e s) ?_ ?_
 ·refine loopE I k s0 hw h0 fun k s hI => ?_
  have := round k s hI
  have e : RoundX n I k x J Q = RoundE n I k (fun e s => match e with | .exit i => if i = x then ∃ s', WkE n s s' /\ J s' else Q (.exit i) s | e => Q e s) := by
   funext e s; cases e <;> rfl
  rw [e] at this; exact this
 ·intro e s hq
  cases e with
  | exit i =>
   simp only at hq
   split at hq
   ·rename_i hi; subst hi
    obtain ⟨s', h1, h2⟩ := hq
    exact ⟨s', h1, post s' h2⟩
   ·exact ⟨s, .refl _ _, hq⟩
  | _ => exact ⟨s, .refl _ _, hq⟩
end Dak
namespace Dak
open Go Go.RowKit
variable [Globs]
variable {P : Program} {F0 : FD} {w0 : World} {n : Nat} {Q : Exit -> Est -> Prop} {s : Est}
theorem nrfl.{u} {α : Sort u} {a b : α} (h : a = b) : a = b := h
def condE (o : Option Bool) (p q : Prop) : Prop := match o with
 | some t => (t = true -> p) /\ (t = false -> q)
 | none => False
theorem condE_congr {o o' : Option Bool} {p q : Prop} (h : o = o') : condE o p q = condE o' p q := by rw [h]
theorem condE_t {p q : Prop} : condE (some true) p q = p := by simp [condE]
theorem condE_f {p q : Prop} : condE (some false) p q = q := by simp [condE]
theorem vc_skip : vcE P F0 w0 n .skip Q s = Q .normal s := nrfl rfl
theorem vc_region {cs} : vcE P F0 w0 n (.region cs) Q s = RopsE P n cs (Q .normal) s := nrfl rfl
theorem vc_seq {a b} : vcE P F0 w0 n (.seq a b) Q s = vcE P F0 w0 n a (thenE (vcE P F0 w0 n b Q) Q) s := nrfl rfl
theorem vc_cond {c a b} : vcE P F0 w0 n (.cond c a b) Q s = condE (asB (evE s.env c)) (vcE P F0 w0 n a Q s) (vcE P F0 w0 n b Q s) := nrfl rfl
theorem vc_block {id b} : vcE P F0 w0 n (.block id b) Q s = vcE P F0 w0 n b (inBlockE id Q) s := nrfl rfl
theorem vc_loop {b} : vcE P F0 w0 n (.loop b) Q s = CwpE P F0 w0 n (.loop b) Q s := nrfl rfl
theorem vc_exit {id} : vcE P F0 w0 n (.exit id) Q s = Q (.exit id) s := nrfl rfl
theorem vc_ret : vcE P F0 w0 n .ret Q s = Q .ret s := nrfl rfl
def guardE (o : Option (Option Bool)) (want : Bool) (A B : Prop) : Prop := match o with
 | some b => (b = some want -> A) /\ (b ≠ some want -> B)
 | none => False
theorem guardE_congr {o o' : Option (Option Bool)} {w : Bool} {A B : Prop} (h : o = o') : guardE o w A B = guardE o' w A B := by rw [h]
theorem guardE_tt {A B : Prop} : guardE (some (some true)) true A B = A := by simp [guardE]
theorem guardE_ff {A B : Prop} : guardE (some (some false)) false A B = A := by simp [guardE]
theorem guardE_tf {A B : Prop} : guardE (some (some true)) false A B = B := by simp [guardE]
theorem guardE_ft {A B : Prop} : guardE (some (some false)) true A B = B := by simp [guardE]
theorem guardE_n {w : Bool} {A B : Prop} : guardE (some none) w A B = B := by simp [guardE]
theorem gdB_b {b : Bool} : gdB (.val (.bool b)) = some (some b) := by cases b <;> rfl
theorem gdB_n : gdB nov = some none := by unfold nov; simp [gdB, undef]
def optK (o : Option (AV × List AObj)) (n : Nat) (d : Option Nat) (env : List (Nat × AV)) (K : Est -> Prop) : Prop := match o with
 | some (r, objs) => okD n d /\ K ⟨putE env d r, objs⟩
 | none => False
theorem optK_some {r : AV} {objs : List AObj} {d : Option Nat} {env : List (Nat × AV)} {K : Est -> Prop} : optK (some (r, objs)) n d env K = (okD n d /\ K ⟨putE env d r, objs⟩) := nrfl rfl
def qK (o : Option (AV × Option AObj)) (n : Nat) (d : Option Nat) (env : List (Nat × AV)) (cr : List AObj) (K : List (Nat × AV) -> List AObj -> Prop) : Prop := match o with
 | some (r, none) => okD n d /\ K (putE env d r) cr
 | some (r, some o) => okD n d /\ K (putE env d r) (cr ++ [o])
 | none => False
theorem qK_none {r : AV} {d : Option Nat} {env : List (Nat × AV)} {cr : List AObj} {K : List (Nat × AV) -> List AObj -> Prop} : qK (some (r, none)) n d env cr K = (okD n d /\ K (putE env d r) cr) := nrfl rfl
theorem qK_some {r : AV} {o : AObj} {d : Option Nat} {env : List (Nat × AV)} {cr : List AObj} {K : List (Nat × AV) -> List AObj -> Prop} : qK (some (r, some o)) n d env cr K = (okD n d /\ K (putE env d r) (cr ++ [o])) := nrfl rfl
def callK (P : Program) (objs : List AObj) (f : AV) (args : List AV) (d : Option Nat) (env : List (Nat × AV)) (K : Est -> Prop) : Prop := ∃ r objs', CallM P true objs f args r objs' /\ K ⟨putE env d r, objs'⟩
def callQ (P : Program) (objs : List AObj) (f : AV) (args : List AV) (d : Option Nat) (env : List (Nat × AV)) (cr : List AObj) (K : List (Nat × AV) -> List AObj -> Prop) : Prop := ∃ r objs', CallM P false objs f args r objs' /\ callX objs objs' cr (K (putE env d r))
theorem callX_same {objs cr : List AObj} {K : List AObj -> Prop} : callX objs objs cr K = K cr := propext ⟨fun h => h.elim (·.2) fun ⟨o, he, _⟩ => by have := congrArg List.length he; simp at this, fun h => .inl ⟨rfl, h⟩⟩
attribute [go_sem] callX_same
def lateK (P : Program) (n : Nat) (ls : List COper) (rest : List (COper × List COper)) (K : Est -> Prop) (s : Est) : Prop := LatesE s ls /\ RopsLE P n rest K s
def drawnK (P : Program) (n : Nat) (post : List (COper × List COper)) (K : Est -> Prop) (objs : List AObj) (env : List (Nat × AV)) (cr : List AObj) : Prop := RopsLE P n post K ⟨env, objs ++ cr⟩
theorem vd_drawn {pre post} : vcE P F0 w0 n (.drawn pre post) Q s = QopsE P n s.objs pre (drawnK P n post (Q .normal) s.objs) s.env [] := nrfl rfl
attribute [congr] condE_congr guardE_congr
variable {K : Est -> Prop} {rest : List COper} {d : Option Nat} {g : Option (Nat × Bool)}
theorem R_nil : RopsE P n [] K s = K s := nrfl rfl
theorem R_cons {op : COp} : RopsE P n (⟨d, none, op⟩ :: rest) K s = RstepE P n ⟨d, none, op⟩ (RopsE P n rest K) s := nrfl rfl
theorem R_guard {op : COp} {t : Nat} {w : Bool} : RopsE P n (⟨d, some (t, w), op⟩ :: rest) K s = guardE (gdB (lk s.env t)) w (RstepE P n ⟨d, some (t, w), op⟩ (RopsE P n rest K) s) (okD n d /\ RopsE P n rest K ⟨putE s.env d nov, s.objs⟩) := nrfl rfl
theorem R_call {f : Operand} {args : List Operand} : RstepE P n ⟨d, g, .call f args⟩ K s = (okD n d /\ callK P s.objs (evE s.env f) (args.map (evE s.env)) d s.env K) := nrfl rfl
theorem RL_nil : RopsLE P n [] K s = K s := nrfl rfl
theorem RL_cons {op : COp} {ls : List COper} {rest : List (COper × List COper)} : RopsLE P n ((⟨d, none, op⟩, ls) :: rest) K s = RstepE P n ⟨d, none, op⟩ (lateK P n ls rest K) s := nrfl rfl
variable {objs0 : List AObj} {KQ : List (Nat × AV) -> List AObj -> Prop} {env : List (Nat × AV)} {cr : List AObj}
theorem Q_nil : QopsE P n objs0 [] KQ env cr = KQ env cr := nrfl rfl
theorem Q_call {f : Operand} {args : List Operand} : QopsE P n objs0 (⟨d, none, .call f args⟩ :: rest) KQ env cr = (okD n d /\ callQ P objs0 (evE env f) (args.map (evE env)) d env cr (QopsE P n objs0 rest KQ)) := nrfl rfl
theorem R_mov {x : Operand} : RstepE P n ⟨d, g, .mov x⟩ K s = optK (step1 s.objs (evE s.env) (.mov x)) n d s.env K := nrfl rfl
theorem Q_mov {x : Operand} : QopsE P n objs0 (⟨d, none, .mov x⟩ :: rest) KQ env cr = (qK (qstepK (objs0 ++ cr) objs0 (evE env) (objs0.length + cr.length) (.mov x)) n d env cr (QopsE P n objs0 rest KQ)) := nrfl rfl
theorem R_pick {c a b : Operand} : RstepE P n ⟨d, g, .pick c a b⟩ K s = optK (step1 s.objs (evE s.env) (.pick c a b)) n d s.env K := nrfl rfl
theorem R_alloc {elem : TypeId} {z : AV} : RstepE P n ⟨d, g, .alloc elem z⟩ K s = optK (step1 s.objs (evE s.env) (.alloc elem z)) n d s.env K := nrfl rfl
theorem Q_alloc {elem : TypeId} {z : AV} : QopsE P n objs0 (⟨d, none, .alloc elem z⟩ :: rest) KQ env cr = (qK (qstepK (objs0 ++ cr) objs0 (evE env) (objs0.length + cr.length) (.alloc elem z)) n d env cr (QopsE P n objs0 rest KQ)) := nrfl rfl
theorem R_box {elem : TypeId} {x : Operand} : RstepE P n ⟨d, g, .box elem x⟩ K s = optK (step1 s.objs (evE s.env) (.box elem x)) n d s.env K := nrfl rfl
theorem R_load {agg : Bool} {m : Nat} {x : Operand} : RstepE P n ⟨d, g, .load agg m x⟩ K s = optK (step1 s.objs (evE s.env) (.load agg m x)) n d s.env K := nrfl rfl
theorem Q_load {agg : Bool} {m : Nat} {x : Operand} : QopsE P n objs0 (⟨d, none, .load agg m x⟩ :: rest) KQ env cr = (qK (qstepK (objs0 ++ cr) objs0 (evE env) (objs0.length + cr.length) (.load agg m x)) n d env cr (QopsE P n objs0 rest KQ)) := nrfl rfl
theorem R_ibin {op : BinOp} {x y : Operand} : RstepE P n ⟨d, g, .ibin op x y⟩ K s = optK (step1 s.objs (evE s.env) (.ibin op x y)) n d s.env K := nrfl rfl
theorem Q_ibin {op : BinOp} {x y : Operand} : QopsE P n objs0 (⟨d, none, .ibin op x y⟩ :: rest) KQ env cr = (qK (qstepK (objs0 ++ cr) objs0 (evE env) (objs0.length + cr.length) (.ibin op x y)) n d env cr (QopsE P n objs0 rest KQ)) := nrfl rfl
theorem Q_aeq {neg : Bool} {m : Nat} {x y : Operand} : QopsE P n objs0 (⟨d, none, .aeq neg m x y⟩ :: rest) KQ env cr = (qK (qstepK (objs0 ++ cr) objs0 (evE env) (objs0.length + cr.length) (.aeq neg m x y)) n d env cr (QopsE P n objs0 rest KQ)) := nrfl rfl
theorem R_neg {x : Operand} : RstepE P n ⟨d, g, .neg x⟩ K s = optK (step1 s.objs (evE s.env) (.neg x)) n d s.env K := nrfl rfl
theorem R_lnot {x : Operand} : RstepE P n ⟨d, g, .lnot x⟩ K s = optK (step1 s.objs (evE s.env) (.lnot x)) n d s.env K := nrfl rfl
theorem R_conv {k : IntKind} {x : Operand} : RstepE P n ⟨d, g, .conv k x⟩ K s = optK (step1 s.objs (evE s.env) (.conv k x)) n d s.env K := nrfl rfl
theorem R_fieldAddr {off : Nat} {x : Operand} : RstepE P n ⟨d, g, .fieldAddr off x⟩ K s = optK (step1 s.objs (evE s.env) (.fieldAddr off x)) n d s.env K := nrfl rfl
theorem Q_fieldAddr {off : Nat} {x : Operand} : QopsE P n objs0 (⟨d, none, .fieldAddr off x⟩ :: rest) KQ env cr = (qK (qstepK (objs0 ++ cr) objs0 (evE env) (objs0.length + cr.length) (.fieldAddr off x)) n d env cr (QopsE P n objs0 rest KQ)) := nrfl rfl
theorem R_field {agg : Bool} {off m : Nat} {x : Operand} : RstepE P n ⟨d, g, .field agg off m x⟩ K s = optK (step1 s.objs (evE s.env) (.field agg off m x)) n d s.env K := nrfl rfl
theorem R_idxS {size : Nat} {x i : Operand} : RstepE P n ⟨d, g, .idxS size x i⟩ K s = optK (step1 s.objs (evE s.env) (.idxS size x i)) n d s.env K := nrfl rfl
theorem Q_idxS {size : Nat} {x i : Operand} : QopsE P n objs0 (⟨d, none, .idxS size x i⟩ :: rest) KQ env cr = (qK (qstepK (objs0 ++ cr) objs0 (evE env) (objs0.length + cr.length) (.idxS size x i)) n d env cr (QopsE P n objs0 rest KQ)) := nrfl rfl
theorem R_idxA {len size : Nat} {x i : Operand} : RstepE P n ⟨d, g, .idxA len size x i⟩ K s = optK (step1 s.objs (evE s.env) (.idxA len size x i)) n d s.env K := nrfl rfl
theorem Q_idxA {len size : Nat} {x i : Operand} : QopsE P n objs0 (⟨d, none, .idxA len size x i⟩ :: rest) KQ env cr = (qK (qstepK (objs0 ++ cr) objs0 (evE env) (objs0.length + cr.length) (.idxA len size x i)) n d env cr (QopsE P n objs0 rest KQ)) := nrfl rfl
theorem R_idxV {agg : Bool} {len size : Nat} {x i : Operand} : RstepE P n ⟨d, g, .idxV agg len size x i⟩ K s = optK (step1 s.objs (evE s.env) (.idxV agg len size x i)) n d s.env K := nrfl rfl
theorem R_extract {x : Operand} {i : Nat} : RstepE P n ⟨d, g, .extract x i⟩ K s = optK (step1 s.objs (evE s.env) (.extract x i)) n d s.env K := nrfl rfl
theorem R_slice {size : Nat} {x : Operand} {lo hi : Option Operand} : RstepE P n ⟨d, g, .slice size x lo hi⟩ K s = optK (step1 s.objs (evE s.env) (.slice size x lo hi)) n d s.env K := nrfl rfl
theorem Q_slice {size : Nat} {x : Operand} {lo hi : Option Operand} : QopsE P n objs0 (⟨d, none, .slice size x lo hi⟩ :: rest) KQ env cr = (qK (qstepK (objs0 ++ cr) objs0 (evE env) (objs0.length + cr.length) (.slice size x lo hi)) n d env cr (QopsE P n objs0 rest KQ)) := nrfl rfl
theorem R_mkslice {elem : TypeId} {size bytes : Nat} {z : AV} {len cap : Operand} : RstepE P n ⟨d, g, .mkslice elem size bytes z len cap⟩ K s = optK (step1 s.objs (evE s.env) (.mkslice elem size bytes z len cap)) n d s.env K := nrfl rfl
theorem Q_mkslice {elem : TypeId} {size bytes : Nat} {z : AV} {len cap : Operand} : QopsE P n objs0 (⟨d, none, .mkslice elem size bytes z len cap⟩ :: rest) KQ env cr = (qK (qstepK (objs0 ++ cr) objs0 (evE env) (objs0.length + cr.length) (.mkslice elem size bytes z len cap)) n d env cr (QopsE P n objs0 rest KQ)) := nrfl rfl
theorem R_build {z : List AV} {parts : List (Nat × Nat × Operand)} : RstepE P n ⟨d, g, .build z parts⟩ K s = optK (step1 s.objs (evE s.env) (.build z parts)) n d s.env K := nrfl rfl
theorem Q_build {z : List AV} {parts : List (Nat × Nat × Operand)} : QopsE P n objs0 (⟨d, none, .build z parts⟩ :: rest) KQ env cr = (qK (qstepK (objs0 ++ cr) objs0 (evE env) (objs0.length + cr.length) (.build z parts)) n d env cr (QopsE P n objs0 rest KQ)) := nrfl rfl
theorem R_bslice {elem : TypeId} {size : Nat} {parts : List Operand} : RstepE P n ⟨d, g, .bslice elem size parts⟩ K s = optK (step1 s.objs (evE s.env) (.bslice elem size parts)) n d s.env K := nrfl rfl
theorem Q_bslice {elem : TypeId} {size : Nat} {parts : List Operand} : QopsE P n objs0 (⟨d, none, .bslice elem size parts⟩ :: rest) KQ env cr = (qK (qstepK (objs0 ++ cr) objs0 (evE env) (objs0.length + cr.length) (.bslice elem size parts)) n d env cr (QopsE P n objs0 rest KQ)) := nrfl rfl
theorem R_len {x : Operand} : RstepE P n ⟨d, g, .len x⟩ K s = optK (step1 s.objs (evE s.env) (.len x)) n d s.env K := nrfl rfl
theorem Q_len {x : Operand} : QopsE P n objs0 (⟨d, none, .len x⟩ :: rest) KQ env cr = (qK (qstepK (objs0 ++ cr) objs0 (evE env) (objs0.length + cr.length) (.len x)) n d env cr (QopsE P n objs0 rest KQ)) := nrfl rfl
theorem R_imin {x y : Operand} : RstepE P n ⟨d, g, .imin x y⟩ K s = optK (step1 s.objs (evE s.env) (.imin x y)) n d s.env K := nrfl rfl
theorem R_imax {x y : Operand} : RstepE P n ⟨d, g, .imax x y⟩ K s = optK (step1 s.objs (evE s.env) (.imax x y)) n d s.env K := nrfl rfl
theorem R_mkfunc {fn : Fn} {cap : List Operand} : RstepE P n ⟨d, g, .mkfunc fn cap⟩ K s = optK (step1 s.objs (evE s.env) (.mkfunc fn cap)) n d s.env K := nrfl rfl
theorem R_store {m : Nat} {x v : Operand} : RstepE P n ⟨d, g, .store m x v⟩ K s = optK (step1 s.objs (evE s.env) (.store m x v)) n d s.env K := nrfl rfl
theorem R_append {elem : TypeId} {size bytes : Nat} {sl x : Operand} : RstepE P n ⟨d, g, .append elem size bytes sl x⟩ K s = optK (step1 s.objs (evE s.env) (.append elem size bytes sl x)) n d s.env K := nrfl rfl
theorem R_isNil {sl neg : Bool} {x y : Operand} : RstepE P n ⟨d, g, .isNil sl neg x y⟩ K s = optK (step1 s.objs (evE s.env) (.isNil sl neg x y)) n d s.env K := nrfl rfl
theorem R_copy {m : Nat} {x y : Operand} : RstepE P n ⟨d, g, .copy m x y⟩ K s = optK (step1 s.objs (evE s.env) (.copy m x y)) n d s.env K := nrfl rfl
theorem R_appendZ {elem : TypeId} {size bytes : Nat} {z : AV} {sl x : Operand} : RstepE P n ⟨d, g, .appendZ elem size bytes z sl x⟩ K s = optK (step1 s.objs (evE s.env) (.appendZ elem size bytes z sl x)) n d s.env K := nrfl rfl
theorem R_sliceA {len : Nat} {x : Operand} {lo hi : Option Operand} : RstepE P n ⟨d, g, .sliceA len x lo hi⟩ K s = optK (step1 s.objs (evE s.env) (.sliceA len x lo hi)) n d s.env K := nrfl rfl
theorem evE_t {env : List (Nat × AV)} {t : Nat} : evE env (.tmp t) = lk env t := nrfl rfl
theorem evE_c {env : List (Nat × AV)} {v : Value} : evE env (.const v) = ofV v := nrfl rfl
theorem evE_g {env : List (Nat × AV)} {g : Nat} : evE env (.global g) = gAV g := nrfl rfl
theorem evE_f {env : List (Nat × AV)} {f : FuncId} : evE env (.func f) = .clo (.func f) [] := nrfl rfl
theorem asB_b {b : Bool} : asB (.val (.bool b)) = some b := by cases b <;> rfl
theorem thenE_n {A : Est -> Prop} : thenE A Q .normal s = A s := nrfl rfl
theorem thenE_x {A : Est -> Prop} {i : Nat} : thenE A Q (.exit i) s = Q (.exit i) s := nrfl rfl
theorem thenE_r {A : Est -> Prop} : thenE A Q .ret s = Q .ret s := nrfl rfl
theorem inBlockE_n {id : Nat} : inBlockE id Q .normal s = Q .normal s := nrfl rfl
theorem inBlockE_x {id i : Nat} : inBlockE id Q (.exit i) s = if i = id then Q .normal s else Q (.exit i) s := nrfl rfl
theorem inBlockE_r {id : Nat} : inBlockE id Q .ret s = Q .ret s := nrfl rfl
theorem noGotoE_n : noGotoE Q .normal s = Q .normal s := nrfl rfl
theorem noGotoE_r : noGotoE Q .ret s = Q .ret s := nrfl rfl
theorem retE_r {rs : List CRes} {r : AV} : retE rs r .ret s = ∃ y, resAllE s rs = some y /\ Snap s.objs y r := nrfl rfl
theorem RoundX_n {I : Nat -> Est -> Prop} {k x : Nat} {J : Est -> Prop} : RoundX n I k x J Q .normal s = ∃ m s', m < k /\ WkE n s s' /\ I m s' := nrfl rfl
theorem RoundX_x {I : Nat -> Est -> Prop} {k x i : Nat} {J : Est -> Prop} : RoundX n I k x J Q (.exit i) s = if i = x then ∃ s', WkE n s s' /\ J s' else Q (.exit i) s := nrfl rfl
theorem RoundX_r {I : Nat -> Est -> Prop} {k x : Nat} {J : Est -> Prop} : RoundX n I k x J Q .ret s = Q .ret s := nrfl rfl
theorem lk_cons {k t : Nat} {v : AV} {r : List (Nat × AV)} : lk ((k, v) :: r) t = if k = t then v else lk r t := nrfl rfl
attribute [go_sem] and_true
attribute [go_sem] guardE_n gdB_b gdB_n condE_t condE_f vc_skip vc_region vd_drawn vc_seq vc_cond vc_block vc_loop vc_exit vc_ret guardE_tt guardE_ff guardE_tf guardE_ft optK_some qK_none qK_some lateK drawnK R_nil R_cons R_guard R_call RL_nil RL_cons Q_nil Q_call R_mov Q_mov R_pick R_alloc Q_alloc R_box R_load Q_load R_ibin Q_ibin Q_aeq R_neg R_lnot R_conv R_fieldAddr Q_fieldAddr R_field R_idxS Q_idxS R_idxA Q_idxA R_idxV R_extract R_slice Q_slice R_mkslice Q_mkslice R_build Q_build R_bslice Q_bslice R_len Q_len R_imin R_imax R_mkfunc R_store R_append R_isNil R_copy R_appendZ R_sliceA LatesE evE_t evE_c evE_f evE_g putE lk_cons okD step1 qstep qstepK qop ofV COp.stores AV.kn AV.fits AV.one AV.isT AV.isT1 AV.cells asI asB_b ibinV bnd bnd1 cellsAt fillA Dak.upd storeA appendA appendY appendZA copyA srcOf recell resAllE resE envOf Nat.le_refl List.mapM_cons List.mapM_nil List.map_cons List.map_nil List.all_cons List.all_nil List.length_cons List.length_nil List.length_append List.append_nil List.nil_append List.cons_append Option.bind_some Option.bind_none Option.map_some Option.map_none Option.pure_def Option.some.injEq exists_eq_left' true_and and_true if_true if_false ite_true ite_false Bool.false_eq_true Bool.true_eq_false Bool.and_true Bool.true_and Bool.and_false Bool.false_and ne_eq not_true_eq_false not_false_eq_true forall_const false_implies true_implies implies_true Bool.not_eq_false Bool.not_eq_true List.getElem?_cons_zero List.getElem?_cons_succ List.set_cons_zero List.set_cons_succ Value.oneCell' beq_self_eq_true decide_true decide_false Nat.add_zero Nat.zero_add AV.val.injEq Value.int.injEq Value.bool.injEq Bool.not_true Bool.not_false bne_self_eq_false IntKind.bits Nat.lt_add_one Nat.zero_lt_succ Nat.one_ne_zero List.length_map List.drop_zero List.take_length List.take_succ_cons List.take_zero List.drop_succ_cons Agree List.head?_cons or_true true_or or_false false_or and_self Int.toNat_natCast List.set_nil List.replicate_zero List.drop_nil List.take_nil List.length_range List.take_of_length_le thenE_n thenE_x thenE_r inBlockE_n inBlockE_x inBlockE_r noGotoE_n noGotoE_r retE_r RoundX_n RoundX_x RoundX_r Option.bind_eq_bind
end Dak
namespace Dak
open Go Go.RowKit
variable [Globs]
variable {P : Program} {F0 : FD} {w0 : World} {n : Nat}
theorem CwpE.vc {c : CCode} {Q : Exit -> Est -> Prop} {s : Est} (h : vcE P F0 w0 n c Q s) : CwpE P F0 w0 n c Q s := fun hk => vc_ok _ _ _ (vcE_ok c Q s hk h)
theorem CwpE.seq {a b : CCode} {Q : Exit -> Est -> Prop} {s : Est} (h : CwpE P F0 w0 n a (thenE (CwpE P F0 w0 n b Q) Q) s) : CwpE P F0 w0 n (.seq a b) Q s := by
 intro hk F1 w1 m r rn code hc hro a' w hs
 cases code with
 | seq x y =>
  simp only [compC, Option.bind_eq_some_iff, Option.map_eq_some_iff, CCode.seq.injEq] at hc
  obtain ⟨x', hx, y', hy, rfl, rfl⟩ := hc
  refine wpIn_seq (wpIn_mono (h hk F1 w1 m r rn _ hx (ro_l hro) _ w hs) ?_)
  rintro e a w ⟨F2, w2, hm, st, ⟨s1, hq, hk1, rfl⟩, hs1⟩
  cases e with
  | normal => exact wpIn_mono (hq hk1 F2 w2 (m.trans hm) r rn _ hy (ro_r hro) _ _ hs1) fun _ _ _ => LiftM.back hm
  | _ => exact ⟨F2, w2, hm, _, ⟨s1, hq, hk1, rfl⟩, hs1⟩
 | region id ops d => rcases compC_reg hc with ⟨_, _, h⟩ | ⟨_, _, h⟩ | ⟨_, _, _, h⟩ <;> cases h
 | _ => simp [compC, Option.bind_eq_some_iff] at hc
theorem CwpE.step {a b : CCode} {Q : Exit -> Est -> Prop} {s : Est} (J : Est -> Prop) (h : vcE P F0 w0 n a (thenE (fun s => ∃ s', WkE n s s' /\ J s') Q) s) (k : ∀ s, J s -> CwpE P F0 w0 n b Q s) : CwpE P F0 w0 n (.seq a b) Q s := by
 refine CwpE.seq ((CwpE.vc h).post ?_)
 rintro e s h
 cases e with
 | normal => obtain ⟨s', h1, h2⟩ := h; exact ⟨s, .refl _ _, (k s' h2).wk h1⟩
 | _ => exact ⟨s, .refl _ _, h⟩
theorem specC {f : FuncId} {c : CCode} {n : Nat} {rs : List CRes} (hf : fnC P f = some (c, n, rs)) {xs : List AV} (hn : xs.length <= n) {r : AV} (h : ∀ F0 w0, CwpE P F0 w0 n c (retE rs r) ⟨envOf 0 xs, []⟩) : Ctr P f xs r := by
 refine spec_ofC hf fun F0 w0 => ?_
 have hk : KeysOk n (envOf 0 xs) := by
  intro t ht
  rw [lk_envOf, if_pos (Nat.zero_le _), List.getD_eq_getElem?_getD, List.getElem?_eq_none (by omega)]; rfl
 have e : (⟨xs ++ List.replicate (n - xs.length) .junk, []⟩ : St) = (⟨envOf 0 xs, []⟩ : Est).toSt n := by
  unfold Est.toSt
  congr 1
  refine getD_ext (by simp [toT]; omega) fun t ht => ?_
  rw [toT_getD hk, lk_envOf, if_pos (Nat.zero_le _), Nat.sub_zero]
  rw [List.getD_eq_getElem?_getD, List.getD_eq_getElem?_getD, List.getElem?_append]
  split
  ·rfl
  ·rename_i h1
   rw [List.getElem?_replicate, List.getElem?_eq_none (by omega)]
   split <;> rfl
 rw [e]
 refine (h F0 w0 hk).mono ?_
 rintro e st ⟨s, hq, hk', rfl⟩
 have hr : ∀ x, resA (s.toSt n) x = resE s x := by
  intro x
  cases x with
  | tmp t => simp only [resA, resE]; rw [show (s.toSt n).tmps = toT n s.env from rfl, toT_getD hk']
  | cell a ag m => simp only [resA, resE]; rw [show (s.toSt n).tmps = toT n s.env from rfl, toT_getD hk']; rfl
 have hra : ∀ rs, resAll (s.toSt n) rs = resAllE s rs := by
  intro rs; unfold resAll resAllE; rw [show resA (s.toSt n) = resE s from funext hr]
  cases rs.mapM (resE s) with
  | none => rfl
  | some ys => cases ys with
   | nil => rfl
   | cons y ys => cases ys <;> rfl
 cases e with
 | normal => simp only [retQ]; rw [hra]; exact hq
 | ret => simp only [retQ]; rw [hra]; exact hq
 | _ => exact hq
theorem CwpE.split {c : CCode} {Q : Exit -> Est -> Prop} {env : List (Nat × AV)} {objs : List AObj} (k : Nat) (h : lk env k = .anyB) (ht : ∀ b, CwpE P F0 w0 n c Q ⟨(k, .val (.bool b)) :: env, objs⟩) : CwpE P F0 w0 n c Q ⟨env, objs⟩ := by
 intro hk F1 w1 m r rn code hc hro a w hs
 obtain ⟨hd, L, g, hsz, hslots⟩ := sim_slots hk hs
 have hkn : k < n := by
  rcases Nat.lt_or_ge k n with h1 | h1
  ·exact h1
  ·have := hk k h1; simp only [h] at this; cases this
 have hv := hslots k hkn
 simp only [h] at hv
 obtain ⟨b, hb⟩ := hv.anyB_inv
 have hk' : KeysOk n ((k, .val (.bool b)) :: env) := fun t ht' => by simp only [lk]; rw [if_neg (by omega)]; exact hk t ht'
 refine ht b hk' F1 w1 m r rn code hc hro a w (sim_mk (s := ⟨_, objs⟩) hd g hsz fun t ht' => ?_)
 simp only [lk]
 split
 ·rename_i e; subst e; rw [hb]; exact .tree (.val _)
 ·exact hslots t ht'
end Dak
namespace Dak
open Go Go.RowKit
variable [Globs]
variable {P : Program} {F0 : FD} {w0 : World} {n : Nat}
theorem CwpE.mono {c : CCode} {Q Q' : Exit -> Est -> Prop} {s : Est} (h : CwpE P F0 w0 n c Q s) (k : ∀ e s, Q e s -> Q' e s) : CwpE P F0 w0 n c Q' s := h.post fun e s hq => ⟨s, .refl _ _, k e s hq⟩
theorem CwpE.block {id : Nat} {b : CCode} {Q : Exit -> Est -> Prop} {s : Est} (h : CwpE P F0 w0 n b (inBlockE id Q) s) : CwpE P F0 w0 n (.block id b) Q s := by
 intro hk F1 w1 m r rn code hc hro a w hs
 cases code with
 | block id' b' =>
  simp only [compC, Option.map_eq_some_iff, CCode.block.injEq] at hc
  obtain ⟨x', hx, rfl, rfl⟩ := hc
  refine wpIn_block (wpIn_mono (h hk F1 w1 m r rn _ hx hro a w hs) ?_)
  rintro e a1 w3 ⟨F2, w2, hm, st', ⟨s1, hq, hk1, rfl⟩, hs'⟩
  cases e with
  | exit i =>
   simp only [Exit.inBlock, inBlockE] at hq ⊢
   split
   ·rename_i hi; rw [if_pos hi] at hq; exact ⟨F2, w2, hm, _, ⟨s1, hq, hk1, rfl⟩, hs'⟩
   ·rename_i hi; rw [if_neg hi] at hq; exact ⟨F2, w2, hm, _, ⟨s1, hq, hk1, rfl⟩, hs'⟩
  | _ => exact ⟨F2, w2, hm, _, ⟨s1, hq, hk1, rfl⟩, hs'⟩
 | region id ops d => rcases compC_reg hc with ⟨_, _, h⟩ | ⟨_, _, h⟩ | ⟨_, _, _, h⟩ <;> cases h
 | _ => simp [compC, Option.bind_eq_some_iff] at hc
theorem CwpE.scope {b : CCode} {Q : Exit -> Est -> Prop} {s : Est} (h : CwpE P F0 w0 n b (noGotoE Q) s) : CwpE P F0 w0 n (.scope b) Q s := by
 intro hk F1 w1 m r rn code hc hro a w hs
 cases code with
 | scope b' =>
  simp only [compC, Option.map_eq_some_iff, CCode.scope.injEq] at hc
  obtain ⟨x', hx, rfl⟩ := hc
  refine wpIn_scope_straight (wpIn_mono (h hk F1 w1 m r rn _ hx hro a w hs) ?_)
  rintro e a1 w3 ⟨F2, w2, hm, st', ⟨s1, hq, hk1, rfl⟩, hs'⟩
  cases e with
  | goto l => exact hq.elim
  | _ => exact ⟨F2, w2, hm, _, ⟨s1, hq, hk1, rfl⟩, hs'⟩
 | region id ops d => rcases compC_reg hc with ⟨_, _, h⟩ | ⟨_, _, h⟩ | ⟨_, _, _, h⟩ <;> cases h
 | _ => simp [compC, Option.bind_eq_some_iff] at hc
theorem Cwp.loopC {b : CCode} {Q : Exit -> St -> Prop} {s s0 : St} (I : Nat -> St -> Prop) (n : Nat) (hw : Wk s s0) (h0 : I n s0) (round : ∀ n s, I n s -> Cwp P F0 w0 b (Round I n Q) s) : Cwp P F0 w0 (.loop b) Q s := by
 intro F1 w1 hm1 r rn code hc hro a w hs
 cases code with
 | loop b' =>
  simp only [compC, Option.map_eq_some_iff, CCode.loop.injEq] at hc
  obtain ⟨x', hx, rfl⟩ := hc
  refine wpIn_loop_ghost (fun n a w => ∃ F2 w2, Mk F1 w1 F2 w2 /\ ∃ s, I n s /\ Sim F2 w2 s a w) n ⟨F1, w1, Mk.refl hs.lt, s0, h0, hw _ _ _ _ hs⟩ ?_
  rintro n a w ⟨F2, w2, hm2, s, hI, hs⟩
  refine wpIn_mono (round n s hI F2 w2 (hm1.trans hm2) r rn _ hx hro a w hs) ?_
  rintro e a1 w3 ⟨F3, w3', hm3, st', hq, hs'⟩
  cases e with
  | normal =>
   obtain ⟨m, s'', hm, hwk, hI'⟩ := hq
   first
    | exact ⟨m, hm, F3, w3', hm2.trans hm3, s'', hI', hwk _ _ _ _ hs'⟩
    | exact ⟨⟨m, hm, F3, w3', hm2.trans hm3, s'', hI', hwk _ _ _ _ hs'⟩⟩
  | _ => exact ⟨F3, w3', hm2.trans hm3, st', hq, hs'⟩
 | region id ops d => rcases compC_reg hc with ⟨_, _, h⟩ | ⟨_, _, h⟩ | ⟨_, _, _, h⟩ <;> cases h
 | _ => simp [compC, Option.bind_eq_some_iff] at hc
theorem loopEC {b : CCode} {Q : Exit -> Est -> Prop} {s : Est} (I : Nat -> Est -> Prop) (k : Nat) (s0 : Est) (hw : WkE n s s0) (h0 : I k s0) (round : ∀ k s, I k s -> CwpE P F0 w0 n b (RoundE n I k Q) s) : CwpE P F0 w0 n (.loop b) Q s := by
 intro hk
 refine Cwp.loopC (fun k st => ∃ s, I k s /\ KeysOk n s.env /\ st = s.toSt n) k (hw hk).2 ⟨s0, h0, (hw hk).1, rfl⟩ ?_
 rintro k st ⟨s, hI, hk, rfl⟩
 refine Cwp.mono (round k s hI hk) ?_
 rintro e st ⟨s', hq, hk', rfl⟩
 cases e with
 | normal =>
  obtain ⟨m, s'', hm, hwk, hI'⟩ := hq
  exact ⟨m, _, hm, (hwk hk').2, s'', hI', (hwk hk').1, rfl⟩
 | _ => exact ⟨s', hq, hk', rfl⟩
theorem loopXC {b : CCode} {Q : Exit -> Est -> Prop} {s : Est} (x : Nat) (I : Nat -> Est -> Prop) (J : Est -> Prop) (k : Nat) (s0 : Est) (hw : WkE n s s0) (h0 : I k s0) (round : ∀ k s, I k s -> CwpE P F0 w0 n b (RoundX n I k x J Q) s) (post : ∀ s, J s -> Q (.exit x) s) : CwpE P F0 w0 n (.loop b) Q s := by
 refine CwpE.post (Q := fun e s => match e with | .exit i => if i = x then ∃ s', WkE n s s' /\ J s' else Q (.exit i) s | e => Q e s) ?_ ?_
 ·refine loopEC I k s0 hw h0 fun k s hI => ?_
  have := round k s hI
  have e : RoundX n I k x J Q = RoundE n I k (fun e s => match e with | .exit i => if i = x then ∃ s', WkE n s s' /\ J s' else Q (.exit i) s | e => Q e s) := by
   funext e s; cases e <;> rfl
  rw [e] at this; exact this
 ·intro e s hq
  cases e with
  | exit i =>
   simp only at hq
   split at hq
   ·rename_i hi; subst hi
    obtain ⟨s', h1, h2⟩ := hq
    exact ⟨s', h1, post s' h2⟩
   ·exact ⟨s, .refl _ _, hq⟩
  | _ => exact ⟨s, .refl _ _, hq⟩
theorem CwpE.cut {a b : CCode} {Q : Exit -> Est -> Prop} {s st : Est} (h : vcE P F0 w0 n a (thenE (fun s => ∃ s', WkE n s s' /\ s' = st) Q) s) (k : CwpE P F0 w0 n b Q st) : CwpE P F0 w0 n (.seq a b) Q s := by
 refine CwpE.step (fun s => s = st) h ?_
 rintro s rfl; exact k
theorem CwpE.seqJ {a b : CCode} {Q : Exit -> Est -> Prop} {s : Est} (J : Est -> Prop) (h : CwpE P F0 w0 n a (thenE (fun s => ∃ s', WkE n s s' /\ J s') Q) s) (k : ∀ s, J s -> CwpE P F0 w0 n b Q s) : CwpE P F0 w0 n (.seq a b) Q s := by
 refine CwpE.seq (h.post ?_)
 rintro e s h
 cases e with
 | normal => obtain ⟨s', h1, h2⟩ := h; exact ⟨s, .refl _ _, (k s' h2).wk h1⟩
 | _ => exact ⟨s, .refl _ _, h⟩
end Dak
namespace Dak
open Go Go.RowKit
variable [Globs]
variable {P : Program} {F0 : FD} {w0 : World} {n : Nat}
theorem CwpE.cond_b {c : Operand} {a b : CCode} {Q : Exit -> Est -> Prop} {s : Est} (t : Bool) (hc : asB (evE s.env c) = some t) (h : CwpE P F0 w0 n (if t then a else b) Q s) : CwpE P F0 w0 n (.cond c a b) Q s := by
 intro hk F1 w1 m r rn code hcode hro a' w hs
 cases code with
 | cond c' a'' b'' =>
  simp only [compC, Option.bind_eq_some_iff, Option.map_eq_some_iff, CCode.cond.injEq] at hcode
  obtain ⟨x', hx, y', hy, rfl, rfl, rfl⟩ := hcode
  have hv : a'.eval c' = .bool t := by
   obtain ⟨hd, L, g, hs1, ht1⟩ := hs
   refine asB_ok (ev_ok (objs := s.objs) g.gl hs1 ht1 c') ?_
   show asB (St.ev (toT n s.env) c') = some t
   rw [ev_toT hk]; exact hc
  refine wpIn_cond hv ?_
  cases t with
  | true => exact h hk F1 w1 m r rn _ hx (ro_l hro) a' w hs
  | false => exact h hk F1 w1 m r rn _ hy (ro_r hro) a' w hs
 | region id ops d => rcases compC_reg hcode with ⟨_, _, h⟩ | ⟨_, _, h⟩ | ⟨_, _, _, h⟩ <;> cases h
 | _ => simp [compC, Option.bind_eq_some_iff] at hcode
theorem CwpE.cond_t {c : Operand} {a b : CCode} {Q : Exit -> Est -> Prop} {s : Est} (hc : asB (evE s.env c) = some true) (h : CwpE P F0 w0 n a Q s) : CwpE P F0 w0 n (.cond c a b) Q s := CwpE.cond_b true hc h
theorem CwpE.cond_f {c : Operand} {a b : CCode} {Q : Exit -> Est -> Prop} {s : Est} (hc : asB (evE s.env c) = some false) (h : CwpE P F0 w0 n b Q s) : CwpE P F0 w0 n (.cond c a b) Q s := CwpE.cond_b false hc h
end Dak
namespace Dak
open Go Go.RowKit
variable [Globs]
variable {P : Program} {F0 : FD} {w0 w : World} {L : Lay} {objs objs0 : List AObj} {nid : Nat}
theorem inn1_mono {m n : Nat} (h : m <= n) {x : AV} (hx : x.inn1 m = true) : x.inn1 n = true := by
 cases x <;> simp_all [AV.inn1] <;> omega
theorem inn_mono {m n : Nat} (h : m <= n) {x : AV} (hx : x.inn m = true) : x.inn n = true := by
 cases x with
 | agg cs => exact List.all_eq_true.2 fun c hc => inn1_mono h (List.all_eq_true.1 hx c hc)
 | tup cs => exact List.all_eq_true.2 fun c hc => inn1_mono h (List.all_eq_true.1 hx c hc)
 | clo fn cs => exact List.all_eq_true.2 fun c hc => inn1_mono h (List.all_eq_true.1 hx c hc)
 | _ => simp only [AV.inn] at hx ⊢; exact inn1_mono h hx
theorem later_app (w : World) (L : Lay) (objs tail : List AObj) : Later w L objs w L (objs ++ tail) :=
 ⟨fun b hF hb => ⟨rfl, hF⟩, fun _ _ h => stale_app _ h, fun _ _ _ h => .inr ⟨live_app _ h, rfl⟩⟩
abbrev probeOf (objs : List AObj) (L : Lay) (ps : List (AV × Value)) : AObj := .probe objs.length (stale objs) (live objs) L.blk ps
theorem good_probe (g : Good F0 w0 w L objs) (ps : List (AV × Value)) (hp : ∀ p ∈ ps, VR w L objs p.1 p.2) : Good F0 w0 w L (objs ++ [probeOf objs L ps]) := by
 have hl := later_app w L objs [probeOf objs L ps]
 refine ⟨fun id o ho => ?_, fun id hid => g.out id (by rw [List.length_append] at hid; omega), g.inj, g.own, g.old, g.ext, g.gl⟩
 by_cases hlt : id < objs.length
 ·rw [List.getElem?_append_left hlt] at ho
  have := g.obj id o ho
  cases o with
  | void => exact this
  | dead => exact this
  | probe k st li bk ps => exact this.probe_stay hl rfl
  | arr gen size elem xs =>
   unfold OR at this ⊢
   cases hbk : L.blk id with
   | none => rw [hbk] at this; exact this
   | some q =>
    obtain ⟨b, o', n⟩ := q
    rw [hbk] at this
    obtain ⟨cur, hc, hn, hr⟩ := this
    exact ⟨cur, hc, hn, hr.stay hl⟩
 ·have hid : id = objs.length := by
   have := (List.getElem?_eq_some_iff.1 ho).1
   simp at this; omega
  subst hid
  simp at ho; subst ho
  exact ⟨g.out _ (Nat.le_refl _), fun i g' _ h => stale_app _ h, fun i g' s _ h => .inr ⟨live_app _ h, rfl⟩, fun p hp' => (hp p hp').stay hl⟩
theorem probe_inn {ps : List (AV × Value)} (hp : ∀ p ∈ ps, p.1.inn objs.length = true) (m : Nat) (hm : objs.length <= m) : (probeOf objs L ps).innO m = true := by
 simp only [AObj.innO, Bool.and_eq_true, decide_eq_true_eq]
 exact ⟨hm, List.all_eq_true.2 fun p hp' => inn_mono hm (hp p hp')⟩
theorem fin_probe {w' : World} {L3 : Lay} {base base' : List AObj} {r : AV} {v : Value} {ds : List Deferred} (g : Good { F0 with ds := ds } w0 w' L3 (base' ++ [probeOf base L []])) (hlen : base'.length = base.length) (hb' : (base'.all fun o => o.innO base.length) = true)
 (hv : VR w' L3 (base' ++ [probeOf base L []]) r v) (hr : r.inn base.length = true) : ∃ L', Good F0 w0 w' L' base' /\ Done base L base' L' /\ VR w' L' base' r v := by
 have e : (base' ++ [probeOf base L []]).take base.length = base' := by rw [<- hlen]; exact List.take_left
 have gd := good_drop g base.length (fun o ho => by rw [e] at ho; exact List.all_eq_true.1 hb' o ho)
 rw [e] at gd
 have hpr := g.obj base.length (probeOf base L []) (by rw [<- hlen]; simp)
 obtain ⟨_, p1, p2, _⟩ := hpr
 refine ⟨L3.cut base.length, ⟨gd.obj, gd.out, gd.inj, gd.own, gd.old, gd.ext, gd.gl⟩, ⟨fun id gg h => ?_, fun id gg s h => ?_⟩, ?_⟩
 ·have hlt := stale_lt h
  have := (take_stale hlt).2 (p1 id gg hlt h)
  rwa [e] at this
 ·have hlt := live_lt h
  rcases p2 id gg s hlt h with h1 | ⟨h1, h2⟩
  ·have := (take_stale hlt).2 h1
   rw [e] at this; exact .inl this
  ·have := (take_live hlt).2 h1
   rw [e] at this
   exact .inr ⟨this, (if_pos hlt).trans h2⟩
 ·have := below_vr (L := L3) (L' := L3.cut base.length) (m := base.length) (fun _ h => h) (fun id h => if_pos h) hv hr
  rwa [e] at this
def retM (rs : List CRes) (r : AV) (objs' : List AObj) : Exit -> Est -> Prop
 | .normal, s => ∃ y, resAllE s rs = some y /\ WkE 1 ⟨[(0, y)], s.objs⟩ ⟨[(0, r)], objs'⟩
 | .ret, s => ∃ y, resAllE s rs = some y /\ WkE 1 ⟨[(0, y)], s.objs⟩ ⟨[(0, r)], objs'⟩
 | _, _ => False
theorem keys_env {xs : List AV} {n : Nat} (hn : xs.length <= n) : KeysOk n (envOf 0 xs) := by
 intro t ht
 rw [lk_envOf, if_pos (Nat.zero_le _), List.getD_eq_getElem?_getD, List.getElem?_eq_none (by omega)]; rfl
theorem enter_slots {xs : List AV} {n : Nat} {vs : Array Value} (hl : vs.size = xs.length) (hn : xs.length <= n) (hv : ∀ i (h : i < xs.length) (h2 : i < vs.size), VR w L objs xs[i] vs[i]) :
 ∀ t, t < n -> VR w L objs (lk (envOf 0 xs) t) ((vs ++ Array.replicate (n - vs.size) undef).getD t undef) := by
 intro t ht
 rw [lk_envOf, if_pos (Nat.zero_le _), Nat.sub_zero, List.getD_eq_getElem?_getD]
 by_cases hlt : t < xs.length
 ·rw [List.getElem?_eq_getElem hlt, Array.getD_eq_getD_getElem?, Array.getElem?_append_left (by omega), Array.getElem?_eq_getElem (by omega)]
  exact hv t hlt (by omega)
 ·rw [List.getElem?_eq_none (by omega)]
  exact .junk _
theorem resAllE_eq {s : Est} {n : Nat} (hk : KeysOk n s.env) (rs : List CRes) : resAll (s.toSt n) rs = resAllE s rs := by
 have hr : ∀ x, resA (s.toSt n) x = resE s x := by
  intro x
  cases x with
  | tmp t => simp only [resA, resE]; rw [show (s.toSt n).tmps = toT n s.env from rfl, toT_getD hk]
  | cell a ag m => simp only [resA, resE]; rw [show (s.toSt n).tmps = toT n s.env from rfl, toT_getD hk]; rfl
 unfold resAll resAllE
 rw [show resA (s.toSt n) = resE s from funext hr]
 cases rs.mapM (resE s) with
 | none => rfl
 | some ys => cases ys with
  | nil => rfl
  | cons y ys => cases ys <;> rfl
theorem wk_one {y r : AV} {objs' : List AObj} (h : WkE 1 ⟨[(0, y)], objs⟩ ⟨[(0, r)], objs'⟩) (g : Good F0 w0 w L objs) {v : Value} (hv : VR w L objs y v) : ∃ L', Good F0 w0 w L' objs' /\ VR w L' objs' r v := by
 have hk : KeysOk 1 [(0, y)] := by
  intro t ht; simp only [lk]; rw [if_neg (by omega)]
 obtain ⟨hk', hw⟩ := h hk
 have hs := hw F0 w0 { tmps := #[v], defers := F0.ds } w (sim_mk (n := 1) (s := ⟨[(0, y)], objs⟩) rfl g rfl fun t ht => by
  obtain rfl : t = 0 := by omega
  exact hv)
 obtain ⟨_, L', g', _, ht⟩ := sim_slots hk' hs
 exact ⟨L', g', ht 0 (by omega)⟩
theorem Good.un {w' : World} {L' : Lay} {objs' : List AObj} {k : Nat} (g : Good F0 w0 w L objs) (g' : Good (inFD F0 L k) w w' L' objs') : Good F0 w0 w' L' objs' := by
 refine ⟨g'.obj, g'.out, g'.inj, fun id b o n hb => ?_, fun b hb => ⟨?_, (g'.old b hb).2⟩, ?_, g'.gl⟩
 ·have h1 := g'.own _ _ _ _ hb
  exact ⟨h1.1, fun hk => h1.2.1 (.inl hk), h1.2.2⟩
 ·rcases (g'.old b hb).1 with h1 | h1
  ·exact (g.old b h1).1
  ·exact .inr fun hk => h1 (.inl hk)
 ·exact ⟨g'.ext.os.trans g.ext.os, g'.ext.tape.trans g.ext.tape, g'.ext.output.trans g.ext.output, Nat.le_trans g.ext.size g'.ext.size, fun b hb => (g'.ext.block b (.inl hb)).trans (g.ext.block b hb), g.ext.lt⟩
theorem mod_all (g : Good F0 w0 w L objs) : Good (inFD F0 L objs.length) w w L objs := by
 refine ⟨g.obj, g.out, g.inj, fun id b o n hbk => ?_, fun b hF => ⟨.inl hF, (g.old b hF).2⟩, Kept.refl fun b hK => ?_, g.gl⟩
 ·have h1 := g.own id b o n hbk
  refine ⟨h1.1, ?_, h1.2.2⟩
  rintro (hk | hk | ⟨id', o', n', hk, hbk'⟩)
  ·exact h1.2.1 hk
  ·exact h1.1 hk
  ·rw [g.out id' hk] at hbk'; cases hbk'
 ·rcases hK with hk | hk | ⟨id', o', n', hk, hbk'⟩
  ·exact Nat.lt_of_lt_of_le (g.ext.lt b hk) g.ext.size
  ·exact (g.old b hk).2
  ·exact (g.own _ _ _ _ hbk').2.2
theorem bodyM {fn : Func} {code : Code} {c : CCode} {rs : List CRes} {xs : List AV} {base base' : List AObj} {r : AV} (hc : compC P code = some c) (hrs : fn.results.toList.mapM (resC P) = some rs) (hn : xs.length <= fn.ntmps) (hlen : base'.length = base.length)
 (hb' : (base'.all fun o => o.innO base.length) = true) (hr : r.inn base.length = true)
 (h : ∀ F0 w0 G, (∀ m, base.length <= m -> G.innO m = true) -> CwpE P F0 w0 fn.ntmps c (retM rs r (base' ++ [G])) ⟨envOf 0 xs, base ++ [G]⟩)
 {vs : Array Value} (g : Good F0 w0 w L base) (hl : vs.size = xs.length) (hv : ∀ i (h : i < xs.length) (h2 : i < vs.size), VR w L base xs[i] vs[i]) :
 code.wpIn (Wf none) 3 P (bodyPostM Fence.wide 3 P fn (OutM F0 w0 L base r base')) { tmps := vs ++ Array.replicate (fn.ntmps - vs.size) undef, defers := [] } w := by
 have gp := good_probe (mod_all g) [] (fun p h => by cases h)
 have hsim : Sim (inFD F0 L base.length) w ((⟨envOf 0 xs, base ++ [probeOf base L []]⟩ : Est).toSt fn.ntmps) { tmps := vs ++ Array.replicate (fn.ntmps - vs.size) undef, defers := [] } w :=
  sim_mk (s := ⟨envOf 0 xs, base ++ [probeOf base L []]⟩) rfl gp (by simp [hl]; omega) (enter_slots hl hn fun i h1 h2 => (hv i h1 h2).stay (later_app w L base _))
 refine wpIn_mono (h (inFD F0 L base.length) w (probeOf base L []) (fun m hm => probe_inn (fun p h => by cases h) m hm) (keys_env hn) _ _ (Mk.refl hsim.lt) none 0 code hc (.inl rfl) _ w hsim) ?_
 rintro e a' w' ⟨F1, w1, hm, st, ⟨s, hq, hk, rfl⟩, hs⟩
 have fin : (∃ y, resAllE s rs = some y /\ WkE 1 ⟨[(0, y)], s.objs⟩ ⟨[(0, r)], base' ++ [probeOf base L []]⟩) -> LeavesInM Fence.wide 3 P fn a'.tmps (OutM F0 w0 L base r base') a'.defers .returning w' := by
  rintro ⟨y, hy, hwk⟩
  refine leavesM (F0 := inFD F0 L base.length) (w0 := w) (fun b hb => (g.old b hb).2) hm hs fun W hsW => ?_
  obtain ⟨hd, L', g', hs1, ht⟩ := hsW
  obtain ⟨v, hv, hvr⟩ := results_ok (P := P) hrs g' hs1 ht (by rw [resAllE_eq hk]; exact hy)
  obtain ⟨L3, g3, hv3⟩ := wk_one hwk g' hvr
  obtain ⟨L4, g4, hd4, hv4⟩ := fin_probe (ds := []) (F0 := inFD F0 L base.length) g3 hlen hb' hv3 hr
  exact ⟨v, hv, v, L4, rfl, g.un g4, hd4, hv4⟩
 cases e with
 | normal => exact fin hq
 | ret => exact fin hq
 | _ => exact hq.elim
theorem fnC_inv {f : FuncId} {c : CCode} {n : Nat} {rs : List CRes} (hf : fnC P f = some (c, n, rs)) : ∃ fn code, P.funcs[f]? = some fn /\ fn.body = some code /\ Enters P f = true /\ compC P code = some c /\ fn.results.toList.mapM (resC P) = some rs /\ fn.ntmps = n := by
 unfold fnC at hf
 split at hf
 rotate_left
 ·cases hf
 rename_i fn hfn
 split at hf
 ·cases hf
 rename_i hname
 split at hf
 rotate_left
 ·cases hf
 rename_i code hbody
 simp only [Option.bind_eq_some_iff, Option.map_eq_some_iff, Prod.mk.injEq] at hf
 obtain ⟨c', hc, rs', hrs, rfl, rfl, rfl⟩ := hf
 exact ⟨fn, code, hfn, hbody, by unfold Enters; rw [hfn]; simp only [hbody, Option.isSome_some, Bool.and_true]; simpa using hname, hc, hrs, rfl⟩
theorem specM {f : FuncId} {c : CCode} {n : Nat} {rs : List CRes} (hf : fnC P f = some (c, n, rs)) {xs : List AV} {base base' : List AObj} {r : AV} (hn : xs.length <= n) (hlen : base'.length = base.length) (hb' : (base'.all fun o => o.innO base.length) = true)
 (hr : r.inn base.length = true) (h : ∀ F0 w0 G, (∀ m, base.length <= m -> G.innO m = true) -> CwpE P F0 w0 n c (retM rs r (base' ++ [G])) ⟨envOf 0 xs, base ++ [G]⟩) : CtrM P f xs base r base' := by
 obtain ⟨fn, code, hfn, hbody, hent, hc, hrs, rfl⟩ := fnC_inv hf
 exact ⟨hent, hlen, fun F0 w0 w L vs hds g hl hv => callsIn_wide.1 (callsIn_of_wp_marks (n := 3) hfn hbody trivial (bodyM hc hrs hn hlen hb' hr h g hl hv))⟩
theorem specN {f : FuncId} {c : CCode} {n : Nat} {rs : List CRes} (hf : fnC P f = some (c, n, rs)) {xs : List AV} {r : AV} {news : List AObj} (hn : xs.length <= n) (hp : (news.all AObj.plain) = true) (hi : (news.all fun o => o.innO news.length) = true) (hr : r.inn news.length = true)
 (h : ∀ F0 w0, CwpE P F0 w0 n c (retM rs r news) ⟨envOf 0 xs, []⟩) : CtrN P f xs r news := by
 obtain ⟨fn, code, hfn, hbody, hent, hc, hrs, rfl⟩ := fnC_inv hf
 refine ⟨hent, hp, hi, hr, fun w F vs hgl hl ht => ?_⟩
 refine callsIn_wide.1 (callsIn_of_wp_marks (n := 3) hfn hbody trivial ?_)
 have g0 : Good ⟨fun b => F b /\ b < w.heap.size, (· < w.heap.size), []⟩ w w ⟨fun b => F b /\ b < w.heap.size, fun _ => none⟩ [] :=
  ⟨fun id o h => by simp at h, fun _ _ => rfl, fun _ _ _ _ _ _ _ h => by simp at h, fun _ _ _ _ h => by simp at h, fun b hb => ⟨.inl hb, hb.2⟩, Kept.refl fun _ h => h, hgl.stay fun b hb hl => ⟨rfl, hb, hl⟩⟩
 have hsim : Sim ⟨fun b => F b /\ b < w.heap.size, (· < w.heap.size), []⟩ w ((⟨envOf 0 xs, []⟩ : Est).toSt fn.ntmps) { tmps := vs ++ Array.replicate (fn.ntmps - vs.size) undef, defers := [] } w :=
  sim_mk (s := ⟨envOf 0 xs, []⟩) rfl g0 (by simp [hl]; omega) (enter_slots hl hn fun i h1 h2 => .tree ((ht i h1 h2).mono fun b hb hbl => ⟨hb, hbl⟩))
 refine wpIn_mono (h ⟨fun b => F b /\ b < w.heap.size, (· < w.heap.size), []⟩ w (keys_env hn) _ _ (Mk.refl hsim.lt) none 0 code hc (.inl rfl) _ w hsim) ?_
 rintro e a' w' ⟨F1, w1, hm, st, ⟨s, hq, hk, rfl⟩, hs⟩
 have fin : (∃ y, resAllE s rs = some y /\ WkE 1 ⟨[(0, y)], s.objs⟩ ⟨[(0, r)], news⟩) -> LeavesInM Fence.wide 3 P fn a'.tmps (fun e w' => ∃ v L', e = Ending.returned v /\ Good ⟨F, (· < w.heap.size), []⟩ w w' L' news /\ VR w' L' news r v) a'.defers .returning w' := by
  rintro ⟨y, hy, hwk⟩
  refine leavesM (F0 := ⟨fun b => F b /\ b < w.heap.size, (· < w.heap.size), []⟩) (fun b (hb : F b /\ b < w.heap.size) => hb.2) hm hs fun W hsW => ?_
  obtain ⟨hd, L', g', hs1, ht'⟩ := hsW
  obtain ⟨v, hv, hvr⟩ := results_ok (P := P) hrs g' hs1 ht' (by rw [resAllE_eq hk]; exact hy)
  obtain ⟨L3, g3, hv3⟩ := wk_one hwk g' hvr
  exact ⟨v, hv, v, L3, rfl, ⟨g3.obj, g3.out, g3.inj, g3.own, fun b hb => ⟨(g3.old b hb).1.imp (fun h => h.1) fun h => h, (g3.old b hb).2⟩, g3.ext, g3.gl⟩, hv3⟩
 cases e with
 | normal => exact fin hq
 | ret => exact fin hq
 | _ => exact hq.elim
end Dak
namespace Dak
open Go Go.RowKit
variable [Globs]
variable {P : Program} {F0 : FD} {w0 w : World} {L : Lay} {objs : List AObj}
theorem not_isC {w : World} {b : Nat} (h : ∃ o : Obj, w.heap[b]? = some o /\ o.isCells = false) : ¬ isC w b := by
 rintro ⟨c, e, f, h2⟩
 obtain ⟨o, h1, h3⟩ := h
 rw [h2] at h1
 cases h1; cases h3
def Lay.cells (L : Lay) (w : World) : Lay := ⟨fun b => L.F b /\ isC w b, L.blk⟩
theorem TR.cells' {F : Nat -> Prop} {x : AV} {v : Value} (h : TR w F x v) : TR w (fun b => F b /\ isC w b) x v := by
 induction h with
 | val v => exact .val v
 | nolist size ad cap h => exact .nolist size ad cap h
 | list size xs b o cap us hF hb hn hm hs' hc h1 hr ih => exact .list size xs b o cap us ⟨hF, hb⟩ hb hn hm hs' hc h1 ih
 | agg cs vs hl h1 hr ih => exact .agg cs vs hl h1 ih
 | tup cs vs hl hr ih => exact .tup cs vs hl ih
 | ptr cs b o us hF hb hc h1 hr ih => exact .ptr cs b o us ⟨hF, hb⟩ hb hc h1 ih
 | clo fn cs vs hl hr ih => exact .clo fn cs vs hl ih
 | emp ad => exact .emp ad
 | anyB b => exact .anyB b
theorem VR.cells' {x : AV} {v : Value} (h : VR w L objs x v) : VR w (L.cells w) objs x v := by
 induction h with
 | tree h => exact .tree h.cells'
 | junk v => exact .junk v
 | ownS id gen off len v h => exact .ownS _ _ _ _ _ h
 | ownN id gen off ad s h => exact .ownN _ _ _ _ s h
 | ownL id gen off len cap s b o n h hn hc hm hr => exact .ownL _ _ _ _ _ _ _ _ _ h hn hc hm hr
 | refS id gen el c v h => exact .refS _ _ _ _ _ h
 | refL id gen el c s b o n h hn => exact .refL _ _ _ _ _ _ _ _ h hn
 | agg cs vs hl h1 hr ih => exact .agg cs vs hl h1 ih
 | tup cs vs hl hr ih => exact .tup cs vs hl ih
 | clo fn cs vs hl hr ih => exact .clo fn cs vs hl ih
theorem Good.cells' (g : Good F0 w0 w L objs) : Good F0 w0 w (L.cells w) objs := by
 refine ⟨fun id o ho => ?_, g.out, g.inj, fun id b o n hb => ?_, fun b hb => g.old b hb.1, g.ext, fun i hi => ?_⟩
 ·have := g.obj id o ho
  cases o with
  | void => exact this
  | dead => exact this
  | probe k st li bk ps => exact ⟨this.1, this.2.1, this.2.2.1, fun p hp => (this.2.2.2 p hp).cells'⟩
  | arr gen size elem xs =>
   unfold OR at this ⊢
   show match L.blk id with | none => _ | some (b, o, n) => _
   cases hbk : L.blk id with
   | none => rw [hbk] at this; exact this
   | some q =>
    obtain ⟨b, o', n⟩ := q
    rw [hbk] at this
    obtain ⟨cur, hc, hn, hr⟩ := this
    exact ⟨cur, hc, hn, hr.1, fun i hi => ⟨(hr.2 i hi).1, fun j hj => let ⟨u, h1, h2, h3⟩ := (hr.2 i hi).2 j hj; ⟨u, h1, h2, h3.cells'⟩⟩⟩
 ·have := g.own id b o n hb
  exact ⟨fun h => this.1 h.1, this.2⟩
 ·obtain ⟨h1, h2, h3⟩ := g.gl i hi
  exact ⟨⟨h1, isC.of_cell (h3 0 (List.length_pos_iff.2 hi)).1⟩, h2, h3⟩
theorem Good.blkC (g : Good F0 w0 w L objs) {id b o n : Nat} (h : L.blk id = some (b, o, n)) : isC w b := by
 by_cases hlt : id < objs.length
 ·have := g.obj id _ (List.getElem?_eq_getElem hlt)
  cases he : objs[id] with
  | void => rw [he] at this; unfold OR at this; rw [this] at h; cases h
  | dead => rw [he] at this; unfold OR at this; rw [this] at h; cases h
  | probe k st li bk ps => rw [he] at this; rw [this.1] at h; cases h
  | arr gen size elem xs =>
   rw [he] at this
   unfold OR at this
   rw [h] at this
   obtain ⟨cur, hc, _⟩ := this
   exact ⟨_, _, _, hc⟩
 ·rw [g.out id (by omega)] at h; cases h
theorem Good.turn {W W' : World} {row : Option Nat} (g : Good F0 w0 W L objs) (hF : ∀ b, L.F b -> isC W b) (hg : W.grownBy W' row) (hr : ∀ r, row = some r -> ¬ F0.K r /\ ¬ isC W r) : Good F0 w0 W' L objs /\ (∀ b, L.F b -> isC W' b) := by
 have same : ∀ b, isC W b -> W'.heap[b]? = W.heap[b]? := fun b hb => hg.block b hb.lt fun e => (hr b e.symm).2 hb
 have hl : Later W L objs W' L objs := ⟨fun b hb _ => ⟨same b (hF b hb), hb⟩, fun _ _ h => h, fun _ _ _ h => .inr ⟨h, rfl⟩⟩
 refine ⟨⟨fun id o ho => ?_, g.out, g.inj, fun id b o n hb => ?_, fun b hb => ?_, ?_, g.gl.stay hl.wk⟩, fun b hb => (hF b hb).stay (same b (hF b hb))⟩
 ·have := g.obj id o ho
  cases o with
  | void => exact this
  | dead => exact this
  | probe k st li bk ps => exact this.probe_stay hl rfl
  | arr gen size elem xs =>
   unfold OR at this ⊢
   cases hbk : L.blk id with
   | none => rw [hbk] at this; exact this
   | some q =>
    obtain ⟨b, o', n⟩ := q
    rw [hbk] at this
    obtain ⟨cur, hc, hn, hr⟩ := this
    exact ⟨cur, (same b ⟨_, _, _, hc⟩).trans hc, hn, hr.stay hl⟩
 ·have := g.own _ _ _ _ hb
  exact ⟨this.1, this.2.1, Nat.lt_of_lt_of_le this.2.2 hg.size⟩
 ·have := g.old b hb
  exact ⟨this.1, Nat.lt_of_lt_of_le this.2 hg.size⟩
 ·refine ⟨hg.os.trans g.ext.os, hg.tape.trans g.ext.tape, hg.output.trans g.ext.output, Nat.le_trans g.ext.size hg.size, fun b hb => ?_, g.ext.lt⟩
  have hlt : b < W.heap.size := Nat.lt_of_lt_of_le (g.ext.lt b hb) g.ext.size
  exact (hg.block b hlt fun e => (hr b e.symm).1 hb).trans (g.ext.block b hb)
theorem Good.more (g : Good F0 w0 w L objs) (K : Nat -> Prop) (hK : ∀ b, K b -> b < w.heap.size /\ ¬ isC w b) : Good ⟨L.F, fun b => F0.K b \/ K b, []⟩ w w L objs := by
 refine ⟨g.obj, g.out, g.inj, fun id b o n hb => ?_, fun b hb => ⟨.inl hb, (g.old b hb).2⟩, Kept.refl fun b hb => ?_, g.gl⟩
 ·have := g.own _ _ _ _ hb
  exact ⟨this.1, fun h => h.elim this.2.1 fun h => (hK b h).2 (g.blkC hb), this.2.2⟩
 ·rcases hb with hb | hb
  ·exact Nat.lt_of_lt_of_le (g.ext.lt b hb) g.ext.size
  ·exact (hK b hb).1
theorem Good.less {w' : World} {L' : Lay} {objs' : List AObj} {K : Nat -> Prop} (g : Good F0 w0 w L objs) (g' : Good ⟨L.F, fun b => F0.K b \/ K b, []⟩ w w' L' objs') : Good F0 w0 w' L' objs' := by
 refine ⟨g'.obj, g'.out, g'.inj, fun id b o n hb => ?_, fun b hb => ⟨?_, (g'.old b hb).2⟩, ?_, g'.gl⟩
 ·have h1 := g'.own _ _ _ _ hb
  exact ⟨h1.1, fun hk => h1.2.1 (.inl hk), h1.2.2⟩
 ·rcases (g'.old b hb).1 with h1 | h1
  ·exact (g.old b h1).1
  ·exact .inr fun hk => h1 (.inl hk)
 ·exact ⟨g'.ext.os.trans g.ext.os, g'.ext.tape.trans g.ext.tape, g'.ext.output.trans g.ext.output, Nat.le_trans g.ext.size g'.ext.size, fun b hb => (g'.ext.block b (.inl hb)).trans (g.ext.block b hb), g.ext.lt⟩
def movA (mv : List (Nat × Operand)) (a : Act) : Act := mv.foldl (fun a p => a.put (some p.1) (a.eval p.2)) a
theorem movs_ok {m : Nat} {r : Option Nat} {c : Code} {mv : List (Nat × Operand)} (h : movsOf c = some mv) {a : Act} {W : World} {K : Act -> World -> Prop} (hK : K (movA mv a) W) :
 c.wpIn (Wf r) m P (Exit.then K (fun _ _ _ => False)) a W := by
 cases c with
 | skip =>
  simp only [movsOf, Option.some.injEq] at h; subst h
  exact wpIn_skip hK
 | region id ops d =>
  cases d with
  | true => simp [movsOf] at h
  | false =>
   simp only [movsOf] at h
   refine wpIn_region ?_
   have key : ∀ (l : List Oper) (mv : List (Nat × Operand)) (k : Nat) (a : Act), (∀ j, l[j]? = ops[k + j]?) -> l.mapM movOf = some mv -> K (movA mv a) W -> wpOpsIn (Wf r) m P ops (Exit.then K (fun _ _ _ => False)) (List.range' k l.length) a W := by
    intro l
    induction l with
    | nil =>
     intro mv k a _ hm hK
     simp at hm; subst hm
     exact hK
    | cons o l ih =>
     intro mv k a hl hm hK
     simp only [List.mapM_cons, Option.bind_eq_bind, Option.bind_eq_some_iff, Option.pure_def, Option.some.injEq] at hm
     obtain ⟨q, hq, mv', hmv, rfl⟩ := hm
     have h0 : ops[k]? = some o := by simpa using (hl 0).symm
     have hl' : ∀ j, l[j]? = ops[k + 1 + j]? := fun j => by have := hl (j + 1); simpa [Nat.add_assoc, Nat.add_comm 1 j] using this
     simp only [List.length_cons, List.range'_succ, wpOpsIn, h0]
     obtain ⟨dst, op, type, pos, after, guard⟩ := o
     have hg : guard = none := by
      simp only [movOf] at hq
      split at hq <;> first | rfl | cases hq | (rename_i hh; exact hh)
     subst hg
     have hw : Region.wanted (⟨dst, op, type, pos, after, none⟩ : Oper) (yielded ops a.tmps) = true := rfl
     rw [if_pos hw]
     refine oper_in (fun c hc => ?_) ?_
     ·simp only at hc; subst hc; simp [movOf] at hq
     have hx : dst = some q.1 /\ (op = .assign q.2 \/ op = .move q.2) := by
      simp only [movOf] at hq
      split at hq
      ·cases hq; exact ⟨rfl, .inl rfl⟩
      ·cases hq; exact ⟨rfl, .inr rfl⟩
      ·cases hq
     obtain ⟨rfl, hop⟩ := hx
     have hrun : (execOp a.eval (⟨some q.1, op, type, pos, after, none⟩ : Oper)).run P W = .ok (.value (a.eval q.2)) W := by
      rcases hop with rfl | rfl <;> rfl
     unfold Oper.wp
     rw [hrun, Oper.upon_value]
     exact ih _ _ _ hl' hmv hK
   have := key ops.toList mv 0 a (fun j => by simp) h hK
   rw [<- List.range_eq_range'] at this
   simpa using this
 | _ => simp [movsOf] at h
def movE (mv : List (Nat × Operand)) (env : List (Nat × AV)) : List (Nat × AV) := mv.foldl (fun env p => putE env (some p.1) (evE env p.2)) env
def parE (ps : List Nat) (xs : List AV) (env : List (Nat × AV)) : List (Nat × AV) := (ps.zip xs).foldl (fun env p => putE env (some p.1) p.2) env
def KpF (F : Nat -> Prop) (W W' : World) : Prop := ∀ b, F b -> W'.heap[b]? = W.heap[b]?
def SeqA (P : Program) (gf : FuncId) (caps : List AV) (m : Nat) (xs : List (List AV)) : Prop :=
 Enters P gf = true /\ (∀ x ∈ xs, x.length = m) /\ ∀ (w : World) (F : Nat -> Prop) (vs : Array Value), GlOk w F -> (∀ b, F b -> b < w.heap.size) -> vs.size = caps.length -> (∀ i (h : i < caps.length) (h2 : i < vs.size), TR w F caps[i] vs[i]) ->
  ∃ encs : Fin xs.length -> Array Value, (∀ k, (encs k).size = m /\ ∀ i (h : i < xs[k].length) (h2 : i < (encs k).size), TR w F xs[k][i] (encs k)[i]) /\
   ∀ n, SeqStopsK Fence.wide (n + 2) P gf vs encs (KpF F) (fun l => l = List.finRange xs.length) (fun l => ∃ k, l = (List.finRange xs.length).take k) xs.length w
def postRF {α : Type} (n k : Nat) (G : AObj) (I : List AObj -> Prop) (E : Exit -> List AObj -> Prop) (_ : α) : Exit -> Est -> Prop
 | .normal, s => ∃ o, o.length = k /\ WkE n s ⟨[], o ++ [G]⟩ /\ I o
 | .ret, s => ∃ o, o.length = k /\ WkE n s ⟨[], o ++ [G]⟩ /\ E .ret o
 | .exit id, s => ∃ o, o.length = k /\ WkE n s ⟨[], o ++ [G]⟩ /\ E (.exit id) o
 | _, _ => False
theorem slots_mov {n : Nat} {env : List (Nat × AV)} {a : Act} (hk : KeysOk n env) (hg : GlOk w L.F) (hs : a.tmps.size = n) (ht : ∀ t, t < n -> VR w L objs (lk env t) (a.tmps.getD t undef)) : ∀ (mv : List (Nat × Operand)), (mv.all fun p => decide (p.1 < n)) = true ->
 KeysOk n (movE mv env) /\ (movA mv a).defers = a.defers /\ (movA mv a).tmps.size = n /\ ∀ t, t < n -> VR w L objs (lk (movE mv env) t) ((movA mv a).tmps.getD t undef)
 | mv, h => by
  induction mv generalizing env a with
  | nil => exact ⟨hk, rfl, hs, ht⟩
  | cons p mv ih =>
   simp only [List.all_cons, Bool.and_eq_true, decide_eq_true_eq] at h
   have hv : VR w L objs (evE env p.2) (a.eval p.2) := by
    have := ev_ok (objs := objs) (w := w) (L := L) (tmps := toT n env) (a := a) hg (by simp [toT, hs]) (fun t ht' => by
     have ht2 : t < n := by simpa [toT] using ht'
     simpa [toT] using ht t ht2) p.2
    rwa [congrFun (ev_toT hk) p.2] at this
   exact ih (env := putE env (some p.1) (evE env p.2)) (a := a.put (some p.1) (a.eval p.2)) (keys_put hk (by simpa [okD] using h.1) _) (by simp [Act.put, hs]) (fun t ht' => by
    simp only [putE, lk, Act.put]
    split
    ·rename_i e; subst e
     rw [Array.getD_eq_getD_getElem?, Array.getElem?_setIfInBounds]
     simp [hs, h.1]; exact hv
    ·rename_i e
     rw [Array.getD_eq_getD_getElem?, Array.getElem?_setIfInBounds_ne e, <- Array.getD_eq_getD_getElem?]
     exact ht t ht') h.2
theorem slots_par {n : Nat} : ∀ (ps : List Nat) (xs : List AV) (vs : List Value) {env : List (Nat × AV)} {tmps : Array Value}, KeysOk n env -> tmps.size = n -> (∀ t, t < n -> VR w L objs (lk env t) (tmps.getD t undef)) -> (ps.all fun p => decide (p < n)) = true ->
 vs.length = xs.length -> (∀ i (h : i < xs.length) (h2 : i < vs.length), VR w L objs xs[i] vs[i]) ->
 KeysOk n (parE ps xs env) /\ ((ps.zip vs).foldl (fun t (p, v) => t.setIfInBounds p v) tmps).size = n /\ ∀ t, t < n -> VR w L objs (lk (parE ps xs env) t) (((ps.zip vs).foldl (fun t (p, v) => t.setIfInBounds p v) tmps).getD t undef)
 | [], xs, vs, env, tmps, hk, hs, ht, _, _, _ => ⟨hk, hs, ht⟩
 | p :: ps, [], vs, env, tmps, hk, hs, ht, _, hl, _ => by
  have : vs = [] := List.eq_nil_of_length_eq_zero (by simpa using hl)
  subst this
  exact ⟨hk, hs, ht⟩
 | p :: ps, x :: xs, [], env, tmps, hk, hs, ht, _, hl, _ => by simp at hl
 | p :: ps, x :: xs, v :: vs, env, tmps, hk, hs, ht, hp, hl, hv => by
  simp only [List.all_cons, Bool.and_eq_true, decide_eq_true_eq] at hp
  refine slots_par ps xs vs (env := putE env (some p) x) (tmps := tmps.setIfInBounds p v) (keys_put hk (by simpa [okD] using hp.1) _) (by simp [hs]) (fun t ht' => ?_) hp.2 (by simpa using hl) fun i h1 h2 => ?_
  ·simp only [putE, lk]
   split
   ·rename_i e; subst e
    rw [Array.getD_eq_getD_getElem?, Array.getElem?_setIfInBounds]
    simp [hs, hp.1]; exact hv 0 (by simp) (by simp)
   ·rename_i e
    rw [Array.getD_eq_getD_getElem?, Array.getElem?_setIfInBounds_ne e, <- Array.getD_eq_getD_getElem?]
    exact ht t ht'
  ·have := hv (i + 1) (by simpa using h1) (by simpa using h2)
   simpa using this
theorem wpIn_anyN {r : Option Nat} {n m : Nat} {c : Code} {Q : Exit -> Act -> World -> Prop} {a : Act} {w : World} (h : c.wpIn (Wf r) n P Q a w) : c.wpIn (Wf r) m P Q a w := fun b k cs h1 h2 h3 => h b k cs h1 h2 (fun _ h => by simp [Fence.wide] at h)
theorem CwpE.rangeF {n : Nat} {g : Operand} {ps : List Nat} {mv : List (Nat × Operand)} {b : CCode} {Q : Exit -> Est -> Prop} {env : List (Nat × AV)} {gf : FuncId} {caps : List AV} {xs : List (List AV)}
 (hg : evE env g = .clo (.func gf) caps) (hcap : (caps.all AV.isT) = true) (hseq : SeqA P gf caps ps.length xs) (hin : ∀ t, (lk env t).inn objs.length = true) (hxin : (xs.all fun x => x.all fun y => y.inn objs.length) = true)
 (hps : (ps.all fun p => decide (p < n)) = true) (hmv : (mv.all fun p => decide (p.1 < n)) = true) (hb : b.noRF = true)
 (I : List (Fin xs.length) -> List AObj -> Prop) (E : List (Fin xs.length) -> Exit -> List AObj -> Prop) (h0 : I [] objs)
 (round : ∀ FR WR G (pre : List (Fin xs.length)) (x : Fin xs.length) (o : List AObj), (∀ m, objs.length <= m -> G.innO m = true) -> I pre o -> o.length = objs.length -> pre.length < xs.length ->
  CwpE P FR WR n b (postRF n objs.length G (I (pre ++ [x])) (E (pre ++ [x])) ()) ⟨movE mv (parE ps xs[x] env), o ++ [G]⟩)
 (done : ∀ G o, (∀ m, objs.length <= m -> G.innO m = true) -> I (List.finRange xs.length) o -> o.length = objs.length -> Q .normal ⟨env, o ++ [G]⟩)
 (stop : ∀ G o e k, (∀ m, objs.length <= m -> G.innO m = true) -> E ((List.finRange xs.length).take k) e o -> o.length = objs.length -> Q e ⟨env, o ++ [G]⟩) :
 CwpE P F0 w0 n (.rangeF g ps mv b) Q ⟨env, objs⟩ := by
 intro hk F1 w1 hm1 r rn code hc hro a w hs
 obtain rfl : r = none := hro.elim id fun h => by simp [CCode.noRF] at h
 cases code with
 | rangeFunc g' ps' assign body =>
  simp only [compC, Option.bind_eq_some_iff, Option.map_eq_some_iff, CCode.rangeF.injEq] at hc
  obtain ⟨mv', hmvs, b', hbody, rfl, rfl, rfl, rfl⟩ := hc
  obtain ⟨hd, L0, g0, hsz, ht0⟩ := sim_slots hk hs
  have gS := g0.cells'
  have ht : ∀ t, t < n -> VR w (L0.cells w) objs (lk env t) (a.tmps.getD t undef) := fun t h => (ht0 t h).cells'
  clear ht0
  have hFC : ∀ b, (L0.cells w).F b -> isC w b := fun b h => h.2
  generalize hL1 : L0.cells w = L1 at gS ht hFC
  have hgv : VR w L1 objs (.clo (.func gf) caps) (a.eval g') := by
   have := ev_ok (objs := objs) (w := w) (L := L1) (tmps := toT n env) (a := a) gS.gl (by simp [toT, hsz]) (fun t ht' => by
    have ht2 : t < n := by simpa [toT] using ht'
    simpa [toT] using ht t ht2) g'
   rw [congrFun (ev_toT hk) g', hg] at this
   exact this
  obtain ⟨lb, hlb, hlbs, hlbv⟩ := hgv.clo_inv
  obtain ⟨hent, hxm, hsq⟩ := hseq
  obtain ⟨encs, henc, hstops⟩ := hsq w L1.F lb gS.gl (fun b hb => (gS.old b hb).2) hlbs fun i h h2 => isT_ok (hlbv i h h2) (List.all_eq_true.1 hcap _ (List.getElem_mem _))
  let ps0 : List (AV × Value) := ((List.range n).map fun t => (lk env t, a.tmps.getD t undef)) ++ (List.finRange xs.length).flatMap fun k => (xs[k].zip (encs k).toList)
  have hps0 : ∀ p ∈ ps0, VR w L1 objs p.1 p.2 := by
   intro p hp
   rcases List.mem_append.1 hp with hp | hp
   ·obtain ⟨t, ht', rfl⟩ := List.mem_map.1 hp
    exact ht t (List.mem_range.1 ht')
   ·obtain ⟨k, _, hp⟩ := List.mem_flatMap.1 hp
    obtain ⟨i, hi, rfl⟩ := List.getElem_of_mem hp
    have hi' := hi
    rw [List.length_zip] at hi'
    simp only [List.getElem_zip, Array.getElem_toList]
    exact .tree ((henc k).2 i (by omega) (by simp at hi'; omega))
  have hinn : ∀ p ∈ ps0, p.1.inn objs.length = true := by
   intro p hp
   rcases List.mem_append.1 hp with hp | hp
   ·obtain ⟨t, ht', rfl⟩ := List.mem_map.1 hp
    exact hin t
   ·obtain ⟨k, _, hp⟩ := List.mem_flatMap.1 hp
    have := (List.of_mem_zip (a := p.1) (b := p.2) hp).1
    exact List.all_eq_true.1 (List.all_eq_true.1 hxin _ (List.getElem_mem k.isLt)) _ this
  have hGinn : ∀ m, objs.length <= m -> (probeOf objs L1 ps0).innO m = true := fun m hm => probe_inn hinn m hm
  have gA := mod_all (good_probe gS ps0 hps0)
  generalize hG : probeOf objs L1 ps0 = G at gA hGinn
  have hprobe : ∀ {W : World} {L : Lay} {o : List AObj} {F : FD} {W0 : World}, o.length = objs.length -> Good F W0 W L (o ++ [G]) -> ∀ p ∈ ps0, VR W L (o ++ [G]) p.1 p.2 := by
   intro W L o F W0 ho gg p hp
   have := gg.obj objs.length G (by rw [<- ho]; simp)
   rw [<- hG] at this
   have := this.2.2.2 p hp
   rw [hG] at this
   exact this
  let FA : FD := inFD F1 L1 (objs ++ [G]).length
  have gA : Good FA w w L1 (objs ++ [G]) := gA
  let I' : List (Fin xs.length) -> World -> Prop := fun pre W => ∃ o L, I pre o /\ o.length = objs.length /\ Good FA w W L (o ++ [G]) /\ ∀ b, L.F b -> isC W b
  let Ix : Code -> List (Fin xs.length) -> World -> Prop := fun c pre W => ∃ e, ((c = .ret /\ e = .ret) \/ ∃ id, c = .exit id /\ e = .exit id) /\ ∃ o L, E pre e o /\ o.length = objs.length /\ Good FA w W L (o ++ [G]) /\ ∀ b, L.F b -> isC W b
  have hKB : ∀ b, FA.K b -> b < w.heap.size := gA.ext.lt
  have fin : ∀ (D : Nat) (o : List AObj) (L : Lay) (W : World) (e : Exit), w.heap.size <= D -> o.length = objs.length -> Good FA w W L (o ++ [G]) -> (∀ b, L.F b -> isC W b) -> W.heap[D]? = some (.deferred (some [])) -> Q e ⟨env, o ++ [G]⟩ ->
   LiftM F1 w1 (LiftX n Q) e { a with defers := { target := .collected D, args := #[] } :: a.defers } W := by
   intro D o L W e hD ho gW hF hdf hQ
   have g1 : Good F1 w1 W L (o ++ [G]) := Good.un gS gW
   have hnD : ¬ isC W D := not_isC ⟨_, hdf, rfl⟩
   have hKD : ¬ F1.K D := fun h => by
    have h1 := gS.ext.lt D h
    have h2 := gS.ext.size
    omega
   refine ⟨⟨F1.F, fun b => F1.K b \/ b = D, mark D :: F1.ds⟩, W, ⟨rfl, g1.ext, [D], rfl, by simp, fun b => by simp, fun D' h => ?_⟩, _, ⟨⟨env, o ++ [G]⟩, hQ, hk, rfl⟩, ?_⟩
   ·obtain rfl : D' = D := by simpa using h
    exact ⟨hdf, hKD, Nat.le_trans gS.ext.size hD⟩
   ·refine sim_mk (s := ⟨env, o ++ [G]⟩) (L := L) (by show _ :: _ = _ :: _; rw [hd]; rfl) ⟨g1.obj, g1.out, g1.inj, fun id b o' n' hb => ?_, fun b hb => ⟨?_, (g1.old b hb).2⟩, ?_, g1.gl⟩ hsz fun t ht' => hprobe ho gW (lk env t, a.tmps.getD t undef) (List.mem_append_left _ (List.mem_map.2 ⟨t, List.mem_range.2 ht', rfl⟩))
    ·have := g1.own _ _ _ _ hb
     exact ⟨this.1, fun h => h.elim this.2.1 fun e => hnD (e ▸ gW.blkC hb), this.2.2⟩
    ·rcases (g1.old b hb).1 with h1 | h1
     ·exact .inl h1
     ·exact .inr fun h => h.elim h1 fun e => hnD (e ▸ hF b hb)
    ·exact Kept.refl fun b hb => by
      rcases hb with hb | rfl
      ·exact Nat.lt_of_lt_of_le (gS.ext.lt b hb) (Nat.le_trans gS.ext.size gW.ext.size)
      ·exact (Array.getElem?_eq_some_iff.1 hdf).1
  refine wpIn_rangeFunc_ownF (α := Fin xs.length) (N := xs.length) (w0 := w) rfl (by omega) hlb trivial (fun args w => run_callFunc hent args w) (hstops rn) (fun {A B C} h k b hb => (k b hb).trans (h b hb))
   (fun W l o o' hl _ _ _ b hb => World.putObj_heap_other (fun e => ?_)) (Below.refl _ _) (fun x => ?_) I' Ix ?_ ?_ ⟨objs, L1, h0, rfl, gA, hFC⟩
   (fun x => movA mv' { tmps := (ps'.zip (encs x)).foldl (fun t (p, v) => t.setIfInBounds p v) a.tmps, defers := [] }) ?_ ?_ ?_ ?_
  ·have := (gS.old b hb).2
   omega
  ·rw [(henc x).1]; simp
  ·rintro pre W W' row ⟨o, L, h1, h2, h3, h4⟩ hgr hr
   have := h3.turn h4 hgr fun r hrr => ⟨fun hk' => by have h5 := hKB r hk'; have h6 := (hr r hrr).1; omega, not_isC (hr r hrr).2⟩
   exact ⟨o, L, h1, h2, this.1, this.2⟩
  ·rintro c pre W W' row ⟨e, he, o, L, h1, h2, h3, h4⟩ hgr hr
   have := h3.turn h4 hgr fun r hrr => ⟨fun hk' => by have h5 := hKB r hk'; have h6 := (hr r hrr).1; omega, not_isC (hr r hrr).2⟩
   exact ⟨e, he, o, L, h1, h2, this.1, this.2⟩
  ·intro l x W K hK
   exact movs_ok hmvs hK
  ·rintro l pre x W ⟨o, L, h1, h2, h3, h4⟩ hlen
   have gR := h3.more (fun b => b < W.heap.size /\ ¬ isC W b) fun b hb => hb
   have hpv := hprobe h2 gR
   obtain ⟨k1, s1, v1⟩ := slots_par (w := W) (L := L) (objs := o ++ [G]) ps'.toList xs[x] (encs x).toList (env := env) (tmps := a.tmps) hk hsz (fun t ht' => hpv (lk env t, a.tmps.getD t undef) (List.mem_append_left _ (List.mem_map.2 ⟨t, List.mem_range.2 ht', rfl⟩))) hps
    (by rw [Array.length_toList, (henc x).1]; exact (hxm _ (List.getElem_mem x.isLt)).symm) fun i hi h2 => hpv (xs[x][i], (encs x).toList[i]) (List.mem_append_right _ (List.mem_flatMap.2 ⟨x, List.mem_finRange x, by
     rw [<- List.getElem_zip (l := xs[x]) (l' := (encs x).toList) (h := by rw [List.length_zip]; exact Nat.lt_min.2 ⟨hi, h2⟩)]
     exact List.getElem_mem _⟩))
   have hfold : (ps'.zip (encs x)).foldl (fun t (p, v) => t.setIfInBounds p v) a.tmps = (ps'.toList.zip (encs x).toList).foldl (fun t (p, v) => t.setIfInBounds p v) a.tmps := by
    rw [<- Array.foldl_toList, Array.toList_zip]
   rw [hfold]
   obtain ⟨k2, d2, s2, v2⟩ := slots_mov (a := { tmps := (ps'.toList.zip (encs x).toList).foldl (fun t (p, v) => t.setIfInBounds p v) a.tmps, defers := [] }) k1 gR.gl s1 v1 mv' hmv
   have hsim := sim_mk (s := ⟨movE mv' (parE ps'.toList xs[x] env), o ++ [G]⟩) d2 gR s2 v2
   have hrun := round _ W G pre x o hGinn h1 h2 hlen k2 _ _ (Mk.refl hsim.lt) (some l) 0 _ hbody (.inr hb) _ W hsim
   refine wpIn_mono (wpIn_anyN hrun) ?_
   rintro e a2 W2 ⟨F2, w2, hm2, st, ⟨s, hq, hk2, rfl⟩, hs2⟩
   have out : ∀ {o2 : List AObj}, WkE n s ⟨[], o2 ++ [G]⟩ -> KeepsOthers W W2 /\ KpF L1.F W W2 /\ ∃ L, Good FA w W2 L (o2 ++ [G]) /\ ∀ b, L.F b -> isC W2 b := by
    intro o2 hwk
    obtain ⟨hk3, hw3⟩ := hwk hk2
    obtain ⟨_, L3, g3, _, _⟩ := sim_slots hk3 (hw3 _ _ _ _ hs2)
    have g4 := g3.back hm2
    refine ⟨⟨g4.ext.size, fun k ob hk' hc' => ?_⟩, fun b hb' => ?_, L3.cells W2, (h3.less g4).cells', fun b hb' => hb'.2⟩
    ·exact (g4.ext.block k (.inr ⟨(Array.getElem?_eq_some_iff.1 hk').1, not_isC ⟨ob, hk', hc'⟩⟩)).trans hk'
    ·exact g4.ext.block b (.inl (.inr (.inl hb')))
   cases e with
   | normal =>
    obtain ⟨o2, ho2, hwk, hI⟩ := hq
    obtain ⟨q1, q2, L5, q3, q4⟩ := out hwk
    exact ⟨q1, q2, o2, L5, hI, ho2, q3, q4⟩
   | ret =>
    obtain ⟨o2, ho2, hwk, hI⟩ := hq
    obtain ⟨q1, q2, L5, q3, q4⟩ := out hwk
    exact ⟨q1, .ret, .inl ⟨rfl, rfl⟩, o2, L5, hI, ho2, q3, q4⟩
   | exit id =>
    obtain ⟨o2, ho2, hwk, hI⟩ := hq
    obtain ⟨q1, q2, L5, q3, q4⟩ := out hwk
    exact ⟨q1, .exit id, .inr ⟨id, rfl, rfl⟩, o2, L5, hI, ho2, q3, q4⟩
   | _ => exact hq.elim
  ·rintro D pre W hD rfl ⟨o, L, h1, h2, h3, h4⟩ hdf
   exact fin D o L W .normal hD h2 h3 h4 hdf (done G o hGinn h1 h2)
  ·rintro D c pre W hD ⟨k, rfl⟩ ⟨e, he, o, L, h1, h2, h3, h4⟩ hdf
   have hq := fin D o L W e hD h2 h3 h4 hdf (stop G o e k hGinn h1 h2)
   rcases he with ⟨rfl, rfl⟩ | ⟨id, rfl, rfl⟩
   ·exact wpIn_ret hq
   ·exact wpIn_exit hq
 | region id ops d => rcases compC_reg hc with ⟨_, _, h⟩ | ⟨_, _, h⟩ | ⟨_, _, _, h⟩ <;> cases h
 | _ => simp [compC, Option.bind_eq_some_iff] at hc
end Dak
namespace Go.Proofs.YtnncijjkbonokaaDoor
open Dak
abbrev oo (d : Nat) (c : COp) : COper := ⟨some d, none, c⟩
abbrev vv (d t : Nat) : COper := ⟨some d, none, .mov (.tmp t)⟩
abbrev nn (c : COp) : COper := ⟨none, none, c⟩
abbrev gt (d t : Nat) (c : COp) : COper := ⟨some d, some (t, true), c⟩
abbrev gf (d t : Nat) (c : COp) : COper := ⟨some d, some (t, false), c⟩
abbrev vt (d t s : Nat) : COper := ⟨some d, some (t, true), .mov (.tmp s)⟩
abbrev vf (d t s : Nat) : COper := ⟨some d, some (t, false), .mov (.tmp s)⟩
abbrev kk (n : Int) : Operand := .const (.int .i64 n)
def c10 : CCode :=
 (.seq (.region [oo 2 (.alloc 25 (.agg [(.val (.slice none 0 0))]))])
 (.seq (.region [oo 3 (.alloc 25 (.agg [(.val (.slice none 0 0))]))])
 (.seq (.region [vv 9 0, oo 10 (.call (.func 33) [(T 9), (kk 0), (kk 2)]), oo 11 (.ibin .add (kk 1) (T 10)), vv 4 11])
 (.seq (.region [vv 12 0, oo 13 (.call (.func 33) [(T 12), (kk 1), (kk 4)]), oo 14 (.ibin .add (kk 1) (T 13)), vv 5 14])
 (.seq (.seq (.region [oo 6 (.mov (kk 0))])
 (.block 0 (.loop
 (.seq (.seq (.region [vv 15 6, vv 16 4, oo 17 (.ibin .lss (T 15) (T 16))])
 (.cond (T 17)
 .skip
 (.exit 0)))
 (.seq (.block 1 (.seq (.region [oo 7 (.mov (.const (.slice none 0 0)))])
 (.seq (.seq (.region [oo 8 (.mov (kk 0))])
 (.block 2 (.loop
 (.seq (.seq (.region [vv 20 8, vv 21 5, oo 22 (.ibin .lss (T 20) (T 21))])
 (.cond (T 22)
 .skip
 (.exit 2)))
 (.seq (.block 3 (.region [vv 25 7, vv 26 0, vv 27 5, vv 28 6, oo 29 (.ibin .mul (T 27) (T 28)), vv 30 8, oo 31 (.ibin .add (T 29) (T 30)), oo 32 (.ibin .mul (kk 6) (T 31)), oo 33 (.ibin .add (kk 2) (T 32)), oo 34 (.call (.func 34) [(T 26), (T 33)]), oo 35 (.bslice 34 1 [(T 34)]), oo 36 (.append 34 1 24 (T 25) (T 35)), vv 7 36]))
 (.region [vv 23 8, oo 24 (.ibin .add (T 23) (kk 1)), vv 8 24]))))))
 (.region [oo 37 (.fieldAddr 0 (T 3)), oo 38 (.load false 1 (T 37)), vv 39 7, oo 40 (.bslice 28 1 [(T 39)]), oo 41 (.append 28 1 24 (T 38) (T 40)), oo 42 (.fieldAddr 0 (T 3)), nn (.store 1 (T 42) (T 41))]))))
 (.region [vv 18 6, oo 19 (.ibin .add (T 18) (kk 1)), vv 6 19]))))))
 (.seq (.region [oo 43 (.load true 1 (T 3)), nn (.store 1 (T 2) (T 43))])
 .ret))))))
theorem f10 : fnC Tryd.prog 10 = some (c10, 44, [(.cell 2 true 1)]) := by kernel_rfl
def c11 : CCode :=
 (.seq (.region [oo 4 (.box 25 (T 0)), oo 8 (.alloc 25 (.agg [(.val (.slice none 0 0))]))])
 (.seq (.region [oo 9 (.alloc 25 (.agg [(.val (.slice none 0 0))]))])
 (.seq (.seq (.region [oo 10 (.mov (kk 0))])
 (.block 0 (.loop
 (.seq (.seq (.region [vv 18 10, oo 19 (.fieldAddr 0 (T 4)), oo 20 (.load false 1 (T 19)), oo 21 (.len (T 20)), oo 22 (.ibin .lss (T 18) (T 21))])
 (.cond (T 22)
 .skip
 (.exit 0)))
 (.seq (.block 1 (.seq (.region [oo 11 (.mov (.const (.slice none 0 0)))])
 (.seq (.seq (.region [oo 12 (.mov (kk 0))])
 (.block 2 (.loop
 (.seq (.seq (.region [vv 25 12, oo 26 (.fieldAddr 0 (T 4)), oo 27 (.load false 1 (T 26)), vv 28 10, oo 29 (.idxS 1 (T 27) (T 28)), oo 30 (.load false 1 (T 29)), oo 31 (.len (T 30)), oo 32 (.ibin .lss (T 25) (T 31))])
 (.cond (T 32)
 .skip
 (.exit 2)))
 (.seq (.block 3 (.region [vv 35 11, oo 36 (.bslice 64 3 []), oo 37 (.fieldAddr 0 (T 4)), oo 38 (.load false 1 (T 37)), vv 39 10, oo 40 (.idxS 1 (T 38) (T 39)), oo 41 (.load false 1 (T 40)), vv 42 12, oo 43 (.idxS 1 (T 41) (T 42)), oo 44 (.load false 1 (T 43)), oo 45 (.append 64 3 24 (T 36) (T 44)), oo 46 (.bslice 34 1 [(T 45)]), oo 47 (.append 34 1 24 (T 35) (T 46)), vv 11 47]))
 (.region [vv 33 12, oo 34 (.ibin .add (T 33) (kk 1)), vv 12 34]))))))
 (.region [oo 48 (.fieldAddr 0 (T 9)), oo 49 (.load false 1 (T 48)), vv 50 11, oo 51 (.bslice 28 1 [(T 50)]), oo 52 (.append 28 1 24 (T 49) (T 51)), oo 53 (.fieldAddr 0 (T 9)), nn (.store 1 (T 53) (T 52))]))))
 (.region [vv 23 10, oo 24 (.ibin .add (T 23) (kk 1)), vv 10 24]))))))
 (.seq (.seq (.region [oo 54 (.fieldAddr 0 (T 9)), oo 55 (.load false 1 (T 54)), oo 56 (.len (T 55)), oo 57 (.ibin .eql (T 56) (kk 0))])
 (.cond (T 57)
 (.seq (.region [oo 58 (.load true 1 (T 9)), nn (.store 1 (T 8) (T 58))])
 .ret)
 .skip))
 (.seq (.region [vv 59 1, oo 60 (.fieldAddr 0 (T 9)), oo 61 (.load false 1 (T 60)), oo 62 (.len (T 61)), oo 63 (.call (.func 12) [(T 59), (T 62)]), vv 13 63])
 (.seq (.seq (.region [oo 64 (.fieldAddr 0 (T 9)), oo 65 (.load false 1 (T 64)), vv 66 13, oo 67 (.idxS 1 (T 65) (T 66)), oo 68 (.load false 1 (T 67)), oo 69 (.len (T 68)), oo 70 (.ibin .eql (T 69) (kk 0))])
 (.cond (T 70)
 (.seq (.region [oo 71 (.load true 1 (T 9)), nn (.store 1 (T 8) (T 71))])
 .ret)
 .skip))
 (.seq (.region [vv 72 1, oo 73 (.ibin .quo (T 72) (kk 2)), oo 74 (.fieldAddr 0 (T 9)), oo 75 (.load false 1 (T 74)), vv 76 13, oo 77 (.idxS 1 (T 75) (T 76)), oo 78 (.load false 1 (T 77)), oo 79 (.len (T 78)), oo 80 (.call (.func 12) [(T 73), (T 79)]), vv 14 80])
 (.seq (.region [vv 81 1, oo 82 (.ibin .quo (T 81) (kk 8)), oo 83 (.fieldAddr 0 (T 9)), oo 84 (.load false 1 (T 83)), vv 85 13, oo 86 (.idxS 1 (T 84) (T 85)), oo 87 (.load false 1 (T 86)), vv 88 14, oo 89 (.idxS 1 (T 87) (T 88)), oo 90 (.load false 1 (T 89)), oo 91 (.len (T 90)), oo 92 (.imax (T 91) (kk 1)), oo 93 (.call (.func 12) [(T 82), (T 92)]), vv 15 93])
 (.seq (.region [oo 94 (.fieldAddr 0 (T 9)), oo 95 (.load false 1 (T 94)), vv 96 13, oo 97 (.idxS 1 (T 95) (T 96)), oo 98 (.load false 1 (T 97)), vv 99 14, oo 100 (.idxS 1 (T 98) (T 99)), oo 101 (.load false 1 (T 100)), oo 102 (.len (T 101)), oo 103 (.ibin .gtr (T 102) (kk 0)), vv 16 103])
 (.seq (.seq (.region [vv 104 2, oo 105 (.call (.func 12) [(T 104), (kk 9)])])
 (.block 4 (.seq (.region [oo 112 (.ibin .eql (T 105) (kk 0)), vv 111 112])
 (.cond (T 111)
 (.seq (.region [vv 113 16])
 (.cond (T 113)
 (.drawn [oo 114 (.fieldAddr 0 (T 9)), oo 115 (.load false 1 (T 114)), vv 116 13, oo 117 (.idxS 1 (T 115) (T 116)), oo 118 (.load false 1 (T 117)), vv 119 14, oo 120 (.idxS 1 (T 118) (T 119)), oo 121 (.load false 1 (T 120)), vv 122 15, oo 123 (.bslice 3 1 [(kk (-2)), (kk (-1)), (kk 0), (kk 48), (kk 49), (kk 21)]), vv 124 3] [(oo 125 (.call (.func 12) [(T 124), (kk 6)]), [oo 114 (.fieldAddr 0 (T 9)), oo 115 (.load false 1 (T 114)), vv 116 13, oo 117 (.idxS 1 (T 115) (T 116)), oo 118 (.load false 1 (T 117)), vv 119 14, oo 120 (.idxS 1 (T 118) (T 119)), oo 121 (.load false 1 (T 120)), vv 122 15, oo 123 (.bslice 3 1 [(kk (-2)), (kk (-1)), (kk 0), (kk 48), (kk 49), (kk 21)])]), (oo 126 (.idxS 1 (T 123) (T 125)), [oo 114 (.fieldAddr 0 (T 9)), oo 115 (.load false 1 (T 114)), vv 116 13, oo 117 (.idxS 1 (T 115) (T 116)), oo 118 (.load false 1 (T 117)), vv 119 14, oo 120 (.idxS 1 (T 118) (T 119)), oo 121 (.load false 1 (T 120)), vv 122 15]), (oo 127 (.load false 1 (T 126)), [oo 114 (.fieldAddr 0 (T 9)), oo 115 (.load false 1 (T 114)), vv 116 13, oo 117 (.idxS 1 (T 115) (T 116)), oo 118 (.load false 1 (T 117)), vv 119 14, oo 120 (.idxS 1 (T 118) (T 119)), oo 121 (.load false 1 (T 120)), vv 122 15]), (oo 128 (.idxS 3 (T 121) (T 122)), []), (oo 129 (.fieldAddr 0 (T 128)), []), (nn (.store 1 (T 129) (T 127)), [])])
 .skip))
 (.seq (.region [oo 131 (.ibin .eql (T 105) (kk 1)), vv 130 131])
 (.cond (T 130)
 (.seq (.region [vv 132 16])
 (.cond (T 132)
 (.drawn [oo 133 (.fieldAddr 0 (T 9)), oo 134 (.load false 1 (T 133)), vv 135 13, oo 136 (.idxS 1 (T 134) (T 135)), oo 137 (.load false 1 (T 136)), vv 138 14, oo 139 (.idxS 1 (T 137) (T 138)), oo 140 (.load false 1 (T 139)), vv 141 15, vv 142 3] [(oo 143 (.call (.func 12) [(T 142), (kk 7)]), [oo 133 (.fieldAddr 0 (T 9)), oo 134 (.load false 1 (T 133)), vv 135 13, oo 136 (.idxS 1 (T 134) (T 135)), oo 137 (.load false 1 (T 136)), vv 138 14, oo 139 (.idxS 1 (T 137) (T 138)), oo 140 (.load false 1 (T 139)), vv 141 15]), (oo 144 (.ibin .sub (T 143) (kk 1)), [oo 133 (.fieldAddr 0 (T 9)), oo 134 (.load false 1 (T 133)), vv 135 13, oo 136 (.idxS 1 (T 134) (T 135)), oo 137 (.load false 1 (T 136)), vv 138 14, oo 139 (.idxS 1 (T 137) (T 138)), oo 140 (.load false 1 (T 139)), vv 141 15]), (oo 145 (.idxS 3 (T 140) (T 141)), []), (oo 146 (.fieldAddr 1 (T 145)), []), (nn (.store 1 (T 146) (T 144)), [])])
 .skip))
 (.seq (.region [oo 148 (.ibin .eql (T 105) (kk 2)), vv 147 148])
 (.cond (T 147)
 (.seq (.region [vv 149 16])
 (.cond (T 149)
 (.drawn [oo 150 (.fieldAddr 0 (T 9)), oo 151 (.load false 1 (T 150)), vv 152 13, oo 153 (.idxS 1 (T 151) (T 152)), oo 154 (.load false 1 (T 153)), vv 155 14, oo 156 (.idxS 1 (T 154) (T 155)), oo 157 (.load false 1 (T 156)), vv 158 15, vv 159 3] [(oo 160 (.call (.func 12) [(T 159), (kk 5)]), [oo 150 (.fieldAddr 0 (T 9)), oo 151 (.load false 1 (T 150)), vv 152 13, oo 153 (.idxS 1 (T 151) (T 152)), oo 154 (.load false 1 (T 153)), vv 155 14, oo 156 (.idxS 1 (T 154) (T 155)), oo 157 (.load false 1 (T 156)), vv 158 15]), (oo 161 (.ibin .sub (T 160) (kk 2)), [oo 150 (.fieldAddr 0 (T 9)), oo 151 (.load false 1 (T 150)), vv 152 13, oo 153 (.idxS 1 (T 151) (T 152)), oo 154 (.load false 1 (T 153)), vv 155 14, oo 156 (.idxS 1 (T 154) (T 155)), oo 157 (.load false 1 (T 156)), vv 158 15]), (oo 162 (.idxS 3 (T 157) (T 158)), []), (oo 163 (.fieldAddr 2 (T 162)), []), (nn (.store 1 (T 163) (T 161)), [])])
 .skip))
 (.seq (.region [oo 165 (.ibin .eql (T 105) (kk 3)), vv 164 165])
 (.cond (T 164)
 (.region [oo 166 (.fieldAddr 0 (T 9)), oo 167 (.load false 1 (T 166)), vv 168 13, oo 169 (.idxS 1 (T 167) (T 168)), oo 170 (.load false 1 (T 169)), vv 171 14, oo 172 (.idxS 1 (T 170) (T 171)), nn (.store 1 (T 172) (.const (.slice none 0 0)))])
 (.seq (.region [oo 174 (.ibin .eql (T 105) (kk 4)), vv 173 174])
 (.cond (T 173)
 (.drawn [oo 175 (.fieldAddr 0 (T 9)), oo 176 (.load false 1 (T 175)), vv 177 13, oo 178 (.fieldAddr 0 (T 9)), oo 179 (.load false 1 (T 178)), vv 180 13, oo 181 (.idxS 1 (T 179) (T 180)), oo 182 (.load false 1 (T 181)), vv 183 14, oo 184 (.slice 1 (T 182) none (some (T 183))), oo 185 (.idxS 1 (T 176) (T 177))] [(nn (.store 1 (T 185) (T 184)), [])])
 (.seq (.region [oo 187 (.ibin .eql (T 105) (kk 5)), vv 186 187])
 (.cond (T 186)
 (.block 5 (.loop
 (.seq (.seq (.drawn [oo 188 (.fieldAddr 0 (T 9)), oo 189 (.load false 1 (T 188)), vv 190 13, oo 191 (.idxS 1 (T 189) (T 190)), oo 192 (.load false 1 (T 191)), vv 193 14, oo 194 (.idxS 1 (T 192) (T 193)), oo 195 (.load false 1 (T 194)), oo 196 (.len (T 195)), vv 197 3] [(oo 198 (.call (.func 12) [(T 197), (kk 7)]), [oo 188 (.fieldAddr 0 (T 9)), oo 189 (.load false 1 (T 188)), vv 190 13, oo 191 (.idxS 1 (T 189) (T 190)), oo 192 (.load false 1 (T 191)), vv 193 14, oo 194 (.idxS 1 (T 192) (T 193)), oo 195 (.load false 1 (T 194)), oo 196 (.len (T 195))]), (oo 199 (.ibin .add (kk 12) (T 198)), [oo 188 (.fieldAddr 0 (T 9)), oo 189 (.load false 1 (T 188)), vv 190 13, oo 191 (.idxS 1 (T 189) (T 190)), oo 192 (.load false 1 (T 191)), vv 193 14, oo 194 (.idxS 1 (T 192) (T 193)), oo 195 (.load false 1 (T 194)), oo 196 (.len (T 195))]), (oo 200 (.ibin .lss (T 196) (T 199)), [])])
 (.cond (T 200)
 .skip
 (.exit 5)))
 (.block 6 (.drawn [oo 201 (.fieldAddr 0 (T 9)), oo 202 (.load false 1 (T 201)), vv 203 13, oo 204 (.idxS 1 (T 202) (T 203)), oo 205 (.load false 1 (T 204)), vv 206 14, oo 207 (.fieldAddr 0 (T 9)), oo 208 (.load false 1 (T 207)), vv 209 13, oo 210 (.idxS 1 (T 208) (T 209)), oo 211 (.load false 1 (T 210)), vv 212 14, oo 213 (.idxS 1 (T 211) (T 212)), oo 214 (.load false 1 (T 213)), oo 215 (.build [(.val (.int .i64 0)), (.val (.int .i64 0)), (.val (.int .i64 0))] [(0, (1, (kk 21)))]), oo 216 (.bslice 64 3 [(T 215)])] [(oo 217 (.append 64 3 24 (T 214) (T 216)), [oo 201 (.fieldAddr 0 (T 9)), oo 202 (.load false 1 (T 201)), vv 203 13, oo 204 (.idxS 1 (T 202) (T 203)), oo 205 (.load false 1 (T 204)), vv 206 14]), (oo 218 (.idxS 1 (T 205) (T 206)), []), (nn (.store 1 (T 218) (T 217)), [])])))))
 (.seq (.region [oo 220 (.ibin .eql (T 105) (kk 6)), vv 219 220])
 (.cond (T 219)
 (.drawn [oo 221 (.fieldAddr 0 (T 9)), oo 222 (.load false 1 (T 221)), oo 223 (.fieldAddr 0 (T 9)), oo 224 (.load false 1 (T 223)), oo 225 (.idxS 1 (T 224) (kk 0)), oo 226 (.load false 1 (T 225)), oo 227 (.bslice 28 1 [(T 226)])] [(oo 228 (.append 28 1 24 (T 222) (T 227)), []), (oo 229 (.fieldAddr 0 (T 9)), []), (nn (.store 1 (T 229) (T 228)), [])])
 (.seq (.region [oo 231 (.ibin .eql (T 105) (kk 7)), vv 230 231])
 (.cond (T 230)
 (.seq (.region [oo 17 (.mov (kk 0))])
 (.block 7 (.loop
 (.seq (.seq (.region [vv 232 17, oo 233 (.fieldAddr 0 (T 9)), oo 234 (.load false 1 (T 233)), oo 235 (.len (T 234)), oo 236 (.ibin .lss (T 232) (T 235))])
 (.cond (T 236)
 .skip
 (.exit 7)))
 (.seq (.block 8 (.block 9 (.loop
 (.seq (.seq (.drawn [oo 239 (.fieldAddr 0 (T 9)), oo 240 (.load false 1 (T 239)), vv 241 17, oo 242 (.idxS 1 (T 240) (T 241)), oo 243 (.load false 1 (T 242)), oo 244 (.len (T 243)), vv 245 3] [(oo 246 (.call (.func 12) [(T 245), (kk 5)]), [oo 239 (.fieldAddr 0 (T 9)), oo 240 (.load false 1 (T 239)), vv 241 17, oo 242 (.idxS 1 (T 240) (T 241)), oo 243 (.load false 1 (T 242)), oo 244 (.len (T 243))]), (oo 247 (.ibin .add (kk 30) (T 246)), [oo 239 (.fieldAddr 0 (T 9)), oo 240 (.load false 1 (T 239)), vv 241 17, oo 242 (.idxS 1 (T 240) (T 241)), oo 243 (.load false 1 (T 242)), oo 244 (.len (T 243))]), (oo 248 (.ibin .lss (T 244) (T 247)), [])])
 (.cond (T 248)
 .skip
 (.exit 9)))
 (.block 10 (.drawn [oo 249 (.fieldAddr 0 (T 9)), oo 250 (.load false 1 (T 249)), vv 251 17, oo 252 (.fieldAddr 0 (T 9)), oo 253 (.load false 1 (T 252)), vv 254 17, oo 255 (.idxS 1 (T 253) (T 254)), oo 256 (.load false 1 (T 255)), oo 257 (.build [(.val (.int .i64 0)), (.val (.int .i64 0)), (.val (.int .i64 0))] [(0, (1, (kk 20))), (1, (1, (kk 3)))]), oo 258 (.bslice 64 3 [(T 257)]), oo 259 (.bslice 34 1 [(T 258)])] [(oo 260 (.append 34 1 24 (T 256) (T 259)), [oo 249 (.fieldAddr 0 (T 9)), oo 250 (.load false 1 (T 249)), vv 251 17]), (oo 261 (.idxS 1 (T 250) (T 251)), []), (nn (.store 1 (T 261) (T 260)), [])]))))))
 (.region [vv 237 17, oo 238 (.ibin .add (T 237) (kk 1)), vv 17 238]))))))
 (.region [oo 106 (.fieldAddr 0 (T 9)), oo 107 (.load false 1 (T 106)), vv 108 13, oo 109 (.slice 1 (T 107) none (some (T 108))), oo 110 (.fieldAddr 0 (T 9)), nn (.store 1 (T 110) (T 109))])))))))))))))))))))
 (.seq (.region [oo 262 (.load true 1 (T 9)), nn (.store 1 (T 8) (T 262))])
 .ret)))))))))))
theorem f11 : fnC Tryd.prog 11 = some (c11, 263, [(.cell 8 true 1)]) := by kernel_rfl
def c12 : CCode :=
 (.seq (.region [oo 4 (.mov (kk 0))])
 (.seq (.seq (.region [vv 5 0, oo 6 (.ibin .lss (T 5) (kk 0))])
 (.cond (T 6)
 (.region [vv 7 0, oo 8 (.ibin .add (T 7) (kk 1)), oo 9 (.neg (T 8)), vv 0 9])
 .skip))
 (.seq (.seq (.region [vv 10 1, oo 11 (.ibin .lss (T 10) (kk 1))])
 (.cond (T 11)
 (.seq (.region [oo 4 (.mov (kk 0))])
 .ret)
 .skip))
 (.seq (.region [vv 12 0, vv 13 1, oo 14 (.ibin .rem (T 12) (T 13)), vv 4 14])
 .ret))))
theorem f12 : fnC Tryd.prog 12 = some (c12, 15, [(.tmp 4)]) := by kernel_rfl
def c13 : CCode :=
 (.seq (.region [oo 4 (.mov (.const (.slice none 0 0))), oo 5 (.mov (kk 0))])
 (.seq (.block 0 (.seq (.region [vv 9 0, oo 10 (.len (T 9)), oo 11 (.ibin .gtr (T 10) (kk 16)), vv 8 11])
 (.cond (T 8)
 (.seq (.region [oo 4 (.mov (.const (.slice none 0 0))), oo 5 (.mov (kk 4))])
 .ret)
 (.seq (.region [vv 13 0, oo 14 (.call (.func 35) [(T 13)]), oo 15 (.lnot (T 14)), vv 16 15, vf 17 16 1, gf 18 16 (.ibin .lss (T 17) (kk (-1))), oo 19 (.pick (T 16) (.const (.bool true)) (T 18)), vv 20 19, vf 21 20 1, gf 22 20 (.ibin .gtr (T 21) (kk 48)), oo 23 (.pick (T 20) (.const (.bool true)) (T 22)), vv 12 23])
 (.cond (T 12)
 (.seq (.region [oo 4 (.mov (.const (.slice none 0 0))), oo 5 (.mov (kk 1))])
 .ret)
 .skip)))))
 (.seq (.region [vv 25 0, vv 26 1, oo 27 (.call (.func 36) [(.const (.slice none 0 0)), (T 25), (T 26)]), vv 24 27, oo 28 (.extract (T 24) 0), oo 29 (.extract (T 24) 1), vv 6 28, vv 7 29])
 (.seq (.region [vv 30 6, vv 4 30, oo 5 (.mov (kk 0))])
 .ret))))
theorem f13 : fnC Tryd.prog 13 = some (c13, 31, [(.tmp 4), (.tmp 5)]) := by kernel_rfl
def c15 : CCode :=
 (.seq (.region [oo 4 (.mov (.const (.bool false)))])
 (.seq (.seq (.region [vv 6 0, oo 7 (.len (T 6)), vv 8 1, oo 9 (.len (T 8)), oo 10 (.ibin .neq (T 7) (T 9))])
 (.cond (T 10)
 (.seq (.region [oo 4 (.mov (.const (.bool false)))])
 .ret)
 .skip))
 (.seq (.seq (.region [oo 5 (.mov (kk 0))])
 (.block 0 (.loop
 (.seq (.seq (.region [vv 11 5, vv 12 0, oo 13 (.len (T 12)), oo 14 (.ibin .lss (T 11) (T 13))])
 (.cond (T 14)
 .skip
 (.exit 0)))
 (.seq (.block 1 (.seq (.drawn [vv 17 0, vv 18 5, oo 19 (.idxS 1 (T 17) (T 18)), oo 20 (.load false 1 (T 19)), vv 21 1, vv 22 5, oo 23 (.idxS 1 (T 21) (T 22)), oo 24 (.load false 1 (T 23)), oo 25 (.ibin .neq (T 20) (T 24))] [])
 (.cond (T 25)
 (.seq (.region [oo 4 (.mov (.const (.bool false)))])
 .ret)
 .skip)))
 (.region [vv 15 5, oo 16 (.ibin .add (T 15) (kk 1)), vv 5 16]))))))
 (.seq (.region [oo 4 (.mov (.const (.bool true)))])
 .ret))))
theorem f15 : fnC Tryd.prog 15 = some (c15, 26, [(.tmp 4)]) := by kernel_rfl
def c16 : CCode :=
 (.seq (.region [oo 0 (.mov (.const (.bool false)))])
 (.seq (.region [oo 13 (.build [(.val (.int .i64 0)), (.val (.int .i64 0)), (.val (.int .i64 0))] [(0, (1, (kk 21))), (1, (1, (kk 2)))]), oo 14 (.build [(.val (.int .i64 0)), (.val (.int .i64 0)), (.val (.int .i64 0))] [(0, (1, (kk 23))), (1, (1, (kk 2)))]), oo 15 (.build [(.val (.int .i64 0)), (.val (.int .i64 0)), (.val (.int .i64 0))] [(0, (1, (kk 26))), (1, (1, (kk 2)))]), oo 16 (.build [(.val (.int .i64 0)), (.val (.int .i64 0)), (.val (.int .i64 0))] [(0, (1, (kk 19))), (1, (1, (kk 2)))]), oo 17 (.bslice 64 3 [(T 13), (T 14), (T 15), (T 16)]), vv 1 17])
 (.seq (.region [vv 19 1, oo 20 (.call (.func 13) [(T 19), (kk (-1))]), vv 18 20, oo 21 (.extract (T 18) 0), oo 22 (.extract (T 18) 1), vv 2 21, vv 3 22])
 (.seq (.region [vv 24 1, oo 25 (.call (.func 13) [(T 24), (kk 21)]), vv 23 25, oo 26 (.extract (T 23) 0), oo 27 (.extract (T 23) 1), vv 4 26, vv 5 27])
 (.seq (.region [oo 29 (.build [(.val (.int .i64 0)), (.val (.int .i64 0)), (.val (.int .i64 0))] [(0, (1, (kk (-1))))]), oo 30 (.build [(.val (.int .i64 0)), (.val (.int .i64 0)), (.val (.int .i64 0))] [(0, (1, (kk 3))), (1, (1, (kk 4))), (2, (1, (kk 1)))]), oo 31 (.bslice 64 3 [(T 29), (T 30)]), oo 32 (.call (.func 13) [(T 31), (kk (-1))]), vv 28 32, oo 33 (.extract (T 28) 0), oo 34 (.extract (T 28) 1), vv 6 33, vv 7 34])
 (.seq (.region [vv 35 1, oo 36 (.bslice 34 1 [(T 35)]), oo 37 (.bslice 28 1 [(T 36)]), oo 38 (.build [(.val (.slice none 0 0))] [(0, (1, (T 37)))]), oo 8 (.alloc 25 (.agg [(.val (.slice none 0 0))])), nn (.store 1 (T 8) (T 38))])
 (.seq (.region [oo 40 (.load true 1 (T 8)), oo 41 (.call (.func 17) [(T 40), (kk 40)]), vv 39 41, oo 42 (.extract (T 39) 0), oo 43 (.extract (T 39) 1), vv 9 42, vv 10 43])
 (.seq (.region [vv 45 9, oo 46 (.call (.func 20) [(T 45)]), vv 44 46, oo 47 (.extract (T 44) 0), oo 48 (.extract (T 44) 1), oo 11 (.alloc 25 (.agg [(.val (.slice none 0 0))])), nn (.store 1 (T 11) (T 47)), vv 12 48])
 (.seq (.seq (.region [vv 49 3, oo 50 (.ibin .neq (T 49) (kk 0)), vv 51 50, vf 52 51 5, gf 53 51 (.ibin .neq (T 52) (kk 0)), oo 54 (.pick (T 51) (.const (.bool true)) (T 53)), vv 55 54, vf 56 55 7, gf 57 55 (.ibin .neq (T 56) (kk 0)), oo 58 (.pick (T 55) (.const (.bool true)) (T 57)), vv 59 58, vf 60 59 10, gf 61 59 (.ibin .neq (T 60) (kk 0)), oo 62 (.pick (T 59) (.const (.bool true)) (T 61)), vv 63 62, vf 64 63 12, gf 65 63 (.ibin .neq (T 64) (kk 0)), oo 66 (.pick (T 63) (.const (.bool true)) (T 65)), vv 67 66, vf 68 67 9, gf 69 67 (.len (T 68)), gf 70 67 (.ibin .neq (T 69) (kk 1)), oo 71 (.pick (T 67) (.const (.bool true)) (T 70))])
 (.cond (T 71)
 (.seq (.region [oo 0 (.mov (.const (.bool false)))])
 .ret)
 .skip))
 (.seq (.region [vv 72 2, oo 73 (.bslice 5 1 [(.const (.int .u8 16)), (.const (.int .u8 57)), (.const (.int .u8 43)), (.const (.int .u8 42)), (.const (.int .u8 56)), (.const (.int .u8 42))]), oo 74 (.call (.func 15) [(T 72), (T 73)]), vv 75 74, vt 76 75 4, gt 77 75 (.bslice 5 1 [(.const (.int .u8 57)), (.const (.int .u8 43)), (.const (.int .u8 42)), (.const (.int .u8 56)), (.const (.int .u8 42))]), gt 78 75 (.call (.func 15) [(T 76), (T 77)]), oo 79 (.pick (T 75) (T 78) (.const (.bool false))), vv 80 79, vt 81 80 6, gt 82 80 (.bslice 5 1 [(.const (.int .u8 45)), (.const (.int .u8 33)), (.const (.int .u8 8)), (.const (.int .u8 3)), (.const (.int .u8 63))]), gt 83 80 (.call (.func 15) [(T 81), (T 82)]), oo 84 (.pick (T 80) (T 83) (.const (.bool false))), vv 85 84, vt 86 85 9, gt 87 85 (.idxS 1 (T 86) (kk 0)), gt 88 85 (.load false 1 (T 87)), vt 89 85 2, gt 90 85 (.call (.func 15) [(T 88), (T 89)]), oo 91 (.pick (T 85) (T 90) (.const (.bool false))), vv 92 91, gt 93 92 (.load true 1 (T 11)), gt 94 92 (.load true 1 (T 8)), gt 95 92 (.call (.func 21) [(T 93), (T 94)]), oo 96 (.pick (T 92) (T 95) (.const (.bool false))), vv 0 96])
 .ret))))))))))
theorem f16 : fnC Tryd.prog 16 = some (c16, 97, [(.tmp 0)]) := by kernel_rfl
def c17 : CCode :=
 (.seq (.region [oo 2 (.box 25 (T 0)), oo 4 (.mov (.const (.slice none 0 0))), oo 5 (.mov (kk 0))])
 (.seq (.seq (.region [oo 13 (.load true 1 (T 2)), oo 14 (.call (.func 28) [(T 13)]), vv 6 14])
 (.seq (.region [vv 15 6, oo 16 (.ibin .neq (T 15) (kk 0))])
 (.cond (T 16)
 (.seq (.region [vv 17 6, oo 4 (.mov (.const (.slice none 0 0))), vv 5 17])
 .ret)
 .skip)))
 (.seq (.seq (.region [vv 18 1, oo 19 (.ibin .lss (T 18) (kk 1)), vv 20 19, vf 21 20 1, gf 22 20 (.ibin .gtr (T 21) (kk 40)), oo 23 (.pick (T 20) (.const (.bool true)) (T 22))])
 (.cond (T 23)
 (.seq (.region [oo 4 (.mov (.const (.slice none 0 0))), oo 5 (.mov (kk 1))])
 .ret)
 .skip))
 (.seq (.region [oo 24 (.fieldAddr 0 (T 2)), oo 25 (.load false 1 (T 24)), oo 26 (.len (T 25)), oo 27 (.call (.func 39) [(T 26)]), oo 7 (.alloc 71 (.agg [(.val (.slice none 0 0)), (.val (.slice none 0 0)), (.val (.int .i64 0))])), nn (.store 3 (T 7) (T 27))])
 (.seq (.seq (.region [oo 28 (.fieldAddr 0 (T 2)), oo 29 (.load false 1 (T 28)), oo 30 (.idxS 1 (T 29) (kk 0)), oo 31 (.load false 1 (T 30)), oo 32 (.len (T 31)), oo 33 (.mov (kk 0))])
 (.block 0 (.loop
 (.seq (.region [oo 34 (.ibin .lss (T 33) (T 32))])
 (.seq (.cond (T 34)
 .skip
 (.exit 0))
 (.seq (.block 1 (.seq (.region [vv 35 33, vv 8 35])
 (.seq (.region [oo 36 (.load true 3 (T 7)), oo 37 (.load true 1 (T 2)), vv 38 8, oo 39 (.call (.func 41) [(T 36), (T 37), (T 38)]), oo 40 (.field false 0 1 (T 39)), oo 41 (.call (.func 40) [(T 40)]), vv 42 1, oo 43 (.ibin .gtr (T 41) (T 42))])
 (.cond (T 43)
 (.seq (.region [oo 4 (.mov (.const (.slice none 0 0))), oo 5 (.mov (kk 14))])
 .ret)
 .skip))))
 (.region [oo 44 (.ibin .add (T 33) (kk 1)), vv 33 44])))))))
 (.seq (.region [oo 9 (.mov (.const (.slice none 0 0)))])
 (.seq (.region [oo 45 (.load true 3 (T 7)), oo 10 (.alloc 71 (.agg [(.val (.slice none 0 0)), (.val (.slice none 0 0)), (.val (.int .i64 0))])), nn (.store 3 (T 10) (T 45))])
 (.seq (.seq (.region [oo 46 (.fieldAddr 0 (T 2)), oo 47 (.load false 1 (T 46)), oo 48 (.idxS 1 (T 47) (kk 0)), oo 49 (.load false 1 (T 48)), oo 50 (.len (T 49)), oo 51 (.mov (kk 0))])
 (.block 2 (.loop
 (.seq (.region [oo 52 (.ibin .lss (T 51) (T 50))])
 (.seq (.cond (T 52)
 .skip
 (.exit 2))
 (.seq (.block 3 (.seq (.region [vv 53 51, vv 11 53])
 (.seq (.region [oo 54 (.load true 3 (T 10)), oo 55 (.load true 1 (T 2)), vv 56 11, oo 57 (.call (.func 41) [(T 54), (T 55), (T 56)]), oo 12 (.alloc 71 (.agg [(.val (.slice none 0 0)), (.val (.slice none 0 0)), (.val (.int .i64 0))])), nn (.store 3 (T 12) (T 57))])
 (.seq (.seq (.region [oo 58 (.fieldAddr 0 (T 12)), oo 59 (.load false 1 (T 58)), oo 60 (.call (.func 40) [(T 59)]), vv 61 1, oo 62 (.ibin .gtr (T 60) (T 61))])
 (.cond (T 62)
 (.seq (.region [vv 63 9, oo 64 (.fieldAddr 0 (T 10)), oo 65 (.load false 1 (T 64)), oo 66 (.append 30 1 24 (T 63) (T 65)), vv 9 66])
 (.region [oo 67 (.load true 3 (T 7)), oo 68 (.load true 1 (T 2)), vv 69 11, oo 70 (.call (.func 41) [(T 67), (T 68), (T 69)]), nn (.store 3 (T 12) (T 70))]))
 .skip))
 (.region [oo 71 (.load true 3 (T 12)), nn (.store 3 (T 10) (T 71))])))))
 (.region [oo 72 (.ibin .add (T 51) (kk 1)), vv 51 72])))))))
 (.seq (.region [vv 73 9, oo 74 (.fieldAddr 0 (T 10)), oo 75 (.load false 1 (T 74)), oo 76 (.append 30 1 24 (T 73) (T 75)), vv 4 76, oo 5 (.mov (kk 0))])
 .ret)))))))))
theorem f17 : fnC Tryd.prog 17 = some (c17, 77, [(.tmp 4), (.tmp 5)]) := by kernel_rfl
def c20 : CCode :=
 (.seq (.region [oo 2 (.alloc 25 (.agg [(.val (.slice none 0 0))])), oo 3 (.mov (kk 0))])
 (.seq (.seq (.region [oo 4 (.mov (kk 1))])
 (.block 0 (.loop
 (.seq (.seq (.region [vv 10 4, oo 11 (.ibin .leq (T 10) (kk 2))])
 (.cond (T 11)
 .skip
 (.exit 0)))
 (.seq (.block 1 (.seq (.region [vv 15 0, vv 16 4, oo 17 (.call (.func 43) [(T 15), (T 16)]), vv 14 17, oo 18 (.extract (T 14) 0), oo 19 (.extract (T 14) 1), oo 5 (.alloc 25 (.agg [(.val (.slice none 0 0))])), nn (.store 1 (T 5) (T 18)), vv 6 19])
 (.seq (.region [oo 7 (.mov (kk 1))])
 (.block 2 (.loop
 (.seq (.seq (.region [vv 20 6, vv 21 20, vt 22 21 7, gt 23 21 (.ibin .leq (T 22) (kk 40)), oo 24 (.pick (T 21) (T 23) (.const (.bool false)))])
 (.cond (T 24)
 .skip
 (.exit 2)))
 (.seq (.block 3 (.seq (.region [oo 28 (.load true 1 (T 5)), vv 29 7, oo 30 (.call (.func 17) [(T 28), (T 29)]), vv 27 30, oo 31 (.extract (T 27) 0), oo 32 (.extract (T 27) 1), vv 8 31, vv 9 32])
 (.seq (.region [vv 33 9, oo 34 (.ibin .eql (T 33) (kk 0)), vv 35 34, vt 36 35 0, vt 37 35 8, gt 38 35 (.call (.func 44) [(T 36), (T 37), (.func 45)]), oo 39 (.pick (T 35) (T 38) (.const (.bool false)))])
 (.cond (T 39)
 (.seq (.region [oo 40 (.load true 1 (T 5)), nn (.store 1 (T 2) (T 40)), oo 3 (.mov (kk 0))])
 .ret)
 .skip))))
 (.region [vv 25 7, oo 26 (.ibin .add (T 25) (kk 1)), vv 7 26]))))))))
 (.region [vv 12 4, oo 13 (.ibin .add (T 12) (kk 1)), vv 4 13]))))))
 (.seq (.region [oo 41 (.build [(.val (.slice none 0 0))] []), nn (.store 1 (T 2) (T 41)), oo 3 (.mov (kk 2))])
 .ret)))
theorem f20 : fnC Tryd.prog 20 = some (c20, 42, [(.cell 2 true 1), (.tmp 3)]) := by kernel_rfl
def c21 : CCode :=
 (.seq (.region [oo 2 (.box 25 (T 0)), oo 3 (.box 25 (T 1)), oo 4 (.mov (.const (.bool false)))])
 (.seq (.seq (.region [oo 7 (.fieldAddr 0 (T 2)), oo 8 (.load false 1 (T 7)), oo 9 (.len (T 8)), oo 10 (.fieldAddr 0 (T 3)), oo 11 (.load false 1 (T 10)), oo 12 (.len (T 11)), oo 13 (.ibin .neq (T 9) (T 12))])
 (.cond (T 13)
 (.seq (.region [oo 4 (.mov (.const (.bool false)))])
 .ret)
 .skip))
 (.seq (.seq (.region [oo 5 (.mov (kk 0))])
 (.block 0 (.loop
 (.seq (.seq (.region [vv 14 5, oo 15 (.fieldAddr 0 (T 2)), oo 16 (.load false 1 (T 15)), oo 17 (.len (T 16)), oo 18 (.ibin .lss (T 14) (T 17))])
 (.cond (T 18)
 .skip
 (.exit 0)))
 (.seq (.block 1 (.seq (.seq (.drawn [oo 21 (.fieldAddr 0 (T 2)), oo 22 (.load false 1 (T 21)), vv 23 5, oo 24 (.idxS 1 (T 22) (T 23)), oo 25 (.load false 1 (T 24)), oo 26 (.len (T 25)), oo 27 (.fieldAddr 0 (T 3)), oo 28 (.load false 1 (T 27)), vv 29 5, oo 30 (.idxS 1 (T 28) (T 29)), oo 31 (.load false 1 (T 30)), oo 32 (.len (T 31)), oo 33 (.ibin .neq (T 26) (T 32))] [])
 (.cond (T 33)
 (.seq (.region [oo 4 (.mov (.const (.bool false)))])
 .ret)
 .skip))
 (.seq (.region [oo 6 (.mov (kk 0))])
 (.block 2 (.loop
 (.seq (.seq (.region [vv 34 6, oo 35 (.fieldAddr 0 (T 2)), oo 36 (.load false 1 (T 35)), vv 37 5, oo 38 (.idxS 1 (T 36) (T 37)), oo 39 (.load false 1 (T 38)), oo 40 (.len (T 39)), oo 41 (.ibin .lss (T 34) (T 40))])
 (.cond (T 41)
 .skip
 (.exit 2)))
 (.seq (.block 3 (.seq (.drawn [oo 44 (.fieldAddr 0 (T 2)), oo 45 (.load false 1 (T 44)), vv 46 5, oo 47 (.idxS 1 (T 45) (T 46)), oo 48 (.load false 1 (T 47)), vv 49 6, oo 50 (.idxS 1 (T 48) (T 49)), oo 51 (.load false 1 (T 50)), oo 52 (.fieldAddr 0 (T 3)), oo 53 (.load false 1 (T 52)), vv 54 5, oo 55 (.idxS 1 (T 53) (T 54)), oo 56 (.load false 1 (T 55)), vv 57 6, oo 58 (.idxS 1 (T 56) (T 57)), oo 59 (.load false 1 (T 58))] [(oo 60 (.call (.func 47) [(T 51), (T 59)]), []), (oo 61 (.lnot (T 60)), [])])
 (.cond (T 61)
 (.seq (.region [oo 4 (.mov (.const (.bool false)))])
 .ret)
 .skip)))
 (.region [vv 42 6, oo 43 (.ibin .add (T 42) (kk 1)), vv 6 43]))))))))
 (.region [vv 19 5, oo 20 (.ibin .add (T 19) (kk 1)), vv 5 20]))))))
 (.seq (.region [oo 4 (.mov (.const (.bool true)))])
 .ret))))
theorem f21 : fnC Tryd.prog 21 = some (c21, 62, [(.tmp 4)]) := by kernel_rfl
def c28 : CCode :=
 (.seq (.region [oo 1 (.box 25 (T 0)), oo 2 (.mov (kk 0))])
 (.seq (.region [oo 3 (.mov (.func 53))])
 (.seq (.region [oo 5 (.mkfunc (.func 56) [(T 1)]), vv 4 5])
 (.seq (.block 0 (.seq (.region [oo 7 (.fieldAddr 0 (T 1)), oo 8 (.load false 1 (T 7)), oo 9 (.len (T 8)), oo 10 (.ibin .gtr (T 9) (kk 2)), vv 11 10, gf 12 11 (.fieldAddr 0 (T 1)), gf 13 11 (.load false 1 (T 12)), vf 14 11 3, gf 15 11 (.call (.func 58) [(T 13), (T 14)]), oo 16 (.pick (T 11) (.const (.bool true)) (T 15)), vv 6 16])
 (.cond (T 6)
 (.seq (.region [oo 2 (.mov (kk 4))])
 .ret)
 (.seq (.region [oo 18 (.fieldAddr 0 (T 1)), oo 19 (.load false 1 (T 18)), oo 20 (.len (T 19)), oo 21 (.ibin .eql (T 20) (kk 0)), vv 22 21, gf 23 22 (.fieldAddr 0 (T 1)), gf 24 22 (.load false 1 (T 23)), vf 25 22 4, gf 26 22 (.call (.func 58) [(T 24), (T 25)]), oo 27 (.pick (T 22) (.const (.bool true)) (T 26)), vv 17 27])
 (.cond (T 17)
 (.seq (.region [oo 2 (.mov (kk 1))])
 .ret)
 .skip)))))
 (.seq (.region [oo 2 (.mov (kk 0))])
 .ret)))))
theorem f28 : fnC Tryd.prog 28 = some (c28, 28, [(.tmp 2)]) := by kernel_rfl
def c33 : CCode :=
 (.seq (.region [oo 6 (.mov (kk 0))])
 (.seq (.seq (.region [vv 7 1, oo 8 (.ibin .lss (T 7) (kk 0)), vv 9 8, vf 10 9 1, vf 11 9 0, gf 12 9 (.len (T 11)), gf 13 9 (.ibin .geq (T 10) (T 12)), oo 14 (.pick (T 9) (.const (.bool true)) (T 13))])
 (.cond (T 14)
 (.seq (.region [oo 6 (.mov (kk 0))])
 .ret)
 .skip))
 (.seq (.region [vv 15 0, vv 16 1, oo 17 (.idxS 1 (T 15) (T 16)), oo 18 (.load false 1 (T 17)), vv 19 2, oo 20 (.call (.func 12) [(T 18), (T 19)]), vv 6 20])
 .ret)))
theorem f33 : fnC Tryd.prog 33 = some (c33, 21, [(.tmp 6)]) := by kernel_rfl
def c34 : CCode :=
 (.seq (.region [oo 4 (.mov (.const (.slice none 0 0)))])
 (.seq (.region [oo 5 (.mov (.const (.slice none 0 0)))])
 (.seq (.region [vv 11 0, vv 12 1, oo 13 (.call (.func 33) [(T 11), (T 12), (kk 49)]), vv 6 13])
 (.seq (.region [vv 14 0, vv 15 1, oo 16 (.ibin .add (T 15) (kk 1)), oo 17 (.call (.func 33) [(T 14), (T 16), (kk 4)]), oo 18 (.ibin .add (kk 1) (T 17)), vv 7 18])
 (.seq (.seq (.region [oo 8 (.mov (kk 0))])
 (.block 0 (.loop
 (.seq (.seq (.region [vv 19 8, vv 20 7, oo 21 (.ibin .lss (T 19) (T 20))])
 (.cond (T 21)
 .skip
 (.exit 0)))
 (.seq (.block 1 (.seq (.region [vv 24 0, vv 25 1, oo 26 (.ibin .add (T 25) (kk 2)), vv 27 8, oo 28 (.ibin .add (T 26) (T 27)), oo 29 (.call (.func 33) [(T 24), (T 28), (kk 1048576)]), vv 9 29])
 (.seq (.region [vv 30 6, vv 31 9, oo 32 (.ibin .rem (T 31) (kk 11)), oo 33 (.ibin .add (T 30) (T 32)), oo 34 (.ibin .add (T 33) (kk 44)), oo 35 (.ibin .rem (T 34) (kk 49)), vv 36 9, oo 37 (.ibin .quo (T 36) (kk 11)), oo 38 (.ibin .rem (T 37) (kk 5)), vv 39 9, oo 40 (.ibin .quo (T 39) (kk 55)), oo 41 (.ibin .rem (T 40) (kk 8)), oo 42 (.ibin .rem (T 41) (kk 3)), oo 43 (.ibin .sub (T 42) (kk 1)), oo 44 (.build [(.val (.int .i64 0)), (.val (.int .i64 0)), (.val (.int .i64 0))] [(0, (1, (T 35))), (1, (1, (T 38))), (2, (1, (T 43)))]), oo 10 (.alloc 64 (.agg [(.val (.int .i64 0)), (.val (.int .i64 0)), (.val (.int .i64 0))])), nn (.store 3 (T 10) (T 44))])
 (.seq (.seq (.region [vv 45 9, oo 46 (.ibin .quo (T 45) (kk 440)), oo 47 (.ibin .rem (T 46) (kk 7)), oo 48 (.ibin .eql (T 47) (kk 0))])
 (.cond (T 48)
 (.region [vv 49 9, oo 50 (.ibin .quo (T 49) (kk 3080)), oo 51 (.ibin .rem (T 50) (kk 49)), oo 52 (.fieldAddr 0 (T 10)), nn (.store 1 (T 52) (T 51))])
 .skip))
 (.seq (.seq (.region [vv 53 9, oo 54 (.ibin .quo (T 53) (kk 440)), oo 55 (.ibin .rem (T 54) (kk 9)), oo 56 (.ibin .eql (T 55) (kk 1))])
 (.cond (T 56)
 (.seq (.region [oo 57 (.fieldAddr 0 (T 10)), nn (.store 1 (T 57) (kk (-1)))])
 (.region [oo 58 (.fieldAddr 2 (T 10)), nn (.store 1 (T 58) (kk 0))]))
 .skip))
 (.seq (.seq (.region [oo 59 (.fieldAddr 0 (T 10)), oo 60 (.load false 1 (T 59)), oo 61 (.ibin .geq (T 60) (kk 0))])
 (.cond (T 61)
 (.region [oo 62 (.fieldAddr 0 (T 10)), oo 63 (.load false 1 (T 62)), vv 6 63])
 .skip))
 (.region [vv 64 5, oo 65 (.load true 3 (T 10)), oo 66 (.bslice 64 3 [(T 65)]), oo 67 (.append 64 3 24 (T 64) (T 66)), vv 5 67])))))))
 (.region [vv 22 8, oo 23 (.ibin .add (T 22) (kk 1)), vv 8 23]))))))
 (.seq (.region [vv 68 5, vv 4 68])
 .ret))))))
theorem f34 : fnC Tryd.prog 34 = some (c34, 69, [(.tmp 4)]) := by kernel_rfl
def c35 : CCode :=
 (.seq (.region [oo 2 (.mov (.const (.bool false)))])
 (.seq (.region [vv 3 0, oo 4 (.len (T 3)), oo 5 (.ibin .gtr (T 4) (kk 0)), vv 6 5, vt 7 6 0, gt 8 6 (.call (.func 66) [(T 7), (.func 67)]), gt 9 6 (.lnot (T 8)), oo 10 (.pick (T 6) (T 9) (.const (.bool false))), vv 2 10])
 .ret))
theorem f35 : fnC Tryd.prog 35 = some (c35, 11, [(.tmp 2)]) := by kernel_rfl
end Go.Proofs.YtnncijjkbonokaaDoor
namespace Go.Proofs.YtnncijjkbonokaaDoor
open Dak
def c36 : CCode :=
 (.seq (.region [oo 6 (.mov (.const (.slice none 0 0))), oo 7 (.mov (kk 0))])
 (.seq (.seq (.region [vv 11 1, oo 12 (.len (T 11)), oo 13 (.mov (kk 0))])
 (.block 0 (.loop
 (.seq (.region [oo 14 (.ibin .lss (T 13) (T 12))])
 (.seq (.cond (T 14)
 .skip
 (.exit 0))
 (.seq (.block 1 (.seq (.region [oo 15 (.idxS 3 (T 11) (T 13)), oo 16 (.load true 3 (T 15)), oo 9 (.alloc 64 (.agg [(.val (.int .i64 0)), (.val (.int .i64 0)), (.val (.int .i64 0))])), nn (.store 3 (T 9) (T 16))])
 (.seq (.seq (.region [oo 17 (.fieldAddr 2 (T 9)), oo 18 (.load false 1 (T 17))])
 (.block 2 (.seq (.region [oo 20 (.ibin .eql (T 18) (kk 1)), vv 19 20])
 (.cond (T 19)
 (.region [vv 21 0, oo 22 (.bslice 5 1 [(.const (.int .u8 33))]), oo 23 (.append 5 1 1 (T 21) (T 22)), vv 0 23])
 (.seq (.region [oo 25 (.ibin .eql (T 18) (kk (-1))), vv 24 25])
 (.cond (T 24)
 (.region [vv 26 0, oo 27 (.bslice 5 1 [(.const (.int .u8 34))]), oo 28 (.append 5 1 1 (T 26) (T 27)), vv 0 28])
 .skip))))))
 (.seq (.region [oo 10 (.mov (kk 7))])
 (.seq (.seq (.region [oo 29 (.fieldAddr 0 (T 9)), oo 30 (.load false 1 (T 29)), oo 31 (.ibin .geq (T 30) (kk 0))])
 (.cond (T 31)
 (.seq (.region [oo 32 (.fieldAddr 0 (T 9)), oo 33 (.load false 1 (T 32)), oo 34 (.ibin .rem (T 33) (kk 7)), vv 10 34])
 (.seq (.seq (.region [oo 35 (.fieldAddr 0 (T 9)), oo 36 (.load false 1 (T 35)), vv 37 2, oo 38 (.call (.func 59) [(T 36), (T 37)])])
 (.cond (T 38)
 (.region [vv 39 0, oo 40 (.fieldAddr 0 (T 9)), oo 41 (.load false 1 (T 40)), oo 42 (.ibin .quo (T 41) (kk 7)), oo 43 (.idxA 7 1 (.global 0) (T 42)), oo 44 (.load false 1 (T 43)), oo 45 (.bslice 5 1 [(T 44)]), oo 46 (.append 5 1 1 (T 39) (T 45)), vv 0 46])
 .skip))
 (.region [oo 47 (.fieldAddr 0 (T 9)), oo 48 (.load false 1 (T 47)), vv 2 48])))
 .skip))
 (.seq (.seq (.region [oo 49 (.fieldAddr 1 (T 9)), oo 50 (.load false 1 (T 49)), oo 51 (.ibin .eql (T 50) (kk 4))])
 (.cond (T 51)
 (.region [vv 52 0, oo 53 (.bslice 5 1 [(.const (.int .u8 3))]), oo 54 (.append 5 1 1 (T 52) (T 53)), vv 0 54])
 .skip))
 (.drawn [vv 55 0, vv 56 10, oo 57 (.idxA 8 1 (.global 1) (T 56)), oo 58 (.load false 1 (T 57)), oo 59 (.fieldAddr 1 (T 9)), oo 60 (.load false 1 (T 59)), oo 61 (.idxA 5 1 (.global 2) (T 60)), oo 62 (.load false 1 (T 61)), oo 63 (.ibin .add (T 58) (T 62)), oo 64 (.bslice 5 1 [(T 63)])] [(oo 65 (.append 5 1 1 (T 55) (T 64)), []), (vv 0 65, [])])))))))
 (.region [oo 66 (.ibin .add (T 13) (kk 1)), vv 13 66])))))))
 (.seq (.region [vv 67 0, vv 68 2, vv 6 67, vv 7 68])
 .ret)))
theorem f36 : fnC Tryd.prog 36 = some (c36, 69, [(.tmp 6), (.tmp 7)]) := by kernel_rfl
def c37 : CCode :=
 (.seq (.region [oo 2 (.mov (kk 0))])
 (.seq (.seq (.region [vv 4 0, oo 5 (.len (T 4)), oo 6 (.ibin .eql (T 5) (kk 0))])
 (.cond (T 6)
 (.seq (.region [oo 2 (.mov (kk 1))])
 .ret)
 .skip))
 (.seq (.seq (.region [oo 3 (.mov (kk 0))])
 (.block 0 (.loop
 (.seq (.seq (.region [vv 7 3, vv 8 0, oo 9 (.len (T 8)), oo 10 (.ibin .lss (T 7) (T 9))])
 (.cond (T 10)
 .skip
 (.exit 0)))
 (.seq (.block 1 (.seq (.region [vv 13 0, vv 14 3, oo 15 (.idxS 3 (T 13) (T 14)), oo 16 (.load true 3 (T 15)), oo 17 (.call (.func 69) [(T 16)]), oo 18 (.lnot (T 17))])
 (.cond (T 18)
 (.seq (.region [oo 2 (.mov (kk 1))])
 .ret)
 .skip)))
 (.region [vv 11 3, oo 12 (.ibin .add (T 11) (kk 1)), vv 3 12]))))))
 (.seq (.region [oo 2 (.mov (kk 0))])
 .ret))))
theorem f37 : fnC Tryd.prog 37 = some (c37, 19, [(.tmp 2)]) := by kernel_rfl
def c39 : CCode :=
 (.seq (.region [oo 2 (.alloc 71 (.agg [(.val (.slice none 0 0)), (.val (.slice none 0 0)), (.val (.int .i64 0))]))])
 (.seq (.drawn [vv 4 0, oo 5 (.mkslice 30 1 24 (.val (.slice none 0 0)) (T 4) (T 4)), oo 6 (.bslice 3 1 [(kk (-1))]), vv 7 0, oo 8 (.call (.func 71) [(T 6), (T 7)]), oo 9 (.build [(.val (.slice none 0 0)), (.val (.slice none 0 0)), (.val (.int .i64 0))] [(0, (1, (T 5))), (1, (1, (T 8)))]), oo 3 (.alloc 71 (.agg [(.val (.slice none 0 0)), (.val (.slice none 0 0)), (.val (.int .i64 0))]))] [(nn (.store 3 (T 3) (T 9)), [])])
 (.seq (.seq (.region [vv 10 0, oo 11 (.ibin .eql (T 10) (kk 2))])
 (.cond (T 11)
 (.drawn [oo 12 (.fieldAddr 0 (T 3)), oo 13 (.load false 1 (T 12)), oo 14 (.fieldAddr 0 (T 3)), oo 15 (.load false 1 (T 14)), oo 16 (.bslice 5 1 [(.const (.int .u8 60))]), oo 17 (.bslice 5 1 [(.const (.int .u8 28))]), oo 18 (.idxS 1 (T 13) (kk 0))] [(nn (.store 1 (T 18) (T 16)), [oo 14 (.fieldAddr 0 (T 3)), oo 15 (.load false 1 (T 14)), oo 17 (.bslice 5 1 [(.const (.int .u8 28))])]), (oo 19 (.idxS 1 (T 15) (kk 1)), []), (nn (.store 1 (T 19) (T 17)), [])])
 .skip))
 (.seq (.region [oo 20 (.load true 3 (T 3)), nn (.store 3 (T 2) (T 20))])
 .ret))))
theorem f39 : fnC Tryd.prog 39 = some (c39, 21, [(.cell 2 true 3)]) := by kernel_rfl
def c40 : CCode :=
 (.seq (.region [oo 2 (.mov (kk 0))])
 (.seq (.region [oo 3 (.mov (kk 0))])
 (.seq (.seq (.region [vv 6 0, oo 7 (.len (T 6)), oo 8 (.mov (kk 0))])
 (.block 0 (.loop
 (.seq (.region [oo 9 (.ibin .lss (T 8) (T 7))])
 (.seq (.cond (T 9)
 .skip
 (.exit 0))
 (.seq (.block 1 (.seq (.region [oo 10 (.idxS 1 (T 6) (T 8)), oo 11 (.load false 1 (T 10)), vv 5 11])
 (.region [vv 12 3, vv 13 5, oo 14 (.len (T 13)), oo 15 (.imax (T 12) (T 14)), vv 3 15])))
 (.region [oo 16 (.ibin .add (T 8) (kk 1)), vv 8 16])))))))
 (.seq (.region [vv 17 3, vv 2 17])
 .ret))))
theorem f40 : fnC Tryd.prog 40 = some (c40, 18, [(.tmp 2)]) := by kernel_rfl
def c41 : CCode :=
 (.seq (.region [oo 3 (.box 71 (T 0)), oo 4 (.box 25 (T 1)), oo 6 (.alloc 71 (.agg [(.val (.slice none 0 0)), (.val (.slice none 0 0)), (.val (.int .i64 0))]))])
 (.seq (.drawn [oo 11 (.fieldAddr 0 (T 3)), oo 12 (.load false 1 (T 11)), oo 13 (.len (T 12)), oo 14 (.mkslice 30 1 24 (.val (.slice none 0 0)) (T 13) (T 13)), oo 15 (.fieldAddr 0 (T 3)), oo 16 (.load false 1 (T 15)), oo 17 (.len (T 16)), oo 18 (.mkslice 3 1 8 (.val (.int .i64 0)) (T 17) (T 17)), oo 19 (.fieldAddr 2 (T 3)), oo 20 (.load false 1 (T 19)), oo 21 (.ibin .add (T 20) (kk 1)), oo 22 (.build [(.val (.slice none 0 0)), (.val (.slice none 0 0)), (.val (.int .i64 0))] [(0, (1, (T 14))), (1, (1, (T 18))), (2, (1, (T 21)))]), oo 7 (.alloc 71 (.agg [(.val (.slice none 0 0)), (.val (.slice none 0 0)), (.val (.int .i64 0))]))] [(nn (.store 3 (T 7) (T 22)), [])])
 (.seq (.region [oo 23 (.fieldAddr 0 (T 3)), oo 24 (.load false 1 (T 23)), oo 25 (.call (.func 40) [(T 24)]), vv 8 25])
 (.seq (.seq (.region [oo 26 (.fieldAddr 0 (T 3)), oo 27 (.load false 1 (T 26)), oo 28 (.len (T 27)), oo 29 (.mov (kk 0))])
 (.block 0 (.loop
 (.seq (.region [oo 30 (.ibin .lss (T 29) (T 28))])
 (.seq (.cond (T 30)
 .skip
 (.exit 0))
 (.seq (.block 1 (.seq (.region [vv 31 29, oo 32 (.idxS 1 (T 27) (T 29)), oo 33 (.load false 1 (T 32)), vv 9 31, vv 10 33])
 (.seq (.region [vv 34 10, oo 35 (.call (.func 72) [(T 34)]), vv 10 35])
 (.seq (.seq (.region [oo 36 (.fieldAddr 2 (T 3)), oo 37 (.load false 1 (T 36)), oo 38 (.ibin .gtr (T 37) (kk 0))])
 (.cond (T 38)
 (.region [vv 39 10, vv 40 8, vv 41 10, oo 42 (.len (T 41)), oo 43 (.ibin .sub (T 40) (T 42)), oo 44 (.appendZ 5 1 1 (.val (.int .u8 0)) (T 39) (T 43)), oo 45 (.bslice 5 1 [(.const (.int .u8 0))]), oo 46 (.append 5 1 1 (T 44) (T 45)), vv 10 46])
 .skip))
 (.drawn [oo 48 (.fieldAddr 0 (T 7)), oo 49 (.load false 1 (T 48)), vv 50 9, oo 51 (.fieldAddr 1 (T 7)), oo 52 (.load false 1 (T 51)), vv 53 9, vv 54 10, oo 55 (.fieldAddr 0 (T 4)), oo 56 (.load false 1 (T 55)), vv 57 9, oo 58 (.idxS 1 (T 56) (T 57)), oo 59 (.load false 1 (T 58)), vv 60 2, oo 61 (.idxS 1 (T 59) (T 60)), oo 62 (.load false 1 (T 61)), oo 63 (.fieldAddr 1 (T 3)), oo 64 (.load false 1 (T 63)), vv 65 9, oo 66 (.idxS 1 (T 64) (T 65)), oo 67 (.load false 1 (T 66))] [(oo 68 (.call (.func 36) [(T 54), (T 62), (T 67)]), [oo 48 (.fieldAddr 0 (T 7)), oo 49 (.load false 1 (T 48)), vv 50 9, oo 51 (.fieldAddr 1 (T 7)), oo 52 (.load false 1 (T 51)), vv 53 9]), (vv 47 68, [oo 48 (.fieldAddr 0 (T 7)), oo 49 (.load false 1 (T 48)), vv 50 9, oo 51 (.fieldAddr 1 (T 7)), oo 52 (.load false 1 (T 51)), vv 53 9]), (oo 69 (.extract (T 47) 0), [oo 48 (.fieldAddr 0 (T 7)), oo 49 (.load false 1 (T 48)), vv 50 9, oo 51 (.fieldAddr 1 (T 7)), oo 52 (.load false 1 (T 51)), vv 53 9]), (oo 70 (.extract (T 47) 1), [oo 48 (.fieldAddr 0 (T 7)), oo 49 (.load false 1 (T 48)), vv 50 9, oo 51 (.fieldAddr 1 (T 7)), oo 52 (.load false 1 (T 51)), vv 53 9]), (oo 71 (.idxS 1 (T 49) (T 50)), [oo 51 (.fieldAddr 1 (T 7)), oo 52 (.load false 1 (T 51)), vv 53 9]), (nn (.store 1 (T 71) (T 69)), [oo 51 (.fieldAddr 1 (T 7)), oo 52 (.load false 1 (T 51)), vv 53 9]), (oo 72 (.idxS 1 (T 52) (T 53)), []), (nn (.store 1 (T 72) (T 70)), [])])))))
 (.region [oo 73 (.ibin .add (T 29) (kk 1)), vv 29 73])))))))
 (.seq (.region [oo 74 (.load true 3 (T 7)), nn (.store 3 (T 6) (T 74))])
 .ret)))))
theorem f41 : fnC Tryd.prog 41 = some (c41, 75, [(.cell 6 true 3)]) := by kernel_rfl
def c43 : CCode :=
 (.seq (.region [oo 3 (.box 3 (T 1)), oo 4 (.alloc 25 (.agg [(.val (.slice none 0 0))])), oo 5 (.alloc 4 (.val (.bool false)))])
 (.seq (.region [oo 19 (.load false 1 (T 3)), oo 20 (.mkslice 28 1 24 (.val (.slice none 0 0)) (T 19) (T 19)), oo 21 (.build [(.val (.slice none 0 0))] [(0, (1, (T 20)))]), oo 6 (.alloc 25 (.agg [(.val (.slice none 0 0))])), nn (.store 1 (T 6) (T 21))])
 (.seq (.seq (.region [vv 22 0, oo 23 (.len (T 22)), oo 24 (.ibin .eql (T 23) (kk 0)), vv 25 24, vf 26 25 0, gf 27 25 (.len (T 26)), gf 28 25 (.load false 1 (T 3)), gf 29 25 (.ibin .rem (T 27) (T 28)), gf 30 25 (.ibin .neq (T 29) (kk 0)), oo 31 (.pick (T 25) (.const (.bool true)) (T 30)), vv 32 31, vf 33 32 0, gf 34 32 (.len (T 33)), gf 35 32 (.ibin .gtr (T 34) (kk 64)), oo 36 (.pick (T 32) (.const (.bool true)) (T 35))])
 (.cond (T 36)
 (.seq (.region [oo 37 (.load true 1 (T 6)), nn (.store 1 (T 4) (T 37)), nn (.store 1 (T 5) (.const (.bool false)))])
 .ret)
 .skip))
 (.seq (.seq (.region [vv 38 0, oo 39 (.load false 1 (T 3)), oo 40 (.call (.func 73) [(T 38), (T 39)])])
 (.block 0 (.rangeF (T 40) [41] [(7, (T 41))] (.block 1 (.seq (.region [vv 42 7, oo 43 (.call (.func 74) [(T 42)]), vv 8 43]) (.seq (.seq (.region [vv 44 8, oo 45 (.len (T 44)), oo 46 (.mov (kk 0))]) (.block 2 (.loop (.seq (.region [oo 47 (.ibin .lss (T 46) (T 45))]) (.seq (.cond (T 47) .skip (.exit 2)) (.seq (.block 3 (.seq (.region [vv 48 46, oo 49 (.idxS 1 (T 44) (T 46)), oo 50 (.load false 1 (T 49)), vv 9 48, vv 10 50]) (.seq (.seq (.region [vv 51 10, oo 52 (.len (T 51)), oo 53 (.ibin .gtr (T 52) (kk 40)), vv 54 53, vf 55 54 10, gf 56 54 (.len (T 55)), gf 57 54 (.load false 1 (T 3)), gf 58 54 (.ibin .sub (T 57) (kk 1)), gf 59 54 (.ibin .lss (T 56) (T 58)), oo 60 (.pick (T 54) (.const (.bool true)) (T 59))]) (.cond (T 60) (.seq (.region [oo 61 (.load true 1 (T 6)), nn (.store 1 (T 4) (T 61)), nn (.store 1 (T 5) (.const (.bool false)))]) .ret) .skip)) (.region [vv 62 8, vv 63 9, vv 64 10, oo 65 (.load false 1 (T 3)), oo 66 (.ibin .sub (T 65) (kk 1)), oo 67 (.slice 1 (T 64) (some (T 66)) none), oo 68 (.idxS 1 (T 62) (T 63)), nn (.store 1 (T 68) (T 67))])))) (.region [oo 69 (.ibin .add (T 46) (kk 1)), vv 46 69]))))))) (.seq (.region [vv 70 8, oo 71 (.call (.func 75) [(T 70)]), oo 72 (.len (T 71)), oo 73 (.mov (kk 0))]) (.block 4 (.loop (.seq (.region [oo 74 (.ibin .lss (T 73) (T 72))]) (.seq (.cond (T 74) .skip (.exit 4)) (.seq (.block 5 (.seq (.region [vv 75 73, oo 76 (.idxS 1 (T 71) (T 73)), oo 77 (.load false 1 (T 76)), vv 11 75, vv 12 77]) (.seq (.region [oo 13 (.mov (kk (-1)))]) (.seq (.region [vv 78 12, oo 79 (.len (T 78)), oo 80 (.mov (kk 0))]) (.block 6 (.loop (.seq (.region [oo 81 (.ibin .lss (T 80) (T 79))]) (.seq (.cond (T 81) .skip (.exit 6)) (.seq (.block 7 (.seq (.region [oo 82 (.idxS 1 (T 78) (T 80)), oo 83 (.load false 1 (T 82)), vv 15 83]) (.seq (.region [vv 85 15, vv 86 13, oo 87 (.call (.func 76) [(T 85), (T 86)]), vv 84 87, oo 88 (.extract (T 84) 0), oo 89 (.extract (T 84) 1), oo 90 (.extract (T 84) 2), vv 16 88, vv 17 89, vv 18 90]) (.seq (.seq (.region [vv 91 18, oo 92 (.lnot (T 91))]) (.cond (T 92) (.seq (.region [oo 93 (.load true 1 (T 6)), nn (.store 1 (T 4) (T 93)), nn (.store 1 (T 5) (.const (.bool false)))]) .ret) .skip)) (.seq (.region [vv 94 17, vv 13 94]) (.drawn [oo 95 (.fieldAddr 0 (T 6)), oo 96 (.load false 1 (T 95)), vv 97 11, oo 98 (.fieldAddr 0 (T 6)), oo 99 (.load false 1 (T 98)), vv 100 11, oo 101 (.idxS 1 (T 99) (T 100)), oo 102 (.load false 1 (T 101)), vv 103 16, oo 104 (.bslice 34 1 [(T 103)])] [(oo 105 (.append 34 1 24 (T 102) (T 104)), [oo 95 (.fieldAddr 0 (T 6)), oo 96 (.load false 1 (T 95)), vv 97 11]), (oo 106 (.idxS 1 (T 96) (T 97)), []), (nn (.store 1 (T 106) (T 105)), [])])))))) (.region [oo 107 (.ibin .add (T 80) (kk 1)), vv 80 107])))))))))) (.region [oo 108 (.ibin .add (T 73) (kk 1)), vv 73 108])))))))))))))
 (.seq (.drawn [oo 109 (.load true 1 (T 6)), oo 110 (.load true 1 (T 6)), oo 111 (.call (.func 28) [(T 110)]), oo 112 (.ibin .eql (T 111) (kk 0))] [(nn (.store 1 (T 4) (T 109)), [oo 112 (.ibin .eql (T 111) (kk 0))]), (nn (.store 1 (T 5) (T 112)), [])])
 .ret)))))
theorem f43 : fnC Tryd.prog 43 = some (c43, 113, [(.cell 4 true 1), (.cell 5 false 1)]) := by kernel_rfl
def c44 : CCode :=
 (.seq (.region [oo 6 (.mov (.const (.bool false)))])
 (.seq (.seq (.region [vv 10 0, oo 11 (.len (T 10)), vv 12 1, oo 13 (.len (T 12)), oo 14 (.ibin .neq (T 11) (T 13))])
 (.cond (T 14)
 (.seq (.region [oo 6 (.mov (.const (.bool false)))])
 .ret)
 .skip))
 (.seq (.seq (.region [vv 15 0, oo 16 (.len (T 15)), oo 17 (.mov (kk 0))])
 (.block 0 (.loop
 (.seq (.region [oo 18 (.ibin .lss (T 17) (T 16))])
 (.seq (.cond (T 18)
 .skip
 (.exit 0))
 (.seq (.block 1 (.seq (.region [vv 19 17, oo 20 (.idxS 1 (T 15) (T 17)), oo 21 (.load false 1 (T 20)), vv 7 19, vv 8 21])
 (.seq (.region [vv 22 1, vv 23 7, oo 24 (.idxS 1 (T 22) (T 23)), oo 25 (.load false 1 (T 24)), vv 9 25])
 (.seq (.region [vv 26 2, vv 27 8, vv 28 9, oo 29 (.call (T 26) [(T 27), (T 28)]), oo 30 (.lnot (T 29))])
 (.cond (T 30)
 (.seq (.region [oo 6 (.mov (.const (.bool false)))])
 .ret)
 .skip)))))
 (.region [oo 31 (.ibin .add (T 17) (kk 1)), vv 17 31])))))))
 (.seq (.region [oo 6 (.mov (.const (.bool true)))])
 .ret))))
theorem f44 : fnC Tryd.prog 44 = some (c44, 32, [(.tmp 6)]) := by kernel_rfl
def c45 : CCode :=
 (.seq (.region [oo 4 (.mov (.const (.bool false)))])
 (.seq (.region [vv 5 0, vv 6 1, oo 7 (.call (.func 46) [(T 5), (T 6)]), vv 4 7])
 .ret))
theorem f45 : fnC Tryd.prog 45 = some (c45, 8, [(.tmp 4)]) := by kernel_rfl
def c46 : CCode :=
 (.seq (.region [oo 4 (.mov (.const (.bool false)))])
 (.seq (.seq (.region [vv 6 0, oo 7 (.len (T 6)), vv 8 1, oo 9 (.len (T 8)), oo 10 (.ibin .neq (T 7) (T 9))])
 (.cond (T 10)
 (.seq (.region [oo 4 (.mov (.const (.bool false)))])
 .ret)
 .skip))
 (.seq (.seq (.region [vv 11 0, oo 12 (.len (T 11)), oo 13 (.mov (kk 0))])
 (.block 0 (.loop
 (.seq (.region [oo 14 (.ibin .lss (T 13) (T 12))])
 (.seq (.cond (T 14)
 .skip
 (.exit 0))
 (.seq (.block 1 (.seq (.region [vv 15 13, vv 5 15])
 (.seq (.drawn [vv 16 0, vv 17 5, oo 18 (.idxS 1 (T 16) (T 17)), oo 19 (.load false 1 (T 18)), vv 20 1, vv 21 5, oo 22 (.idxS 1 (T 20) (T 21)), oo 23 (.load false 1 (T 22)), oo 24 (.ibin .neq (T 19) (T 23))] [])
 (.cond (T 24)
 (.seq (.region [oo 4 (.mov (.const (.bool false)))])
 .ret)
 .skip))))
 (.region [oo 25 (.ibin .add (T 13) (kk 1)), vv 13 25])))))))
 (.seq (.region [oo 4 (.mov (.const (.bool true)))])
 .ret))))
theorem f46 : fnC Tryd.prog 46 = some (c46, 26, [(.tmp 4)]) := by kernel_rfl
def c47 : CCode :=
 (.seq (.region [oo 4 (.mov (.const (.bool false)))])
 (.seq (.seq (.region [vv 6 0, oo 7 (.len (T 6)), vv 8 1, oo 9 (.len (T 8)), oo 10 (.ibin .neq (T 7) (T 9))])
 (.cond (T 10)
 (.seq (.region [oo 4 (.mov (.const (.bool false)))])
 .ret)
 .skip))
 (.seq (.seq (.region [oo 5 (.mov (kk 0))])
 (.block 0 (.loop
 (.seq (.seq (.region [vv 11 5, vv 12 0, oo 13 (.len (T 12)), oo 14 (.ibin .lss (T 11) (T 13))])
 (.cond (T 14)
 .skip
 (.exit 0)))
 (.seq (.block 1 (.seq (.drawn [vv 17 0, vv 18 5, oo 19 (.idxS 3 (T 17) (T 18)), oo 20 (.load true 3 (T 19)), vv 21 1, vv 22 5, oo 23 (.idxS 3 (T 21) (T 22)), oo 24 (.load true 3 (T 23)), oo 25 (.aeq true 3 (T 20) (T 24))] [])
 (.cond (T 25)
 (.seq (.region [oo 4 (.mov (.const (.bool false)))])
 .ret)
 .skip)))
 (.region [vv 15 5, oo 16 (.ibin .add (T 15) (kk 1)), vv 5 16]))))))
 (.seq (.region [oo 4 (.mov (.const (.bool true)))])
 .ret))))
theorem f47 : fnC Tryd.prog 47 = some (c47, 26, [(.tmp 4)]) := by kernel_rfl
def c53 : CCode :=
 (.seq (.region [oo 2 (.mov (.const (.bool false)))])
 (.seq (.region [vv 3 0, oo 4 (.len (T 3)), oo 5 (.ibin .gtr (T 4) (kk 32)), vv 6 5, vf 7 6 0, gf 8 6 (.call (.func 54) [(T 7), (.func 55)]), oo 9 (.pick (T 6) (.const (.bool true)) (T 8)), vv 2 9])
 .ret))
theorem f53 : fnC Tryd.prog 53 = some (c53, 10, [(.tmp 2)]) := by kernel_rfl
def c54 : CCode :=
 (.seq (.region [oo 4 (.mov (.const (.bool false)))])
 (.seq (.region [vv 5 0, vv 6 1, oo 7 (.call (.func 81) [(T 5), (T 6)]), oo 8 (.ibin .geq (T 7) (kk 0)), vv 4 8])
 .ret))
theorem f54 : fnC Tryd.prog 54 = some (c54, 9, [(.tmp 4)]) := by kernel_rfl
def c55 : CCode :=
 (.seq (.region [oo 2 (.mov (.const (.bool false)))])
 (.seq (.region [vv 3 0, oo 4 (.len (T 3)), oo 5 (.ibin .gtr (T 4) (kk 16)), vv 2 5])
 .ret))
theorem f55 : fnC Tryd.prog 55 = some (c55, 6, [(.tmp 2)]) := by kernel_rfl
def c56 : CCode :=
 (.seq (.region [oo 3 (.mov (.const (.bool false)))])
 (.seq (.region [vv 4 0, oo 5 (.len (T 4)), oo 6 (.ibin .eql (T 5) (kk 0)), vv 7 6, vf 8 7 0, gf 9 7 (.len (T 8)), gf 10 7 (.fieldAddr 0 (T 1)), gf 11 7 (.load false 1 (T 10)), gf 12 7 (.idxS 1 (T 11) (kk 0)), gf 13 7 (.load false 1 (T 12)), gf 14 7 (.len (T 13)), gf 15 7 (.ibin .neq (T 9) (T 14)), oo 16 (.pick (T 7) (.const (.bool true)) (T 15)), vv 17 16, vf 18 17 0, gf 19 17 (.call (.func 54) [(T 18), (.func 57)]), oo 20 (.pick (T 17) (.const (.bool true)) (T 19)), vv 3 20])
 .ret))
theorem f56 : fnC Tryd.prog 56 = some (c56, 21, [(.tmp 3)]) := by kernel_rfl
def c57 : CCode :=
 (.seq (.region [oo 2 (.mov (.const (.bool false)))])
 (.seq (.region [vv 3 0, oo 4 (.call (.func 35) [(T 3)]), oo 5 (.lnot (T 4)), vv 2 5])
 .ret))
theorem f57 : fnC Tryd.prog 57 = some (c57, 6, [(.tmp 2)]) := by kernel_rfl
def c58 : CCode :=
 (.seq (.region [oo 4 (.mov (.const (.bool false)))])
 (.seq (.region [vv 5 0, vv 6 1, oo 7 (.call (.func 82) [(T 5), (T 6)]), oo 8 (.ibin .geq (T 7) (kk 0)), vv 4 8])
 .ret))
theorem f58 : fnC Tryd.prog 58 = some (c58, 9, [(.tmp 4)]) := by kernel_rfl
def c59 : CCode :=
 (.seq (.region [oo 4 (.mov (.const (.bool false)))])
 (.seq (.region [vv 6 0, vv 7 1, oo 8 (.ibin .sub (T 6) (T 7)), vv 9 1, vv 10 0, oo 11 (.ibin .sub (T 9) (T 10)), oo 12 (.imax (T 8) (T 11)), vv 5 12])
 (.seq (.region [vv 13 1, oo 14 (.ibin .lss (T 13) (kk 0)), vv 15 14, vf 16 15 5, gf 17 15 (.ibin .geq (T 16) (kk 5)), oo 18 (.pick (T 15) (.const (.bool true)) (T 17)), vv 19 18, vf 20 19 5, gf 21 19 (.ibin .geq (T 20) (kk 3)), vf 22 19 21, vt 23 22 0, gt 24 22 (.ibin .quo (T 23) (kk 7)), vt 25 22 1, gt 26 22 (.ibin .quo (T 25) (kk 7)), gt 27 22 (.ibin .neq (T 24) (T 26)), gf 28 19 (.pick (T 22) (T 27) (.const (.bool false))), oo 29 (.pick (T 19) (.const (.bool true)) (T 28)), vv 4 29])
 .ret)))
theorem f59 : fnC Tryd.prog 59 = some (c59, 30, [(.tmp 4)]) := by kernel_rfl
def c60 : CCode :=
 (.seq (.region [oo 4 (.mov (.const (.bool false)))])
 (.seq (.seq (.region [vv 6 0, oo 7 (.ibin .lss (T 6) (kk 0))])
 (.cond (T 7)
 (.seq (.region [oo 4 (.mov (.const (.bool false)))])
 .ret)
 .skip))
 (.seq (.seq (.region [vv 8 1, oo 9 (.ibin .lss (T 8) (kk 0))])
 (.cond (T 9)
 (.seq (.region [oo 4 (.mov (.const (.bool true)))])
 .ret)
 .skip))
 (.seq (.region [vv 10 0, vv 11 1, oo 12 (.ibin .sub (T 10) (T 11)), vv 13 1, vv 14 0, oo 15 (.ibin .sub (T 13) (T 14)), oo 16 (.imax (T 12) (T 15)), vv 5 16])
 (.seq (.region [vv 17 5, oo 18 (.ibin .geq (T 17) (kk 5)), vv 19 18, vf 20 19 5, gf 21 19 (.ibin .geq (T 20) (kk 3)), vf 22 19 21, vt 23 22 0, gt 24 22 (.ibin .quo (T 23) (kk 7)), vt 25 22 1, gt 26 22 (.ibin .quo (T 25) (kk 7)), gt 27 22 (.ibin .neq (T 24) (T 26)), gf 28 19 (.pick (T 22) (T 27) (.const (.bool false))), oo 29 (.pick (T 19) (.const (.bool true)) (T 28)), vv 4 29])
 .ret)))))
theorem f60 : fnC Tryd.prog 60 = some (c60, 30, [(.tmp 4)]) := by kernel_rfl
end Go.Proofs.YtnncijjkbonokaaDoor
namespace Go.Proofs.YtnncijjkbonokaaDoor
open Dak
def c65 : CCode :=
 (.seq (.region [oo 4 (.mov (.const (.bool false)))])
 (.seq (.seq (.region [vv 6 0, oo 7 (.len (T 6)), vv 8 1, oo 9 (.len (T 8)), oo 10 (.ibin .neq (T 7) (T 9))])
 (.cond (T 10)
 (.seq (.region [oo 4 (.mov (.const (.bool false)))])
 .ret)
 .skip))
 (.seq (.seq (.region [vv 11 0, oo 12 (.len (T 11)), oo 13 (.mov (kk 0))])
 (.block 0 (.loop
 (.seq (.region [oo 14 (.ibin .lss (T 13) (T 12))])
 (.seq (.cond (T 14)
 .skip
 (.exit 0))
 (.seq (.block 1 (.seq (.region [vv 15 13, vv 5 15])
 (.seq (.drawn [vv 16 0, vv 17 5, oo 18 (.idxS 3 (T 16) (T 17)), oo 19 (.load true 3 (T 18)), vv 20 1, vv 21 5, oo 22 (.idxS 3 (T 20) (T 21)), oo 23 (.load true 3 (T 22)), oo 24 (.aeq true 3 (T 19) (T 23))] [])
 (.cond (T 24)
 (.seq (.region [oo 4 (.mov (.const (.bool false)))])
 .ret)
 .skip))))
 (.region [oo 25 (.ibin .add (T 13) (kk 1)), vv 13 25])))))))
 (.seq (.region [oo 4 (.mov (.const (.bool true)))])
 .ret))))
theorem f65 : fnC Tryd.prog 65 = some (c65, 26, [(.tmp 4)]) := by kernel_rfl
def c66 : CCode :=
 (.seq (.region [oo 4 (.mov (.const (.bool false)))])
 (.seq (.region [vv 5 0, vv 6 1, oo 7 (.call (.func 83) [(T 5), (T 6)]), oo 8 (.ibin .geq (T 7) (kk 0)), vv 4 8])
 .ret))
theorem f66 : fnC Tryd.prog 66 = some (c66, 9, [(.tmp 4)]) := by kernel_rfl
def c67 : CCode :=
 (.seq (.region [oo 1 (.box 64 (T 0)), oo 2 (.mov (.const (.bool false)))])
 (.seq (.region [oo 3 (.load true 3 (T 1)), oo 4 (.call (.func 68) [(T 3)]), oo 5 (.lnot (T 4)), vv 2 5])
 .ret))
theorem f67 : fnC Tryd.prog 67 = some (c67, 6, [(.tmp 2)]) := by kernel_rfl
def c68 : CCode :=
 (.seq (.region [oo 1 (.box 64 (T 0)), oo 2 (.mov (.const (.bool false)))])
 (.seq (.region [oo 3 (.fieldAddr 0 (T 1)), oo 4 (.load false 1 (T 3)), oo 5 (.ibin .geq (T 4) (kk (-1))), vv 6 5, gt 7 6 (.fieldAddr 0 (T 1)), gt 8 6 (.load false 1 (T 7)), gt 9 6 (.ibin .leq (T 8) (kk 48)), oo 10 (.pick (T 6) (T 9) (.const (.bool false))), vv 11 10, gt 12 11 (.fieldAddr 1 (T 1)), gt 13 11 (.load false 1 (T 12)), gt 14 11 (.ibin .geq (T 13) (kk 0)), oo 15 (.pick (T 11) (T 14) (.const (.bool false))), vv 16 15, gt 17 16 (.fieldAddr 1 (T 1)), gt 18 16 (.load false 1 (T 17)), gt 19 16 (.ibin .lss (T 18) (kk 5)), oo 20 (.pick (T 16) (T 19) (.const (.bool false))), vv 21 20, gt 22 21 (.fieldAddr 2 (T 1)), gt 23 21 (.load false 1 (T 22)), gt 24 21 (.fieldAddr 2 (T 1)), gt 25 21 (.load false 1 (T 24)), gt 26 21 (.neg (T 25)), gt 27 21 (.imax (T 23) (T 26)), gt 28 21 (.ibin .leq (T 27) (kk 1)), oo 29 (.pick (T 21) (T 28) (.const (.bool false))), vv 30 29, gt 31 30 (.fieldAddr 0 (T 1)), gt 32 30 (.load false 1 (T 31)), gt 33 30 (.ibin .geq (T 32) (kk 0)), vt 34 30 33, gf 35 34 (.fieldAddr 2 (T 1)), gf 36 34 (.load false 1 (T 35)), gf 37 34 (.ibin .eql (T 36) (kk 0)), gt 38 30 (.pick (T 34) (.const (.bool true)) (T 37)), oo 39 (.pick (T 30) (T 38) (.const (.bool false))), vv 2 39])
 .ret))
theorem f68 : fnC Tryd.prog 68 = some (c68, 40, [(.tmp 2)]) := by kernel_rfl
def c69 : CCode :=
 (.seq (.region [oo 1 (.box 64 (T 0)), oo 2 (.mov (.const (.bool false)))])
 (.seq (.seq (.region [oo 3 (.fieldAddr 0 (T 1)), oo 4 (.load false 1 (T 3)), oo 5 (.ibin .lss (T 4) (kk (-1))), vv 6 5, gf 7 6 (.fieldAddr 0 (T 1)), gf 8 6 (.load false 1 (T 7)), gf 9 6 (.ibin .gtr (T 8) (kk 48)), oo 10 (.pick (T 6) (.const (.bool true)) (T 9)), vv 11 10, gf 12 11 (.fieldAddr 1 (T 1)), gf 13 11 (.load false 1 (T 12)), gf 14 11 (.ibin .lss (T 13) (kk 0)), oo 15 (.pick (T 11) (.const (.bool true)) (T 14)), vv 16 15, gf 17 16 (.fieldAddr 1 (T 1)), gf 18 16 (.load false 1 (T 17)), gf 19 16 (.ibin .gtr (T 18) (kk 4)), oo 20 (.pick (T 16) (.const (.bool true)) (T 19)), vv 21 20, gf 22 21 (.fieldAddr 2 (T 1)), gf 23 21 (.load false 1 (T 22)), gf 24 21 (.ibin .lss (T 23) (kk (-1))), oo 25 (.pick (T 21) (.const (.bool true)) (T 24)), vv 26 25, gf 27 26 (.fieldAddr 2 (T 1)), gf 28 26 (.load false 1 (T 27)), gf 29 26 (.ibin .gtr (T 28) (kk 1)), oo 30 (.pick (T 26) (.const (.bool true)) (T 29))])
 (.cond (T 30)
 (.seq (.region [oo 2 (.mov (.const (.bool false)))])
 .ret)
 .skip))
 (.seq (.region [oo 31 (.fieldAddr 0 (T 1)), oo 32 (.load false 1 (T 31)), oo 33 (.ibin .geq (T 32) (kk 0)), vv 34 33, gf 35 34 (.fieldAddr 2 (T 1)), gf 36 34 (.load false 1 (T 35)), gf 37 34 (.ibin .eql (T 36) (kk 0)), oo 38 (.pick (T 34) (.const (.bool true)) (T 37)), vv 2 38])
 .ret)))
theorem f69 : fnC Tryd.prog 69 = some (c69, 39, [(.tmp 2)]) := by kernel_rfl
def c71 : CCode :=
 (.seq (.region [oo 4 (.mov (.const (.slice none 0 0)))])
 (.seq (.seq (.region [vv 9 1, oo 10 (.ibin .lss (T 9) (kk 0))])
 (.cond (T 10)
 (.region [oo 11 (.bad), nn (.bad)])
 .skip))
 (.seq (.region [vv 13 0, oo 14 (.len (T 13)), oo 15 (.conv .u64 (T 14)), vv 16 1, oo 17 (.conv .u64 (T 16)), oo 18 (.call (.func 84) [(T 15), (T 17)]), vv 12 18, oo 19 (.extract (T 12) 0), oo 20 (.extract (T 12) 1), vv 5 19, vv 6 20])
 (.seq (.seq (.region [vv 21 5, oo 22 (.ibin .gtr (T 21) (.const (.int .u64 0))), vv 23 22, vf 24 23 6, gf 25 23 (.ibin .gtr (T 24) (.const (.int .u64 9223372036854775807))), oo 26 (.pick (T 23) (.const (.bool true)) (T 25))])
 (.cond (T 26)
 (.region [oo 27 (.bad), nn (.bad)])
 .skip))
 (.seq (.region [vv 28 6, oo 29 (.conv .i64 (T 28)), oo 30 (.mkslice 3 1 8 (.val (.int .i64 0)) (T 29) (T 29)), vv 7 30])
 (.seq (.region [vv 31 7, vv 32 0, oo 33 (.copy 1 (T 31) (T 32)), vv 8 33])
 (.seq (.block 0 (.loop
 (.seq (.seq (.region [vv 34 8, vv 35 7, oo 36 (.len (T 35)), oo 37 (.ibin .lss (T 34) (T 36))])
 (.cond (T 37)
 .skip
 (.exit 0)))
 (.block 1 (.drawn [vv 38 8, vv 39 7, vv 40 8, oo 41 (.slice 1 (T 39) (some (T 40)) none), vv 42 7, vv 43 8, oo 44 (.slice 1 (T 42) none (some (T 43)))] [(oo 45 (.copy 1 (T 41) (T 44)), [vv 38 8]), (oo 46 (.ibin .add (T 38) (T 45)), []), (vv 8 46, [])])))))
 (.seq (.region [vv 47 7, vv 4 47])
 .ret))))))))
theorem f71 : fnC Tryd.prog 71 = some (c71, 48, [(.tmp 4)]) := by kernel_rfl
def c72 : CCode :=
 (.seq (.region [oo 2 (.mov (.const (.slice none 0 0)))])
 (.seq (.seq (.region [vv 3 0, oo 4 (.isNil true false (T 3) (.const (.slice none 0 0)))])
 (.cond (T 4)
 (.seq (.region [oo 2 (.mov (.const (.slice none 0 0)))])
 .ret)
 .skip))
 (.seq (.region [oo 5 (.bslice 5 1 []), vv 6 0, oo 7 (.append 5 1 1 (T 5) (T 6)), vv 2 7])
 .ret)))
theorem f72 : fnC Tryd.prog 72 = some (c72, 8, [(.tmp 2)]) := by kernel_rfl
def c73 : CCode :=
 (.seq (.region [oo 2 (.box 40 (T 0)), oo 3 (.box 3 (T 1)), oo 4 (.mov (.const .nilFunc))])
 (.seq (.seq (.region [oo 5 (.load false 1 (T 3)), oo 6 (.ibin .lss (T 5) (kk 1))])
 (.cond (T 6)
 (.region [oo 7 (.bad), nn (.bad)])
 .skip))
 (.seq (.region [oo 8 (.mkfunc (.func 85) [(T 2), (T 3)]), vv 4 8])
 .ret)))
theorem f73 : fnC Tryd.prog 73 = some (c73, 9, [(.tmp 4)]) := by kernel_rfl
def c74 : CCode :=
 (.seq (.region [oo 2 (.mov (.const (.slice none 0 0)))])
 (.seq (.seq (.region [vv 3 0, oo 4 (.isNil true false (T 3) (.const (.slice none 0 0)))])
 (.cond (T 4)
 (.seq (.region [oo 2 (.mov (.const (.slice none 0 0)))])
 .ret)
 .skip))
 (.seq (.region [oo 5 (.bslice 30 1 []), vv 6 0, oo 7 (.append 30 1 24 (T 5) (T 6)), vv 2 7])
 .ret)))
theorem f74 : fnC Tryd.prog 74 = some (c74, 8, [(.tmp 2)]) := by kernel_rfl
def c75 : CCode :=
 (.seq (.region [oo 2 (.mov (.const (.slice none 0 0)))])
 (.seq (.region [vv 9 0, oo 10 (.len (T 9)), oo 11 (.mkslice 39 1 24 (.val (.slice none 0 0)) (T 10) (T 10)), vv 3 11])
 (.seq (.region [oo 4 (.mov (kk 0))])
 (.seq (.seq (.region [oo 5 (.alloc 3 (.val (.int .i64 0))), nn (.store 1 (T 5) (kk 0))])
 (.block 0 (.loop
 (.seq (.seq (.drawn [oo 12 (.load false 1 (T 5)), vv 13 0] [(oo 14 (.call (.func 40) [(T 13)]), [oo 12 (.load false 1 (T 5))]), (oo 15 (.ibin .leq (T 12) (T 14)), [])])
 (.cond (T 15)
 .skip
 (.exit 0)))
 (.seq (.block 1 (.seq (.seq (.region [vv 18 0, oo 19 (.mkfunc (.func 87) [(T 5)]), oo 20 (.call (.func 86) [(T 18), (T 19)])])
 (.cond (T 20)
 (.exit 1)
 .skip))
 (.seq (.seq (.region [vv 21 0, oo 22 (.len (T 21)), oo 23 (.mov (kk 0))])
 (.block 2 (.loop
 (.seq (.region [oo 24 (.ibin .lss (T 23) (T 22))])
 (.seq (.cond (T 24)
 .skip
 (.exit 2))
 (.seq (.block 3 (.seq (.region [vv 25 23, oo 26 (.idxS 1 (T 21) (T 23)), oo 27 (.load false 1 (T 26)), vv 6 25, vv 7 27])
 (.seq (.region [vv 28 7, vv 29 4, vv 30 7, oo 31 (.len (T 30)), oo 32 (.imin (T 29) (T 31)), oo 33 (.load false 1 (T 5)), vv 34 7, oo 35 (.len (T 34)), oo 36 (.imin (T 33) (T 35)), oo 37 (.slice 1 (T 28) (some (T 32)) (some (T 36))), vv 8 37])
 (.seq (.block 4 (.loop
 (.seq (.seq (.region [vv 38 8, oo 39 (.len (T 38)), oo 40 (.ibin .gtr (T 39) (kk 0)), vv 41 40, vt 42 41 8, vt 43 41 8, gt 44 41 (.len (T 43)), gt 45 41 (.ibin .sub (T 44) (kk 1)), gt 46 41 (.idxS 1 (T 42) (T 45)), gt 47 41 (.load false 1 (T 46)), gt 48 41 (.ibin .eql (T 47) (.const (.int .u8 0))), oo 49 (.pick (T 41) (T 48) (.const (.bool false)))])
 (.cond (T 49)
 .skip
 (.exit 4)))
 (.block 5 (.region [vv 50 8, vv 51 8, oo 52 (.len (T 51)), oo 53 (.ibin .sub (T 52) (kk 1)), oo 54 (.slice 1 (T 50) none (some (T 53))), vv 8 54])))))
 (.region [vv 55 3, vv 56 6, vv 57 3, vv 58 6, oo 59 (.idxS 1 (T 57) (T 58)), oo 60 (.load false 1 (T 59)), vv 61 8, oo 62 (.bslice 30 1 [(T 61)]), oo 63 (.append 30 1 24 (T 60) (T 62)), oo 64 (.idxS 1 (T 55) (T 56)), nn (.store 1 (T 64) (T 63))])))))
 (.region [oo 65 (.ibin .add (T 23) (kk 1)), vv 23 65])))))))
 (.region [oo 66 (.load false 1 (T 5)), oo 67 (.ibin .add (T 66) (kk 1)), vv 4 67]))))
 (.seq (.seq (.region [oo 68 (.load false 1 (T 5))])
 (.region [oo 5 (.alloc 3 (.val (.int .i64 0))), nn (.store 1 (T 5) (T 68))]))
 (.region [oo 16 (.load false 1 (T 5)), oo 17 (.ibin .add (T 16) (kk 1)), nn (.store 1 (T 5) (T 17))])))))))
 (.seq (.region [vv 69 3, vv 2 69])
 .ret)))))
theorem f75 : fnC Tryd.prog 75 = some (c75, 70, [(.tmp 2)]) := by kernel_rfl
def c76 : CCode :=
 (.seq (.region [oo 2 (.box 30 (T 0)), oo 4 (.mov (.const (.slice none 0 0))), oo 5 (.mov (kk 0)), oo 6 (.mov (.const (.bool false)))])
 (.seq (.region [oo 7 (.alloc 3 (.val (.int .i64 0))), nn (.store 1 (T 7) (kk 0))])
 (.seq (.region [oo 17 (.mkfunc (.func 88) [(T 7), (T 2)]), vv 8 17])
 (.seq (.block 0 (.loop
 (.seq (.seq (.region [oo 18 (.load false 1 (T 7)), oo 19 (.load false 1 (T 2)), oo 20 (.len (T 19)), oo 21 (.ibin .lss (T 18) (T 20))])
 (.cond (T 21)
 .skip
 (.exit 0)))
 (.block 1 (.scope (.seq (.region [oo 9 (.alloc 64 (.agg [(.val (.int .i64 0)), (.val (.int .i64 0)), (.val (.int .i64 0))]))])
 (.seq (.block 2 (.seq (.region [vv 23 8, oo 24 (.call (T 23) [(.func 89)]), vv 22 24])
 (.cond (T 22)
 (.region [oo 25 (.fieldAddr 2 (T 9)), nn (.store 1 (T 25) (kk 1))])
 (.seq (.region [vv 27 8, oo 28 (.call (T 27) [(.func 90)]), vv 26 28])
 (.cond (T 26)
 (.region [oo 29 (.fieldAddr 2 (T 9)), nn (.store 1 (T 29) (kk (-1)))])
 .skip)))))
 (.seq (.region [oo 10 (.alloc 3 (.val (.int .i64 0))), nn (.store 1 (T 10) (kk (-1)))])
 (.seq (.seq (.region [vv 30 8, oo 31 (.mkfunc (.func 91) [(T 10)]), oo 32 (.call (T 30) [(T 31)])])
 (.cond (T 32)
 (.region [oo 33 (.load false 1 (T 10)), oo 34 (.ibin .mul (kk 7) (T 33)), oo 35 (.fieldAddr 0 (T 9)), nn (.store 1 (T 35) (T 34))])
 .skip))
 (.seq (.region [vv 36 8, oo 37 (.call (T 36) [(.func 93)]), vv 11 37])
 (.seq (.region [oo 12 (.mov (kk (-1)))])
 (.seq .skip
 (.seq (.seq (.region [oo 38 (.load true 8 (.global 1)), oo 39 (.mov (kk 0))])
 (.block 3 (.loop
 (.seq (.region [oo 40 (.ibin .lss (T 39) (kk 8))])
 (.seq (.cond (T 40)
 .skip
 (.exit 3))
 (.seq (.block 4 (.seq (.region [vv 41 39, oo 42 (.idxV false 8 1 (T 38) (T 39)), oo 14 (.alloc 5 (.val (.int .u8 0))), vv 13 41, nn (.store 1 (T 14) (T 42))])
 (.seq (.region [oo 43 (.sliceA 5 (.global 2) none (some (kk 4))), oo 44 (.len (T 43)), oo 45 (.mov (kk 0))])
 (.block 5 (.loop
 (.seq (.region [oo 46 (.ibin .lss (T 45) (T 44))])
 (.seq (.cond (T 46)
 .skip
 (.exit 5))
 (.seq (.block 6 (.seq (.region [vv 47 45, oo 48 (.idxS 1 (T 43) (T 45)), oo 49 (.load false 1 (T 48)), oo 16 (.alloc 5 (.val (.int .u8 0))), vv 15 47, nn (.store 1 (T 16) (T 49))])
 (.seq (.region [vv 50 8, oo 51 (.mkfunc (.func 94) [(T 14), (T 16)]), oo 52 (.call (T 50) [(T 51)])])
 (.cond (T 52)
 (.seq (.region [vv 53 13, vv 54 15, vv 12 53, oo 55 (.fieldAddr 1 (T 9)), nn (.store 1 (T 55) (T 54))])
 (.exit 3))
 .skip))))
 (.region [oo 56 (.ibin .add (T 45) (kk 1)), vv 45 56])))))))))
 (.region [oo 57 (.ibin .add (T 39) (kk 1)), vv 39 57])))))))
 (.seq (.seq (.region [vv 58 12, oo 59 (.ibin .lss (T 58) (kk 0)), vv 60 59, vf 61 60 11, vf 62 60 61, gt 63 62 (.fieldAddr 1 (T 9)), gt 64 62 (.load false 1 (T 63)), gt 65 62 (.ibin .neq (T 64) (kk 0)), gf 66 60 (.pick (T 62) (T 65) (.const (.bool false))), oo 67 (.pick (T 60) (.const (.bool true)) (T 66))])
 (.cond (T 67)
 (.seq (.region [oo 4 (.mov (.const (.slice none 0 0))), oo 5 (.mov (kk 0)), oo 6 (.mov (.const (.bool false)))])
 .ret)
 .skip))
 (.seq (.seq (.region [vv 68 11])
 (.cond (T 68)
 (.region [oo 69 (.fieldAddr 1 (T 9)), nn (.store 1 (T 69) (kk 4))])
 .skip))
 (.seq (.seq (.region [vv 71 12, oo 72 (.load false 1 (T 10)), vv 73 1, oo 74 (.call (.func 95) [(T 71), (T 72), (T 73)]), vv 70 74, oo 75 (.extract (T 70) 0), oo 76 (.extract (T 70) 1), oo 77 (.fieldAddr 0 (T 9)), nn (.store 1 (T 77) (T 75)), vv 6 76])
 (.seq (.region [vv 78 6, oo 79 (.lnot (T 78))])
 (.cond (T 79)
 (.seq (.region [oo 4 (.mov (.const (.slice none 0 0))), oo 5 (.mov (kk 0)), oo 6 (.mov (.const (.bool false)))])
 .ret)
 .skip)))
 (.seq (.seq (.region [oo 80 (.fieldAddr 0 (T 9)), oo 81 (.load false 1 (T 80)), oo 82 (.ibin .geq (T 81) (kk 0))])
 (.cond (T 82)
 (.region [oo 83 (.fieldAddr 0 (T 9)), oo 84 (.load false 1 (T 83)), vv 1 84])
 .skip))
 (.region [vv 85 4, oo 86 (.load true 3 (T 9)), oo 87 (.bslice 64 3 [(T 86)]), oo 88 (.append 64 3 24 (T 85) (T 87)), vv 4 88]))))))))))))))))))
 (.seq (.region [vv 89 4, vv 90 1, vv 4 89, vv 5 90, oo 6 (.mov (.const (.bool true)))])
 .ret)))))
theorem f76 : fnC Tryd.prog 76 = some (c76, 91, [(.tmp 4), (.tmp 5), (.tmp 6)]) := by kernel_rfl
def c80 : CCode :=
 (.seq (.region [oo 4 (.mov (kk 0))])
 (.seq (.seq (.region [vv 6 0, oo 7 (.len (T 6)), oo 8 (.mov (kk 0))])
 (.block 0 (.loop
 (.seq (.region [oo 9 (.ibin .lss (T 8) (T 7))])
 (.seq (.cond (T 9)
 .skip
 (.exit 0))
 (.seq (.block 1 (.seq (.region [vv 10 8, vv 5 10])
 (.seq (.region [vv 11 1, vv 12 0, vv 13 5, oo 14 (.idxS 1 (T 12) (T 13)), oo 15 (.load false 1 (T 14)), oo 16 (.call (T 11) [(T 15)])])
 (.cond (T 16)
 (.seq (.region [vv 17 5, vv 4 17])
 .ret)
 .skip))))
 (.region [oo 18 (.ibin .add (T 8) (kk 1)), vv 8 18])))))))
 (.seq (.region [oo 4 (.mov (kk (-1)))])
 .ret)))
theorem f80 : fnC Tryd.prog 80 = some (c80, 19, [(.tmp 4)]) := by kernel_rfl
def c81 : CCode :=
 (.seq (.region [oo 4 (.mov (kk 0))])
 (.seq (.seq (.region [vv 6 0, oo 7 (.len (T 6)), oo 8 (.mov (kk 0))])
 (.block 0 (.loop
 (.seq (.region [oo 9 (.ibin .lss (T 8) (T 7))])
 (.seq (.cond (T 9)
 .skip
 (.exit 0))
 (.seq (.block 1 (.seq (.region [vv 10 8, vv 5 10])
 (.seq (.region [vv 11 1, vv 12 0, vv 13 5, oo 14 (.idxS 1 (T 12) (T 13)), oo 15 (.load false 1 (T 14)), oo 16 (.call (T 11) [(T 15)])])
 (.cond (T 16)
 (.seq (.region [vv 17 5, vv 4 17])
 .ret)
 .skip))))
 (.region [oo 18 (.ibin .add (T 8) (kk 1)), vv 8 18])))))))
 (.seq (.region [oo 4 (.mov (kk (-1)))])
 .ret)))
theorem f81 : fnC Tryd.prog 81 = some (c81, 19, [(.tmp 4)]) := by kernel_rfl
def c82 : CCode :=
 (.seq (.region [oo 4 (.mov (kk 0))])
 (.seq (.seq (.region [vv 6 0, oo 7 (.len (T 6)), oo 8 (.mov (kk 0))])
 (.block 0 (.loop
 (.seq (.region [oo 9 (.ibin .lss (T 8) (T 7))])
 (.seq (.cond (T 9)
 .skip
 (.exit 0))
 (.seq (.block 1 (.seq (.region [vv 10 8, vv 5 10])
 (.seq (.region [vv 11 1, vv 12 0, vv 13 5, oo 14 (.idxS 1 (T 12) (T 13)), oo 15 (.load false 1 (T 14)), oo 16 (.call (T 11) [(T 15)])])
 (.cond (T 16)
 (.seq (.region [vv 17 5, vv 4 17])
 .ret)
 .skip))))
 (.region [oo 18 (.ibin .add (T 8) (kk 1)), vv 8 18])))))))
 (.seq (.region [oo 4 (.mov (kk (-1)))])
 .ret)))
theorem f82 : fnC Tryd.prog 82 = some (c82, 19, [(.tmp 4)]) := by kernel_rfl
def c83 : CCode :=
 (.seq (.region [oo 4 (.mov (kk 0))])
 (.seq (.seq (.region [vv 6 0, oo 7 (.len (T 6)), oo 8 (.mov (kk 0))])
 (.block 0 (.loop
 (.seq (.region [oo 9 (.ibin .lss (T 8) (T 7))])
 (.seq (.cond (T 9)
 .skip
 (.exit 0))
 (.seq (.block 1 (.seq (.region [vv 10 8, vv 5 10])
 (.seq (.region [vv 11 1, vv 12 0, vv 13 5, oo 14 (.idxS 3 (T 12) (T 13)), oo 15 (.load true 3 (T 14)), oo 16 (.call (T 11) [(T 15)])])
 (.cond (T 16)
 (.seq (.region [vv 17 5, vv 4 17])
 .ret)
 .skip))))
 (.region [oo 18 (.ibin .add (T 8) (kk 1)), vv 8 18])))))))
 (.seq (.region [oo 4 (.mov (kk (-1)))])
 .ret)))
theorem f83 : fnC Tryd.prog 83 = some (c83, 19, [(.tmp 4)]) := by kernel_rfl
def c84 : CCode :=
 (.seq (.region [oo 4 (.mov (.const (.int .u64 0))), oo 5 (.mov (.const (.int .u64 0)))])
 (.seq (.cond (.const (.bool false))
 (.seq (.region [vv 11 0, oo 12 (.conv .u32 (T 11)), vv 13 1, oo 14 (.conv .u32 (T 13)), oo 15 (.call (.func 98) [(T 12), (T 14)]), vv 10 15, oo 16 (.extract (T 10) 0), oo 17 (.extract (T 10) 1), vv 6 16, vv 7 17])
 (.seq (.region [vv 18 6, oo 19 (.conv .u64 (T 18)), vv 20 7, oo 21 (.conv .u64 (T 20)), vv 4 19, vv 5 21])
 .ret))
 .skip)
 (.seq (.region [vv 23 0, vv 24 1, oo 25 (.call (.func 99) [(T 23), (T 24)]), vv 22 25, oo 26 (.extract (T 22) 0), oo 27 (.extract (T 22) 1), vv 8 26, vv 9 27])
 (.seq (.region [vv 28 8, vv 29 9, vv 4 28, vv 5 29])
 .ret))))
theorem f84 : fnC Tryd.prog 84 = some (c84, 30, [(.tmp 4), (.tmp 5)]) := by kernel_rfl
def c86 : CCode :=
 (.seq (.region [oo 4 (.mov (.const (.bool false)))])
 (.seq (.region [vv 5 0, vv 6 1, oo 7 (.call (.func 100) [(T 5), (T 6)]), oo 8 (.ibin .geq (T 7) (kk 0)), vv 4 8])
 .ret))
theorem f86 : fnC Tryd.prog 86 = some (c86, 9, [(.tmp 4)]) := by kernel_rfl
def c87 : CCode :=
 (.seq (.region [oo 3 (.mov (.const (.bool false)))])
 (.seq (.region [oo 4 (.load false 1 (T 1)), vv 5 0, oo 6 (.len (T 5)), oo 7 (.ibin .lss (T 4) (T 6)), vv 8 7, vt 9 8 0, gt 10 8 (.load false 1 (T 1)), gt 11 8 (.idxS 1 (T 9) (T 10)), gt 12 8 (.load false 1 (T 11)), gt 13 8 (.ibin .neq (T 12) (.const (.int .u8 0))), oo 14 (.pick (T 8) (T 13) (.const (.bool false))), vv 3 14])
 .ret))
theorem f87 : fnC Tryd.prog 87 = some (c87, 15, [(.tmp 3)]) := by kernel_rfl
def c88 : CCode :=
 (.seq (.region [oo 4 (.mov (.const (.bool false)))])
 (.seq (.seq (.region [oo 5 (.load false 1 (T 1)), oo 6 (.load false 1 (T 2)), oo 7 (.len (T 6)), oo 8 (.ibin .eql (T 5) (T 7)), vv 9 8, vf 10 9 0, gf 11 9 (.load false 1 (T 2)), gf 12 9 (.load false 1 (T 1)), gf 13 9 (.idxS 1 (T 11) (T 12)), gf 14 9 (.load false 1 (T 13)), gf 15 9 (.call (T 10) [(T 14)]), gf 16 9 (.lnot (T 15)), oo 17 (.pick (T 9) (.const (.bool true)) (T 16))])
 (.cond (T 17)
 (.seq (.region [oo 4 (.mov (.const (.bool false)))])
 .ret)
 .skip))
 (.seq (.region [oo 18 (.load false 1 (T 1)), oo 19 (.ibin .add (T 18) (kk 1)), nn (.store 1 (T 1) (T 19))])
 (.seq (.region [oo 4 (.mov (.const (.bool true)))])
 .ret))))
theorem f88 : fnC Tryd.prog 88 = some (c88, 20, [(.tmp 4)]) := by kernel_rfl
def c89 : CCode :=
 (.seq (.region [oo 2 (.mov (.const (.bool false)))])
 (.seq (.region [vv 3 0, oo 4 (.ibin .eql (T 3) (.const (.int .u8 33))), vv 2 4])
 .ret))
theorem f89 : fnC Tryd.prog 89 = some (c89, 5, [(.tmp 2)]) := by kernel_rfl
def c90 : CCode :=
 (.seq (.region [oo 2 (.mov (.const (.bool false)))])
 (.seq (.region [vv 3 0, oo 4 (.ibin .eql (T 3) (.const (.int .u8 34))), vv 2 4])
 .ret))
theorem f90 : fnC Tryd.prog 90 = some (c90, 5, [(.tmp 2)]) := by kernel_rfl
def c91 : CCode :=
 (.seq (.region [oo 3 (.mov (.const (.bool false)))])
 (.seq (.region [oo 4 (.sliceA 7 (.global 0) none none), vv 5 0, oo 6 (.call (.func 92) [(T 4), (T 5)]), nn (.store 1 (T 1) (T 6))])
 (.seq (.region [oo 7 (.load false 1 (T 1)), oo 8 (.ibin .geq (T 7) (kk 0)), vv 3 8])
 .ret)))
theorem f91 : fnC Tryd.prog 91 = some (c91, 9, [(.tmp 3)]) := by kernel_rfl
def c92 : CCode :=
 (.seq (.region [oo 4 (.mov (kk 0))])
 (.seq (.seq (.region [vv 6 0, oo 7 (.len (T 6)), oo 8 (.mov (kk 0))])
 (.block 0 (.loop
 (.seq (.region [oo 9 (.ibin .lss (T 8) (T 7))])
 (.seq (.cond (T 9)
 .skip
 (.exit 0))
 (.seq (.block 1 (.seq (.region [vv 10 8, vv 5 10])
 (.seq (.region [vv 11 1, vv 12 0, vv 13 5, oo 14 (.idxS 1 (T 12) (T 13)), oo 15 (.load false 1 (T 14)), oo 16 (.ibin .eql (T 11) (T 15))])
 (.cond (T 16)
 (.seq (.region [vv 17 5, vv 4 17])
 .ret)
 .skip))))
 (.region [oo 18 (.ibin .add (T 8) (kk 1)), vv 8 18])))))))
 (.seq (.region [oo 4 (.mov (kk (-1)))])
 .ret)))
theorem f92 : fnC Tryd.prog 92 = some (c92, 19, [(.tmp 4)]) := by kernel_rfl
def c93 : CCode :=
 (.seq (.region [oo 2 (.mov (.const (.bool false)))])
 (.seq (.region [vv 3 0, oo 4 (.ibin .eql (T 3) (.const (.int .u8 3))), vv 2 4])
 .ret))
theorem f93 : fnC Tryd.prog 93 = some (c93, 5, [(.tmp 2)]) := by kernel_rfl
def c94 : CCode :=
 (.seq (.region [oo 4 (.mov (.const (.bool false)))])
 (.seq (.region [vv 5 0, oo 6 (.load false 1 (T 1)), oo 7 (.load false 1 (T 2)), oo 8 (.ibin .add (T 6) (T 7)), oo 9 (.ibin .eql (T 5) (T 8)), vv 4 9])
 .ret))
theorem f94 : fnC Tryd.prog 94 = some (c94, 10, [(.tmp 4)]) := by kernel_rfl
def c95 : CCode :=
 (.seq (.region [oo 6 (.mov (kk 0)), oo 7 (.mov (.const (.bool false)))])
 (.seq (.block 0 (.seq (.region [vv 10 0, oo 11 (.ibin .eql (T 10) (kk 7)), vv 9 11])
 (.cond (T 9)
 (.seq (.region [vv 12 1, oo 13 (.ibin .lss (T 12) (kk 0)), oo 6 (.mov (kk (-1))), vv 7 13])
 .ret)
 (.seq (.region [vv 15 1, oo 16 (.ibin .geq (T 15) (kk 0)), vv 14 16])
 (.cond (T 14)
 (.seq (.region [vv 17 1, oo 18 (.ibin .mul (kk 7) (T 17)), vv 19 0, oo 20 (.ibin .add (T 18) (T 19)), vv 6 20, oo 7 (.mov (.const (.bool true)))])
 .ret)
 .skip)))))
 (.seq (.seq (.region [vv 21 0, vv 8 21])
 (.block 1 (.loop
 (.seq (.seq (.region [vv 22 8, oo 23 (.ibin .leq (T 22) (kk 48))])
 (.cond (T 23)
 .skip
 (.exit 1)))
 (.seq (.block 2 (.seq (.region [vv 26 8, vv 27 2, oo 28 (.call (.func 59) [(T 26), (T 27)]), oo 29 (.lnot (T 28))])
 (.cond (T 29)
 (.seq (.region [vv 30 8, vv 6 30, oo 7 (.mov (.const (.bool true)))])
 .ret)
 .skip)))
 (.region [vv 24 8, oo 25 (.ibin .add (T 24) (kk 7)), vv 8 25]))))))
 (.seq (.region [oo 6 (.mov (kk 0)), oo 7 (.mov (.const (.bool false)))])
 .ret))))
theorem f95 : fnC Tryd.prog 95 = some (c95, 31, [(.tmp 6), (.tmp 7)]) := by kernel_rfl
def c99 : CCode :=
 (.seq (.region [oo 4 (.mov (.const (.int .u64 0))), oo 5 (.mov (.const (.int .u64 0)))])
 (.seq (.region [vv 14 0, oo 15 (.ibin .and (T 14) (.const (.int .u64 4294967295))), vv 6 15])
 (.seq (.region [vv 16 0, oo 17 (.ibin .shr (T 16) (.const (.int .u64 32))), vv 7 17])
 (.seq (.region [vv 18 1, oo 19 (.ibin .and (T 18) (.const (.int .u64 4294967295))), vv 8 19])
 (.seq (.region [vv 20 1, oo 21 (.ibin .shr (T 20) (.const (.int .u64 32))), vv 9 21])
 (.seq (.region [vv 22 6, vv 23 8, oo 24 (.ibin .mul (T 22) (T 23)), vv 10 24])
 (.seq (.region [vv 25 7, vv 26 8, oo 27 (.ibin .mul (T 25) (T 26)), vv 28 10, oo 29 (.ibin .shr (T 28) (.const (.int .u64 32))), oo 30 (.ibin .add (T 27) (T 29)), vv 11 30])
 (.seq (.region [vv 31 11, oo 32 (.ibin .and (T 31) (.const (.int .u64 4294967295))), vv 12 32])
 (.seq (.region [vv 33 11, oo 34 (.ibin .shr (T 33) (.const (.int .u64 32))), vv 13 34])
 (.seq (.region [vv 35 12, vv 36 6, vv 37 9, oo 38 (.ibin .mul (T 36) (T 37)), oo 39 (.ibin .add (T 35) (T 38)), vv 12 39])
 (.seq (.region [vv 40 7, vv 41 9, oo 42 (.ibin .mul (T 40) (T 41)), vv 43 13, oo 44 (.ibin .add (T 42) (T 43)), vv 45 12, oo 46 (.ibin .shr (T 45) (.const (.int .u64 32))), oo 47 (.ibin .add (T 44) (T 46)), vv 4 47])
 (.seq (.region [vv 48 0, vv 49 1, oo 50 (.ibin .mul (T 48) (T 49)), vv 5 50])
 .ret))))))))))))
theorem f99 : fnC Tryd.prog 99 = some (c99, 51, [(.tmp 4), (.tmp 5)]) := by kernel_rfl
def c100 : CCode :=
 (.seq (.region [oo 4 (.mov (kk 0))])
 (.seq (.seq (.region [vv 6 0, oo 7 (.len (T 6)), oo 8 (.mov (kk 0))])
 (.block 0 (.loop
 (.seq (.region [oo 9 (.ibin .lss (T 8) (T 7))])
 (.seq (.cond (T 9)
 .skip
 (.exit 0))
 (.seq (.block 1 (.seq (.region [vv 10 8, vv 5 10])
 (.seq (.region [vv 11 1, vv 12 0, vv 13 5, oo 14 (.idxS 1 (T 12) (T 13)), oo 15 (.load false 1 (T 14)), oo 16 (.call (T 11) [(T 15)])])
 (.cond (T 16)
 (.seq (.region [vv 17 5, vv 4 17])
 .ret)
 .skip))))
 (.region [oo 18 (.ibin .add (T 8) (kk 1)), vv 8 18])))))))
 (.seq (.region [oo 4 (.mov (kk (-1)))])
 .ret)))
theorem f100 : fnC Tryd.prog 100 = some (c100, 19, [(.tmp 4)]) := by kernel_rfl
end Go.Proofs.YtnncijjkbonokaaDoor
namespace Go.Proofs.YtnncijjkbonokaaDoor
open Go.RowKit Dak
def tabM : Nat -> List Value
 | 0 => [.int .u8 8, .int .u8 24, .int .u8 56, .int .u8 16, .int .u8 40, .int .u8 48, .int .u8 32]
 | 1 => [.int .u8 25, .int .u8 17, .int .u8 11, .int .u8 27, .int .u8 19, .int .u8 10, .int .u8 26, .int .u8 9]
 | 2 => [.int .u8 36, .int .u8 4, .int .u8 32, .int .u8 0, .int .u8 36]
 | _ => []
instance : Globs := ⟨tabM⟩
def I64 (n : Int) : Prop := -9223372036854775808 <= n /\ n <= 9223372036854775807
abbrev vi (n : Int) : AV := .val (.int .i64 n)
abbrev vu (n : Int) : AV := .val (.int .u8 n)
abbrev ve (n : Int) : AV := .val (.int .i64 n)
abbrev vb (b : Bool) : AV := .val (.bool b)
abbrev vints (l : List Int) : AV := .list 1 (l.map vi)
abbrev vbytes (l : List Int) : AV := .list 1 (l.map vu)
abbrev vpage (l : List (List Int)) : AV := .list 1 (l.map vbytes)
theorem wrap_id {n : Int} (h1 : -9223372036854775808 <= n) (h2 : n <= 9223372036854775807) : IntKind.i64.wrap n = n := by rw [IntKind.wrap_i64]; omega
structure Nt where
 s : Int
 l : Int
 a : Int
 deriving DecidableEq
abbrev vnote (n : Nt) : AV := .agg [vi n.s, vi n.l, vi n.a]
abbrev vbar (l : List Nt) : AV := .list 3 (l.map vnote)
abbrev vhand (l : List (List Nt)) : AV := .list 1 (l.map vbar)
abbrev vhands (l : List (List (List Nt))) : AV := .list 1 (l.map vhand)
abbrev vmel (l : List (List (List Nt))) : AV := .agg [vhands l]
def idxGo {α : Type} (p : α -> Bool) : List α -> Nat -> Int
 | [], _ => -1
 | x :: r, k => if p x = true then k else idxGo p r (k + 1)
theorem idxGo_any {α : Type} (p : α -> Bool) : ∀ (l : List α) (k : Nat), decide (0 <= idxGo p l k) = l.any p
 | [], _ => rfl
 | x :: r, k => by
  rw [idxGo]
  cases h : p x with
  | true => simp [h]
  | false => rw [if_neg (by simp), idxGo_any p r (k + 1)]; simp [h]
theorem isT_clo {fn : Fn} {caps : List AV} (h : (caps.all AV.isT1) = true) : (AV.clo fn caps).isT = true := h
theorem isT1s {caps : List AV} (h : (caps.all AV.isT1) = true) : (caps.all AV.isT) = true := List.all_eq_true.2 fun x hx => isT1_isT (List.all_eq_true.1 h x hx)
theorem IndexFunc80_s (g : FuncId) (caps : List AV) (hcap : (caps.all AV.isT1) = true) (p : List Int -> Bool) (l : List (List Int)) (hl : l.length <= 9223372036854775806) (hp : ∀ x ∈ l, Ctr Tryd.prog g (vbytes x :: caps) (vb (p x))) : Ctr Tryd.prog 80 [.list 1 (l.map vbytes), .clo (.func g) caps] (vi (idxGo p l 0)) := by
 refine specC f80 (by simp) fun F0 w0 => ?_
 unfold c80
 refine CwpE.cut (st := ⟨[(0, .list 1 (l.map vbytes)), (1, .clo (.func g) caps)], []⟩) ?_ ?_
 ·simp only [go_sem, ↓reduceIte, Nat.reduceLT]
  exact ⟨_, WkE.keep (by simp only [go_sem, ↓reduceIte, reduceCtorEq, Nat.reduceEqDiff]), rfl⟩
 refine CwpE.step (fun s => idxGo p l 0 = -1 /\ s = ⟨[], []⟩) ?_ ?_
 rotate_left
 ·rintro s ⟨h, rfl⟩
  rw [h]
  refine CwpE.vc ?_
  simp only [go_sem, ↓reduceIte, Nat.reduceLT]
  exact .tree _ rfl
 simp only [go_sem, ↓reduceIte, Nat.reduceLT]
 refine loopX 0 (fun m s => ∃ k : Nat, m = l.length - k /\ k <= l.length /\ idxGo p l 0 = idxGo p (l.drop k) k /\ s = ⟨[(0, .list 1 (l.map vbytes)), (1, .clo (.func g) caps), (7, vi l.length), (8, vi k)], []⟩)
  (fun s => idxGo p l 0 = -1 /\ s = ⟨[], []⟩) l.length
  ⟨[(0, .list 1 (l.map vbytes)), (1, .clo (.func g) caps), (7, vi l.length), (8, vi (0 : Nat))], []⟩ (WkE.keep (by simp only [go_sem, ↓reduceIte, reduceCtorEq, Nat.reduceEqDiff]; rfl)) ⟨0, by omega, by omega, rfl, rfl⟩ ?_ ?_
 rotate_left
 ·rintro s ⟨h, rfl⟩
  simp only [go_sem, ↓reduceIte]
  exact ⟨_, .refl _ _, h, rfl⟩
 rintro m s ⟨k, rfl, hk, hi, rfl⟩
 by_cases hlt : k < l.length
 ·have g1 : (k : Int) < (l.length : Int) := by omega
  have g0 : (0 : Int) <= (k : Int) := by omega
  have w1 : IntKind.i64.wrap ((k : Int) + 1) = ((k + 1 : Nat) : Int) := by rw [wrap_id (by omega) (by omega)]; omega
  rw [List.drop_eq_getElem_cons hlt, idxGo] at hi
  simp only [go_sem, ↓reduceIte, reduceCtorEq, Nat.reduceLT, Nat.reduceEqDiff, g1, g0, List.getElem?_map, List.getElem?_eq_getElem hlt]
  refine callCN (hp l[k] (List.getElem_mem hlt)) (snaps_self (vbytes l[k] :: caps) (by simp only [List.all_cons, isT1s hcap, Bool.and_true]; rfl) _) ?_
  cases hb : p l[k] with
  | true =>
   rw [if_pos hb] at hi
   rw [hi]
   simp only [go_sem, ↓reduceIte, reduceCtorEq, Nat.reduceLT, Nat.reduceEqDiff]
   exact .tree _ rfl
  | false =>
   rw [if_neg (by rw [hb]; simp)] at hi
   simp only [go_sem, ↓reduceIte, reduceCtorEq, Nat.reduceLT, Nat.reduceEqDiff, w1]
   exact ⟨l.length - (k + 1), ⟨[(0, .list 1 (l.map vbytes)), (1, .clo (.func g) caps), (7, vi l.length), (8, vi (k + 1 : Nat))], []⟩, by omega, WkE.keep (by simp only [go_sem, ↓reduceIte, reduceCtorEq, Nat.reduceEqDiff]), k + 1, rfl, by omega, hi, rfl⟩
 ·have g1 : ¬ (k : Int) < (l.length : Int) := by omega
  rw [List.drop_eq_nil_of_le (by omega), idxGo] at hi
  simp only [go_sem, ↓reduceIte, reduceCtorEq, Nat.reduceLT, Nat.reduceEqDiff, g1]
  exact ⟨⟨[], []⟩, WkE.keep trivial, hi, rfl⟩
theorem IndexFunc81_s (g : FuncId) (caps : List AV) (hcap : (caps.all AV.isT1) = true) (p : List Nt -> Bool) (l : List (List Nt)) (hl : l.length <= 9223372036854775806) (hp : ∀ x ∈ l, Ctr Tryd.prog g (vbar x :: caps) (vb (p x))) : Ctr Tryd.prog 81 [.list 1 (l.map vbar), .clo (.func g) caps] (vi (idxGo p l 0)) := by
 refine specC f81 (by simp) fun F0 w0 => ?_
 unfold c81
 refine CwpE.cut (st := ⟨[(0, .list 1 (l.map vbar)), (1, .clo (.func g) caps)], []⟩) ?_ ?_
 ·simp only [go_sem, ↓reduceIte, Nat.reduceLT]
  exact ⟨_, WkE.keep (by simp only [go_sem, ↓reduceIte, reduceCtorEq, Nat.reduceEqDiff]), rfl⟩
 refine CwpE.step (fun s => idxGo p l 0 = -1 /\ s = ⟨[], []⟩) ?_ ?_
 rotate_left
 ·rintro s ⟨h, rfl⟩
  rw [h]
  refine CwpE.vc ?_
  simp only [go_sem, ↓reduceIte, Nat.reduceLT]
  exact .tree _ rfl
 simp only [go_sem, ↓reduceIte, Nat.reduceLT]
 refine loopX 0 (fun m s => ∃ k : Nat, m = l.length - k /\ k <= l.length /\ idxGo p l 0 = idxGo p (l.drop k) k /\ s = ⟨[(0, .list 1 (l.map vbar)), (1, .clo (.func g) caps), (7, vi l.length), (8, vi k)], []⟩)
  (fun s => idxGo p l 0 = -1 /\ s = ⟨[], []⟩) l.length
  ⟨[(0, .list 1 (l.map vbar)), (1, .clo (.func g) caps), (7, vi l.length), (8, vi (0 : Nat))], []⟩ (WkE.keep (by simp only [go_sem, ↓reduceIte, reduceCtorEq, Nat.reduceEqDiff]; rfl)) ⟨0, by omega, by omega, rfl, rfl⟩ ?_ ?_
 rotate_left
 ·rintro s ⟨h, rfl⟩
  simp only [go_sem, ↓reduceIte]
  exact ⟨_, .refl _ _, h, rfl⟩
 rintro m s ⟨k, rfl, hk, hi, rfl⟩
 by_cases hlt : k < l.length
 ·have g1 : (k : Int) < (l.length : Int) := by omega
  have g0 : (0 : Int) <= (k : Int) := by omega
  have w1 : IntKind.i64.wrap ((k : Int) + 1) = ((k + 1 : Nat) : Int) := by rw [wrap_id (by omega) (by omega)]; omega
  rw [List.drop_eq_getElem_cons hlt, idxGo] at hi
  simp only [go_sem, ↓reduceIte, reduceCtorEq, Nat.reduceLT, Nat.reduceEqDiff, g1, g0, List.getElem?_map, List.getElem?_eq_getElem hlt]
  refine callCN (hp l[k] (List.getElem_mem hlt)) (snaps_self (vbar l[k] :: caps) (by simp only [List.all_cons, isT1s hcap, Bool.and_true]; rfl) _) ?_
  cases hb : p l[k] with
  | true =>
   rw [if_pos hb] at hi
   rw [hi]
   simp only [go_sem, ↓reduceIte, reduceCtorEq, Nat.reduceLT, Nat.reduceEqDiff]
   exact .tree _ rfl
  | false =>
   rw [if_neg (by rw [hb]; simp)] at hi
   simp only [go_sem, ↓reduceIte, reduceCtorEq, Nat.reduceLT, Nat.reduceEqDiff, w1]
   exact ⟨l.length - (k + 1), ⟨[(0, .list 1 (l.map vbar)), (1, .clo (.func g) caps), (7, vi l.length), (8, vi (k + 1 : Nat))], []⟩, by omega, WkE.keep (by simp only [go_sem, ↓reduceIte, reduceCtorEq, Nat.reduceEqDiff]), k + 1, rfl, by omega, hi, rfl⟩
 ·have g1 : ¬ (k : Int) < (l.length : Int) := by omega
  rw [List.drop_eq_nil_of_le (by omega), idxGo] at hi
  simp only [go_sem, ↓reduceIte, reduceCtorEq, Nat.reduceLT, Nat.reduceEqDiff, g1]
  exact ⟨⟨[], []⟩, WkE.keep trivial, hi, rfl⟩
theorem ContainsFunc54_s (g : FuncId) (caps : List AV) (hcap : (caps.all AV.isT1) = true) (p : List Nt -> Bool) (l : List (List Nt)) (hl : l.length <= 9223372036854775806) (hp : ∀ x ∈ l, Ctr Tryd.prog g (vbar x :: caps) (vb (p x))) : Ctr Tryd.prog 54 [.list 1 (l.map vbar), .clo (.func g) caps] (vb (l.any p)) := by
 refine specE f54 (by simp) fun F0 w0 => ?_
 simp only [c54, go_sem, ↓reduceIte, reduceCtorEq, Nat.reduceLT, Nat.reduceEqDiff]
 refine callN (IndexFunc81_s g caps hcap p l hl hp) (snaps_self [.list 1 (l.map vbar), .clo (.func g) caps] (by simp only [List.all_cons, List.all_nil, Bool.and_true]; exact Bool.and_eq_true_iff.2 ⟨rfl, isT_clo hcap⟩) _) ?_
 simp only [go_sem, ↓reduceIte, Nat.reduceLT]
 rw [idxGo_any]
 exact .tree _ rfl
theorem IndexFunc82_s (g : FuncId) (caps : List AV) (hcap : (caps.all AV.isT1) = true) (p : List (List Nt) -> Bool) (l : List (List (List Nt))) (hl : l.length <= 9223372036854775806) (hp : ∀ x ∈ l, Ctr Tryd.prog g (vhand x :: caps) (vb (p x))) : Ctr Tryd.prog 82 [.list 1 (l.map vhand), .clo (.func g) caps] (vi (idxGo p l 0)) := by
 refine specC f82 (by simp) fun F0 w0 => ?_
 unfold c82
 refine CwpE.cut (st := ⟨[(0, .list 1 (l.map vhand)), (1, .clo (.func g) caps)], []⟩) ?_ ?_
 ·simp only [go_sem, ↓reduceIte, Nat.reduceLT]
  exact ⟨_, WkE.keep (by simp only [go_sem, ↓reduceIte, reduceCtorEq, Nat.reduceEqDiff]), rfl⟩
 refine CwpE.step (fun s => idxGo p l 0 = -1 /\ s = ⟨[], []⟩) ?_ ?_
 rotate_left
 ·rintro s ⟨h, rfl⟩
  rw [h]
  refine CwpE.vc ?_
  simp only [go_sem, ↓reduceIte, Nat.reduceLT]
  exact .tree _ rfl
 simp only [go_sem, ↓reduceIte, Nat.reduceLT]
 refine loopX 0 (fun m s => ∃ k : Nat, m = l.length - k /\ k <= l.length /\ idxGo p l 0 = idxGo p (l.drop k) k /\ s = ⟨[(0, .list 1 (l.map vhand)), (1, .clo (.func g) caps), (7, vi l.length), (8, vi k)], []⟩)
  (fun s => idxGo p l 0 = -1 /\ s = ⟨[], []⟩) l.length
  ⟨[(0, .list 1 (l.map vhand)), (1, .clo (.func g) caps), (7, vi l.length), (8, vi (0 : Nat))], []⟩ (WkE.keep (by simp only [go_sem, ↓reduceIte, reduceCtorEq, Nat.reduceEqDiff]; rfl)) ⟨0, by omega, by omega, rfl, rfl⟩ ?_ ?_
 rotate_left
 ·rintro s ⟨h, rfl⟩
  simp only [go_sem, ↓reduceIte]
  exact ⟨_, .refl _ _, h, rfl⟩
 rintro m s ⟨k, rfl, hk, hi, rfl⟩
 by_cases hlt : k < l.length
 ·have g1 : (k : Int) < (l.length : Int) := by omega
  have g0 : (0 : Int) <= (k : Int) := by omega
  have w1 : IntKind.i64.wrap ((k : Int) + 1) = ((k + 1 : Nat) : Int) := by rw [wrap_id (by omega) (by omega)]; omega
  rw [List.drop_eq_getElem_cons hlt, idxGo] at hi
  simp only [go_sem, ↓reduceIte, reduceCtorEq, Nat.reduceLT, Nat.reduceEqDiff, g1, g0, List.getElem?_map, List.getElem?_eq_getElem hlt]
  refine callCN (hp l[k] (List.getElem_mem hlt)) (snaps_self (vhand l[k] :: caps) (by simp only [List.all_cons, isT1s hcap, Bool.and_true]; rfl) _) ?_
  cases hb : p l[k] with
  | true =>
   rw [if_pos hb] at hi
   rw [hi]
   simp only [go_sem, ↓reduceIte, reduceCtorEq, Nat.reduceLT, Nat.reduceEqDiff]
   exact .tree _ rfl
  | false =>
   rw [if_neg (by rw [hb]; simp)] at hi
   simp only [go_sem, ↓reduceIte, reduceCtorEq, Nat.reduceLT, Nat.reduceEqDiff, w1]
   exact ⟨l.length - (k + 1), ⟨[(0, .list 1 (l.map vhand)), (1, .clo (.func g) caps), (7, vi l.length), (8, vi (k + 1 : Nat))], []⟩, by omega, WkE.keep (by simp only [go_sem, ↓reduceIte, reduceCtorEq, Nat.reduceEqDiff]), k + 1, rfl, by omega, hi, rfl⟩
 ·have g1 : ¬ (k : Int) < (l.length : Int) := by omega
  rw [List.drop_eq_nil_of_le (by omega), idxGo] at hi
  simp only [go_sem, ↓reduceIte, reduceCtorEq, Nat.reduceLT, Nat.reduceEqDiff, g1]
  exact ⟨⟨[], []⟩, WkE.keep trivial, hi, rfl⟩
theorem ContainsFunc58_s (g : FuncId) (caps : List AV) (hcap : (caps.all AV.isT1) = true) (p : List (List Nt) -> Bool) (l : List (List (List Nt))) (hl : l.length <= 9223372036854775806) (hp : ∀ x ∈ l, Ctr Tryd.prog g (vhand x :: caps) (vb (p x))) : Ctr Tryd.prog 58 [.list 1 (l.map vhand), .clo (.func g) caps] (vb (l.any p)) := by
 refine specE f58 (by simp) fun F0 w0 => ?_
 simp only [c58, go_sem, ↓reduceIte, reduceCtorEq, Nat.reduceLT, Nat.reduceEqDiff]
 refine callN (IndexFunc82_s g caps hcap p l hl hp) (snaps_self [.list 1 (l.map vhand), .clo (.func g) caps] (by simp only [List.all_cons, List.all_nil, Bool.and_true]; exact Bool.and_eq_true_iff.2 ⟨rfl, isT_clo hcap⟩) _) ?_
 simp only [go_sem, ↓reduceIte, Nat.reduceLT]
 rw [idxGo_any]
 exact .tree _ rfl
theorem IndexFunc83_s (g : FuncId) (caps : List AV) (hcap : (caps.all AV.isT1) = true) (p : Nt -> Bool) (l : List (Nt)) (hl : l.length <= 9223372036854775806) (hp : ∀ x ∈ l, Ctr Tryd.prog g (vnote x :: caps) (vb (p x))) : Ctr Tryd.prog 83 [.list 3 (l.map vnote), .clo (.func g) caps] (vi (idxGo p l 0)) := by
 refine specC f83 (by simp) fun F0 w0 => ?_
 unfold c83
 refine CwpE.cut (st := ⟨[(0, .list 3 (l.map vnote)), (1, .clo (.func g) caps)], []⟩) ?_ ?_
 ·simp only [go_sem, ↓reduceIte, Nat.reduceLT]
  exact ⟨_, WkE.keep (by simp only [go_sem, ↓reduceIte, reduceCtorEq, Nat.reduceEqDiff]), rfl⟩
 refine CwpE.step (fun s => idxGo p l 0 = -1 /\ s = ⟨[], []⟩) ?_ ?_
 rotate_left
 ·rintro s ⟨h, rfl⟩
  rw [h]
  refine CwpE.vc ?_
  simp only [go_sem, ↓reduceIte, Nat.reduceLT]
  exact .tree _ rfl
 simp only [go_sem, ↓reduceIte, Nat.reduceLT]
 refine loopX 0 (fun m s => ∃ k : Nat, m = l.length - k /\ k <= l.length /\ idxGo p l 0 = idxGo p (l.drop k) k /\ s = ⟨[(0, .list 3 (l.map vnote)), (1, .clo (.func g) caps), (7, vi l.length), (8, vi k)], []⟩)
  (fun s => idxGo p l 0 = -1 /\ s = ⟨[], []⟩) l.length
  ⟨[(0, .list 3 (l.map vnote)), (1, .clo (.func g) caps), (7, vi l.length), (8, vi (0 : Nat))], []⟩ (WkE.keep (by simp only [go_sem, ↓reduceIte, reduceCtorEq, Nat.reduceEqDiff]; rfl)) ⟨0, by omega, by omega, rfl, rfl⟩ ?_ ?_
 rotate_left
 ·rintro s ⟨h, rfl⟩
  simp only [go_sem, ↓reduceIte]
  exact ⟨_, .refl _ _, h, rfl⟩
 rintro m s ⟨k, rfl, hk, hi, rfl⟩
 by_cases hlt : k < l.length
 ·have g1 : (k : Int) < (l.length : Int) := by omega
  have g0 : (0 : Int) <= (k : Int) := by omega
  have w1 : IntKind.i64.wrap ((k : Int) + 1) = ((k + 1 : Nat) : Int) := by rw [wrap_id (by omega) (by omega)]; omega
  rw [List.drop_eq_getElem_cons hlt, idxGo] at hi
  simp only [go_sem, ↓reduceIte, reduceCtorEq, Nat.reduceLT, Nat.reduceEqDiff, Nat.reduceAdd, g1, g0, List.getElem?_map, List.getElem?_eq_getElem hlt]
  refine callCN (hp l[k] (List.getElem_mem hlt)) (snaps_self (vnote l[k] :: caps) (by simp only [List.all_cons, isT1s hcap, Bool.and_true]; rfl) _) ?_
  cases hb : p l[k] with
  | true =>
   rw [if_pos hb] at hi
   rw [hi]
   simp only [go_sem, ↓reduceIte, reduceCtorEq, Nat.reduceLT, Nat.reduceEqDiff]
   exact .tree _ rfl
  | false =>
   rw [if_neg (by rw [hb]; simp)] at hi
   simp only [go_sem, ↓reduceIte, reduceCtorEq, Nat.reduceLT, Nat.reduceEqDiff, w1]
   exact ⟨l.length - (k + 1), ⟨[(0, .list 3 (l.map vnote)), (1, .clo (.func g) caps), (7, vi l.length), (8, vi (k + 1 : Nat))], []⟩, by omega, WkE.keep (by simp only [go_sem, ↓reduceIte, reduceCtorEq, Nat.reduceEqDiff]), k + 1, rfl, by omega, hi, rfl⟩
 ·have g1 : ¬ (k : Int) < (l.length : Int) := by omega
  rw [List.drop_eq_nil_of_le (by omega), idxGo] at hi
  simp only [go_sem, ↓reduceIte, reduceCtorEq, Nat.reduceLT, Nat.reduceEqDiff, g1]
  exact ⟨⟨[], []⟩, WkE.keep trivial, hi, rfl⟩
theorem ContainsFunc66_s (g : FuncId) (caps : List AV) (hcap : (caps.all AV.isT1) = true) (p : Nt -> Bool) (l : List (Nt)) (hl : l.length <= 9223372036854775806) (hp : ∀ x ∈ l, Ctr Tryd.prog g (vnote x :: caps) (vb (p x))) : Ctr Tryd.prog 66 [.list 3 (l.map vnote), .clo (.func g) caps] (vb (l.any p)) := by
 refine specE f66 (by simp) fun F0 w0 => ?_
 simp only [c66, go_sem, ↓reduceIte, reduceCtorEq, Nat.reduceLT, Nat.reduceEqDiff]
 refine callN (IndexFunc83_s g caps hcap p l hl hp) (snaps_self [.list 3 (l.map vnote), .clo (.func g) caps] (by simp only [List.all_cons, List.all_nil, Bool.and_true]; exact Bool.and_eq_true_iff.2 ⟨rfl, isT_clo hcap⟩) _) ?_
 simp only [go_sem, ↓reduceIte, Nat.reduceLT]
 rw [idxGo_any]
 exact .tree _ rfl
theorem IndexFunc100_s (g : FuncId) (caps : List AV) (hcap : (caps.all AV.isT1) = true) (p : List Int -> Bool) (l : List (List Int)) (hl : l.length <= 9223372036854775806) (hp : ∀ x ∈ l, Ctr Tryd.prog g (vbytes x :: caps) (vb (p x))) : Ctr Tryd.prog 100 [.list 1 (l.map vbytes), .clo (.func g) caps] (vi (idxGo p l 0)) := by
 refine specC f100 (by simp) fun F0 w0 => ?_
 unfold c100
 refine CwpE.cut (st := ⟨[(0, .list 1 (l.map vbytes)), (1, .clo (.func g) caps)], []⟩) ?_ ?_
 ·simp only [go_sem, ↓reduceIte, Nat.reduceLT]
  exact ⟨_, WkE.keep (by simp only [go_sem, ↓reduceIte, reduceCtorEq, Nat.reduceEqDiff]), rfl⟩
 refine CwpE.step (fun s => idxGo p l 0 = -1 /\ s = ⟨[], []⟩) ?_ ?_
 rotate_left
 ·rintro s ⟨h, rfl⟩
  rw [h]
  refine CwpE.vc ?_
  simp only [go_sem, ↓reduceIte, Nat.reduceLT]
  exact .tree _ rfl
 simp only [go_sem, ↓reduceIte, Nat.reduceLT]
 refine loopX 0 (fun m s => ∃ k : Nat, m = l.length - k /\ k <= l.length /\ idxGo p l 0 = idxGo p (l.drop k) k /\ s = ⟨[(0, .list 1 (l.map vbytes)), (1, .clo (.func g) caps), (7, vi l.length), (8, vi k)], []⟩)
  (fun s => idxGo p l 0 = -1 /\ s = ⟨[], []⟩) l.length
  ⟨[(0, .list 1 (l.map vbytes)), (1, .clo (.func g) caps), (7, vi l.length), (8, vi (0 : Nat))], []⟩ (WkE.keep (by simp only [go_sem, ↓reduceIte, reduceCtorEq, Nat.reduceEqDiff]; rfl)) ⟨0, by omega, by omega, rfl, rfl⟩ ?_ ?_
 rotate_left
 ·rintro s ⟨h, rfl⟩
  simp only [go_sem, ↓reduceIte]
  exact ⟨_, .refl _ _, h, rfl⟩
 rintro m s ⟨k, rfl, hk, hi, rfl⟩
 by_cases hlt : k < l.length
 ·have g1 : (k : Int) < (l.length : Int) := by omega
  have g0 : (0 : Int) <= (k : Int) := by omega
  have w1 : IntKind.i64.wrap ((k : Int) + 1) = ((k + 1 : Nat) : Int) := by rw [wrap_id (by omega) (by omega)]; omega
  rw [List.drop_eq_getElem_cons hlt, idxGo] at hi
  simp only [go_sem, ↓reduceIte, reduceCtorEq, Nat.reduceLT, Nat.reduceEqDiff, g1, g0, List.getElem?_map, List.getElem?_eq_getElem hlt]
  refine callCN (hp l[k] (List.getElem_mem hlt)) (snaps_self (vbytes l[k] :: caps) (by simp only [List.all_cons, isT1s hcap, Bool.and_true]; rfl) _) ?_
  cases hb : p l[k] with
  | true =>
   rw [if_pos hb] at hi
   rw [hi]
   simp only [go_sem, ↓reduceIte, reduceCtorEq, Nat.reduceLT, Nat.reduceEqDiff]
   exact .tree _ rfl
  | false =>
   rw [if_neg (by rw [hb]; simp)] at hi
   simp only [go_sem, ↓reduceIte, reduceCtorEq, Nat.reduceLT, Nat.reduceEqDiff, w1]
   exact ⟨l.length - (k + 1), ⟨[(0, .list 1 (l.map vbytes)), (1, .clo (.func g) caps), (7, vi l.length), (8, vi (k + 1 : Nat))], []⟩, by omega, WkE.keep (by simp only [go_sem, ↓reduceIte, reduceCtorEq, Nat.reduceEqDiff]), k + 1, rfl, by omega, hi, rfl⟩
 ·have g1 : ¬ (k : Int) < (l.length : Int) := by omega
  rw [List.drop_eq_nil_of_le (by omega), idxGo] at hi
  simp only [go_sem, ↓reduceIte, reduceCtorEq, Nat.reduceLT, Nat.reduceEqDiff, g1]
  exact ⟨⟨[], []⟩, WkE.keep trivial, hi, rfl⟩
theorem ContainsFunc86_s (g : FuncId) (caps : List AV) (hcap : (caps.all AV.isT1) = true) (p : List Int -> Bool) (l : List (List Int)) (hl : l.length <= 9223372036854775806) (hp : ∀ x ∈ l, Ctr Tryd.prog g (vbytes x :: caps) (vb (p x))) : Ctr Tryd.prog 86 [.list 1 (l.map vbytes), .clo (.func g) caps] (vb (l.any p)) := by
 refine specE f86 (by simp) fun F0 w0 => ?_
 simp only [c86, go_sem, ↓reduceIte, reduceCtorEq, Nat.reduceLT, Nat.reduceEqDiff]
 refine callN (IndexFunc100_s g caps hcap p l hl hp) (snaps_self [.list 1 (l.map vbytes), .clo (.func g) caps] (by simp only [List.all_cons, List.all_nil, Bool.and_true]; exact Bool.and_eq_true_iff.2 ⟨rfl, isT_clo hcap⟩) _) ?_
 simp only [go_sem, ↓reduceIte, Nat.reduceLT]
 rw [idxGo_any]
 exact .tree _ rfl
end Go.Proofs.YtnncijjkbonokaaDoor
namespace Go.Proofs.YtnncijjkbonokaaDoor
open Go.RowKit Dak
theorem takeS_eq {α : Type} {A B : List α} {k : Nat} (h : A.take k = B.take k) (h1 : k < A.length) (h2 : k < B.length) (e : A[k] = B[k]) : A.take (k + 1) = B.take (k + 1) := by
 rw [List.take_succ_eq_append_getElem h1, List.take_succ_eq_append_getElem h2, h, e]
theorem nt_ne {a b : Nt} (h : ¬ a = b) : ([a.s, a.l, a.a] = [b.s, b.l, b.a]) = False := by
 refine eq_false ?_
 intro h1
 cases a; cases b; simp_all
theorem Equal46_s (A B : List (Int)) (hA : A.length <= 9223372036854775806) : Ctr Tryd.prog 46 [.list 1 (A.map vu), .list 1 (B.map vu)] (vb (decide (A = B))) := by
 refine specE f46 (by simp) fun F0 w0 => ?_
 by_cases hl : A.length = B.length
 ·have hl' : (A.length : Int) = (B.length : Int) := by omega
  simp only [c46, go_sem, ↓reduceIte, reduceCtorEq, Nat.reduceLT, Nat.reduceEqDiff, hl']
  refine loopX 0 (fun m s => ∃ k : Nat, m = B.length - k /\ k <= B.length /\ A.take k = B.take k /\ s = ⟨[(0, .list 1 (A.map vu)), (1, .list 1 (B.map vu)), (12, vi B.length), (13, vi (k))], []⟩) (fun _ => A = B) B.length ⟨[(0, .list 1 (A.map vu)), (1, .list 1 (B.map vu)), (12, vi B.length), (13, vi (0 : Nat))], []⟩ (WkE.keep (by simp only [go_sem, ↓reduceIte, reduceCtorEq, Nat.reduceEqDiff]; rfl)) ⟨0, by omega, by omega, rfl, rfl⟩ ?_ ?_
  rotate_left
  ·rintro s e
   simp only [go_sem, ↓reduceIte, Nat.reduceLT, e]
   exact .tree _ rfl
  rintro m s ⟨k, rfl, hk, ht, rfl⟩
  by_cases hlt : k < B.length
  ·have hltA : k < A.length := by omega
   have h1 : (k : Int) < (B.length : Int) := by omega
   have h0 : (0 : Int) <= (k : Int) := by omega
   have hw : IntKind.i64.wrap ((k : Int) + 1) = ((k + 1 : Nat) : Int) := by rw [wrap_id (by omega) (by omega)]; omega
   by_cases he : A[k] = B[k]
   ·simp only [go_sem, ↓reduceIte, reduceCtorEq, Nat.reduceLT, Nat.reduceEqDiff, h1, h0, List.getElem?_map, List.getElem?_eq_getElem hlt, List.getElem?_eq_getElem hltA, he, hw]
    exact ⟨B.length - (k + 1), ⟨[(0, .list 1 (A.map vu)), (1, .list 1 (B.map vu)), (12, vi B.length), (13, vi (k + 1 : Nat))], []⟩, by omega, WkE.keep (by simp only [go_sem, ↓reduceIte, reduceCtorEq, Nat.reduceEqDiff]), k + 1, rfl, by omega, takeS_eq ht hltA hlt he, rfl⟩
   ·simp only [go_sem, ↓reduceIte, reduceCtorEq, Nat.reduceLT, Nat.reduceEqDiff, h1, h0, List.getElem?_map, List.getElem?_eq_getElem hlt, List.getElem?_eq_getElem hltA, he]
    have : decide (A = B) = false := by rw [decide_eq_false_iff_not]; rintro rfl; exact he rfl
    rw [this]; exact .tree _ rfl
  ·have hkB : k = B.length := by omega
   have h1 : ¬ (k : Int) < (B.length : Int) := by omega
   simp only [go_sem, ↓reduceIte, reduceCtorEq, Nat.reduceLT, Nat.reduceEqDiff, h1]
   refine ⟨⟨[], []⟩, WkE.keep trivial, ?_⟩
   rw [hkB, List.take_length, <- hl, List.take_length] at ht
   exact ht
 ·have hl' : ¬ (A.length : Int) = (B.length : Int) := by omega
  simp only [c46, go_sem, ↓reduceIte, reduceCtorEq, Nat.reduceLT, Nat.reduceEqDiff, hl']
  have : decide (A = B) = false := by rw [decide_eq_false_iff_not]; rintro rfl; exact hl rfl
  rw [this]; exact .tree _ rfl
theorem Equal65_s (A B : List (Nt)) (hA : A.length <= 9223372036854775806) : Ctr Tryd.prog 65 [.list 3 (A.map vnote), .list 3 (B.map vnote)] (vb (decide (A = B))) := by
 refine specE f65 (by simp) fun F0 w0 => ?_
 by_cases hl : A.length = B.length
 ·have hl' : (A.length : Int) = (B.length : Int) := by omega
  simp only [c65, go_sem, ↓reduceIte, reduceCtorEq, Nat.reduceLT, Nat.reduceEqDiff, hl']
  refine loopX 0 (fun m s => ∃ k : Nat, m = B.length - k /\ k <= B.length /\ A.take k = B.take k /\ s = ⟨[(0, .list 3 (A.map vnote)), (1, .list 3 (B.map vnote)), (12, vi B.length), (13, vi (k))], []⟩) (fun _ => A = B) B.length ⟨[(0, .list 3 (A.map vnote)), (1, .list 3 (B.map vnote)), (12, vi B.length), (13, vi (0 : Nat))], []⟩ (WkE.keep (by simp only [go_sem, ↓reduceIte, reduceCtorEq, Nat.reduceEqDiff]; rfl)) ⟨0, by omega, by omega, rfl, rfl⟩ ?_ ?_
  rotate_left
  ·rintro s e
   simp only [go_sem, ↓reduceIte, Nat.reduceLT, e]
   exact .tree _ rfl
  rintro m s ⟨k, rfl, hk, ht, rfl⟩
  by_cases hlt : k < B.length
  ·have hltA : k < A.length := by omega
   have h1 : (k : Int) < (B.length : Int) := by omega
   have h0 : (0 : Int) <= (k : Int) := by omega
   have hw : IntKind.i64.wrap ((k : Int) + 1) = ((k + 1 : Nat) : Int) := by rw [wrap_id (by omega) (by omega)]; omega
   by_cases he : A[k] = B[k]
   ·simp only [go_sem, ↓reduceIte, reduceCtorEq, Nat.reduceLT, Nat.reduceEqDiff, Nat.reduceAdd, h1, h0, List.getElem?_map, List.getElem?_eq_getElem hlt, List.getElem?_eq_getElem hltA, he, hw]
    exact ⟨B.length - (k + 1), ⟨[(0, .list 3 (A.map vnote)), (1, .list 3 (B.map vnote)), (12, vi B.length), (13, vi (k + 1 : Nat))], []⟩, by omega, WkE.keep (by simp only [go_sem, ↓reduceIte, reduceCtorEq, Nat.reduceEqDiff]), k + 1, rfl, by omega, takeS_eq ht hltA hlt he, rfl⟩
   ·simp only [go_sem, ↓reduceIte, reduceCtorEq, Nat.reduceLT, Nat.reduceEqDiff, Nat.reduceAdd, h1, h0, List.getElem?_map, List.getElem?_eq_getElem hlt, List.getElem?_eq_getElem hltA, nt_ne he]
    have : decide (A = B) = false := by rw [decide_eq_false_iff_not]; rintro rfl; exact he rfl
    rw [this]; exact .tree _ rfl
  ·have hkB : k = B.length := by omega
   have h1 : ¬ (k : Int) < (B.length : Int) := by omega
   simp only [go_sem, ↓reduceIte, reduceCtorEq, Nat.reduceLT, Nat.reduceEqDiff, h1]
   refine ⟨⟨[], []⟩, WkE.keep trivial, ?_⟩
   rw [hkB, List.take_length, <- hl, List.take_length] at ht
   exact ht
 ·have hl' : ¬ (A.length : Int) = (B.length : Int) := by omega
  simp only [c65, go_sem, ↓reduceIte, reduceCtorEq, Nat.reduceLT, Nat.reduceEqDiff, hl']
  have : decide (A = B) = false := by rw [decide_eq_false_iff_not]; rintro rfl; exact hl rfl
  rw [this]; exact .tree _ rfl
theorem Equal15_s (A B : List (Int)) (hA : A.length <= 9223372036854775806) : Ctr Tryd.prog 15 [.list 1 (A.map vu), .list 1 (B.map vu)] (vb (decide (A = B))) := by
 refine specE f15 (by simp) fun F0 w0 => ?_
 by_cases hl : A.length = B.length
 ·have hl' : (A.length : Int) = (B.length : Int) := by omega
  simp only [c15, go_sem, ↓reduceIte, reduceCtorEq, Nat.reduceLT, Nat.reduceEqDiff, hl']
  refine loopX 0 (fun m s => ∃ k : Nat, m = B.length - k /\ k <= B.length /\ A.take k = B.take k /\ s = ⟨[(0, .list 1 (A.map vu)), (1, .list 1 (B.map vu)), (5, vi (k))], []⟩) (fun _ => A = B) B.length ⟨[(0, .list 1 (A.map vu)), (1, .list 1 (B.map vu)), (5, vi (0 : Nat))], []⟩ (WkE.keep (by simp only [go_sem, ↓reduceIte, reduceCtorEq, Nat.reduceEqDiff]; rfl)) ⟨0, by omega, by omega, rfl, rfl⟩ ?_ ?_
  rotate_left
  ·rintro s e
   simp only [go_sem, ↓reduceIte, Nat.reduceLT, e]
   exact .tree _ rfl
  rintro m s ⟨k, rfl, hk, ht, rfl⟩
  by_cases hlt : k < B.length
  ·have hltA : k < A.length := by omega
   have h1 : (k : Int) < (B.length : Int) := by omega
   have h0 : (0 : Int) <= (k : Int) := by omega
   have hw : IntKind.i64.wrap ((k : Int) + 1) = ((k + 1 : Nat) : Int) := by rw [wrap_id (by omega) (by omega)]; omega
   by_cases he : A[k] = B[k]
   ·simp only [go_sem, ↓reduceIte, reduceCtorEq, Nat.reduceLT, Nat.reduceEqDiff, hl', h1, h0, List.getElem?_map, List.getElem?_eq_getElem hlt, List.getElem?_eq_getElem hltA, he, hw]
    exact ⟨B.length - (k + 1), ⟨[(0, .list 1 (A.map vu)), (1, .list 1 (B.map vu)), (5, vi (k + 1 : Nat))], []⟩, by omega, WkE.keep (by simp only [go_sem, ↓reduceIte, reduceCtorEq, Nat.reduceEqDiff]), k + 1, rfl, by omega, takeS_eq ht hltA hlt he, rfl⟩
   ·simp only [go_sem, ↓reduceIte, reduceCtorEq, Nat.reduceLT, Nat.reduceEqDiff, hl', h1, h0, List.getElem?_map, List.getElem?_eq_getElem hlt, List.getElem?_eq_getElem hltA, he]
    have : decide (A = B) = false := by rw [decide_eq_false_iff_not]; rintro rfl; exact he rfl
    rw [this]; exact .tree _ rfl
  ·have hkB : k = B.length := by omega
   have h1 : ¬ (k : Int) < (B.length : Int) := by omega
   simp only [go_sem, ↓reduceIte, reduceCtorEq, Nat.reduceLT, Nat.reduceEqDiff, hl', h1]
   refine ⟨⟨[], []⟩, WkE.keep trivial, ?_⟩
   rw [hkB, List.take_length, <- hl, List.take_length] at ht
   exact ht
 ·have hl' : ¬ (A.length : Int) = (B.length : Int) := by omega
  simp only [c15, go_sem, ↓reduceIte, reduceCtorEq, Nat.reduceLT, Nat.reduceEqDiff, hl']
  have : decide (A = B) = false := by rw [decide_eq_false_iff_not]; rintro rfl; exact hl rfl
  rw [this]; exact .tree _ rfl
theorem Equal47_s (A B : List (Nt)) (hA : A.length <= 9223372036854775806) : Ctr Tryd.prog 47 [.list 3 (A.map vnote), .list 3 (B.map vnote)] (vb (decide (A = B))) := by
 refine specE f47 (by simp) fun F0 w0 => ?_
 by_cases hl : A.length = B.length
 ·have hl' : (A.length : Int) = (B.length : Int) := by omega
  simp only [c47, go_sem, ↓reduceIte, reduceCtorEq, Nat.reduceLT, Nat.reduceEqDiff, hl']
  refine loopX 0 (fun m s => ∃ k : Nat, m = B.length - k /\ k <= B.length /\ A.take k = B.take k /\ s = ⟨[(0, .list 3 (A.map vnote)), (1, .list 3 (B.map vnote)), (5, vi (k))], []⟩) (fun _ => A = B) B.length ⟨[(0, .list 3 (A.map vnote)), (1, .list 3 (B.map vnote)), (5, vi (0 : Nat))], []⟩ (WkE.keep (by simp only [go_sem, ↓reduceIte, reduceCtorEq, Nat.reduceEqDiff]; rfl)) ⟨0, by omega, by omega, rfl, rfl⟩ ?_ ?_
  rotate_left
  ·rintro s e
   simp only [go_sem, ↓reduceIte, Nat.reduceLT, e]
   exact .tree _ rfl
  rintro m s ⟨k, rfl, hk, ht, rfl⟩
  by_cases hlt : k < B.length
  ·have hltA : k < A.length := by omega
   have h1 : (k : Int) < (B.length : Int) := by omega
   have h0 : (0 : Int) <= (k : Int) := by omega
   have hw : IntKind.i64.wrap ((k : Int) + 1) = ((k + 1 : Nat) : Int) := by rw [wrap_id (by omega) (by omega)]; omega
   by_cases he : A[k] = B[k]
   ·simp only [go_sem, ↓reduceIte, reduceCtorEq, Nat.reduceLT, Nat.reduceEqDiff, Nat.reduceAdd, hl', h1, h0, List.getElem?_map, List.getElem?_eq_getElem hlt, List.getElem?_eq_getElem hltA, he, hw]
    exact ⟨B.length - (k + 1), ⟨[(0, .list 3 (A.map vnote)), (1, .list 3 (B.map vnote)), (5, vi (k + 1 : Nat))], []⟩, by omega, WkE.keep (by simp only [go_sem, ↓reduceIte, reduceCtorEq, Nat.reduceEqDiff]), k + 1, rfl, by omega, takeS_eq ht hltA hlt he, rfl⟩
   ·simp only [go_sem, ↓reduceIte, reduceCtorEq, Nat.reduceLT, Nat.reduceEqDiff, Nat.reduceAdd, hl', h1, h0, List.getElem?_map, List.getElem?_eq_getElem hlt, List.getElem?_eq_getElem hltA, nt_ne he]
    have : decide (A = B) = false := by rw [decide_eq_false_iff_not]; rintro rfl; exact he rfl
    rw [this]; exact .tree _ rfl
  ·have hkB : k = B.length := by omega
   have h1 : ¬ (k : Int) < (B.length : Int) := by omega
   simp only [go_sem, ↓reduceIte, reduceCtorEq, Nat.reduceLT, Nat.reduceEqDiff, hl', h1]
   refine ⟨⟨[], []⟩, WkE.keep trivial, ?_⟩
   rw [hkB, List.take_length, <- hl, List.take_length] at ht
   exact ht
 ·have hl' : ¬ (A.length : Int) = (B.length : Int) := by omega
  simp only [c47, go_sem, ↓reduceIte, reduceCtorEq, Nat.reduceLT, Nat.reduceEqDiff, hl']
  have : decide (A = B) = false := by rw [decide_eq_false_iff_not]; rintro rfl; exact hl rfl
  rw [this]; exact .tree _ rfl
theorem EqualFunc44_s (g : FuncId) (A B : List (List Int)) (hA : A.length <= 9223372036854775806) (hg : ∀ x ∈ A, ∀ y ∈ B, Ctr Tryd.prog g [vbytes x, vbytes y] (vb (decide (x = y)))) : Ctr Tryd.prog 44 [.list 1 (A.map vbytes), .list 1 (B.map vbytes), .clo (.func g) []] (vb (decide (A = B))) := by
 refine specE f44 (by simp) fun F0 w0 => ?_
 by_cases hl : A.length = B.length
 ·have hl' : (A.length : Int) = (B.length : Int) := by omega
  simp only [c44, go_sem, ↓reduceIte, reduceCtorEq, Nat.reduceLT, Nat.reduceEqDiff, Nat.reduceAdd, hl']
  refine loopX 0 (fun m s => ∃ k : Nat, m = B.length - k /\ k <= B.length /\ A.take k = B.take k /\ s = ⟨[(1, .list 1 (B.map vbytes)), (2, .clo (.func g) []), (15, .list 1 (A.map vbytes)), (16, vi B.length), (17, vi (k))], []⟩) (fun _ => A = B) B.length ⟨[(1, .list 1 (B.map vbytes)), (2, .clo (.func g) []), (15, .list 1 (A.map vbytes)), (16, vi B.length), (17, vi (0 : Nat))], []⟩ (WkE.keep (by simp only [go_sem, ↓reduceIte, reduceCtorEq, Nat.reduceEqDiff]; rfl)) ⟨0, by omega, by omega, rfl, rfl⟩ ?_ ?_
  rotate_left
  ·rintro s e
   simp only [go_sem, ↓reduceIte, Nat.reduceLT, e]
   exact .tree _ rfl
  rintro m s ⟨k, rfl, hk, ht, rfl⟩
  by_cases hlt : k < B.length
  ·have hltA : k < A.length := by omega
   have h1 : (k : Int) < (B.length : Int) := by omega
   have h0 : (0 : Int) <= (k : Int) := by omega
   have hw : IntKind.i64.wrap ((k : Int) + 1) = ((k + 1 : Nat) : Int) := by rw [wrap_id (by omega) (by omega)]; omega
   simp only [go_sem, ↓reduceIte, Nat.reduceLT, Nat.reduceEqDiff, h1, h0, List.getElem?_map, List.getElem?_eq_getElem hlt, List.getElem?_eq_getElem hltA]
   refine callT (hg A[k] (List.getElem_mem hltA) B[k] (List.getElem_mem hlt)) rfl ?_
   by_cases he : A[k] = B[k]
   ·simp only [go_sem, ↓reduceIte, Nat.reduceLT, Nat.reduceEqDiff, he, hw]
    exact ⟨B.length - (k + 1), ⟨[(1, .list 1 (B.map vbytes)), (2, .clo (.func g) []), (15, .list 1 (A.map vbytes)), (16, vi B.length), (17, vi (k + 1 : Nat))], []⟩, by omega, WkE.keep (by simp only [go_sem, ↓reduceIte, Nat.reduceEqDiff]), k + 1, rfl, by omega, takeS_eq ht hltA hlt he, rfl⟩
   ·simp only [go_sem, ↓reduceIte, Nat.reduceLT, he]
    have : decide (A = B) = false := by rw [decide_eq_false_iff_not]; rintro rfl; exact he rfl
    rw [this]; exact .tree _ rfl
  ·have hkB : k = B.length := by omega
   have h1 : ¬ (k : Int) < (B.length : Int) := by omega
   simp only [go_sem, ↓reduceIte, Nat.reduceLT, Nat.reduceEqDiff, h1]
   refine ⟨⟨[], []⟩, WkE.keep trivial, ?_⟩
   rw [hkB, List.take_length, <- hl, List.take_length] at ht
   exact ht
 ·have hl' : ¬ (A.length : Int) = (B.length : Int) := by omega
  simp only [c44, go_sem, ↓reduceIte, reduceCtorEq, Nat.reduceLT, Nat.reduceEqDiff, Nat.reduceAdd, hl']
  have : decide (A = B) = false := by rw [decide_eq_false_iff_not]; rintro rfl; exact hl rfl
  rw [this]; exact .tree _ rfl
theorem Read1_s (A B : List Int) (hA : A.length <= 9223372036854775806) : Ctr Tryd.prog 45 [vbytes A, vbytes B] (vb (decide (A = B))) := by
 refine specE f45 (by simp) fun F0 w0 => ?_
 simp only [c45, go_sem, ↓reduceIte, reduceCtorEq, Nat.reduceLT, Nat.reduceEqDiff]
 refine callT (Equal46_s A B hA) rfl ?_
 simp only [go_sem, ↓reduceIte, Nat.reduceLT]
 exact .tree _ rfl
def lenM (m : List (List (List Nt))) : Prop := m.length <= 9223372036854775806 /\ ∀ h ∈ m, h.length <= 9223372036854775806 /\ ∀ b ∈ h, b.length <= 9223372036854775806
end Go.Proofs.YtnncijjkbonokaaDoor
namespace Go.Proofs.YtnncijjkbonokaaDoor
open Go.RowKit Dak
def aroundL (n most : Int) : Int := if most < 1 then 0 else (if n < 0 then -(n + 1) else n) % most
theorem Around_s (n most : Int) (hn : I64 n) (hm : I64 most) : Ctr Tryd.prog 12 [vi n, vi most] (vi (aroundL n most)) := by
 obtain ⟨h1, h2⟩ := hn
 obtain ⟨h3, h4⟩ := hm
 refine specE f12 (by simp) fun F0 w0 => ?_
 by_cases a : n < 0
 ·have e1 : IntKind.i64.wrap (n + 1) = n + 1 := wrap_id (by omega) (by omega)
  have e2 : IntKind.i64.wrap (0 - (n + 1)) = -(n + 1) := by rw [wrap_id (by omega) (by omega)]; omega
  by_cases b : most < 1
  ·simp only [c12, go_sem, ↓reduceIte, reduceCtorEq, Nat.reduceLT, Nat.reduceEqDiff, a, b, e1, e2]
   simp only [aroundL, a, b, if_true]
   exact .tree _ rfl
  ·have b0 : ¬ most = 0 := by omega
   simp only [c12, go_sem, ↓reduceIte, reduceCtorEq, Nat.reduceLT, Nat.reduceEqDiff, a, b, e1, e2, b0]
   have : (-(n + 1)).tmod most = aroundL n most := by
    simp only [aroundL, a, b, if_true, if_false]
    rw [Int.tmod_eq_emod_of_nonneg (by omega)]
   rw [this]
   exact .tree _ rfl
 ·by_cases b : most < 1
  ·simp only [c12, go_sem, ↓reduceIte, reduceCtorEq, Nat.reduceLT, Nat.reduceEqDiff, a, b]
   simp only [aroundL, b, if_true]
   exact .tree _ rfl
  ·have b0 : ¬ most = 0 := by omega
   simp only [c12, go_sem, ↓reduceIte, reduceCtorEq, Nat.reduceLT, Nat.reduceEqDiff, a, b, b0]
   have : n.tmod most = aroundL n most := by
    simp only [aroundL, a, b, if_false]
    rw [Int.tmod_eq_emod_of_nonneg (by omega)]
   rw [this]
   exact .tree _ rfl
def atL (l : List Int) (i most : Int) : Int := if i < 0 then 0 else match l[i.toNat]? with
 | some x => aroundL x most
 | none => 0
theorem At_s (l : List Int) (i most : Int) (hl : ∀ x ∈ l, I64 x) (hm : I64 most) : Ctr Tryd.prog 33 [vints l, vi i, vi most] (vi (atL l i most)) := by
 refine specE f33 (by simp) fun F0 w0 => ?_
 by_cases a : i < 0
 ·simp only [c33, go_sem, ↓reduceIte, reduceCtorEq, Nat.reduceLT, Nat.reduceEqDiff, Nat.reduceAdd, a]
  simp only [atL, a, if_true]
  exact .tree _ rfl
 ·by_cases b : (l.length : Int) <= i
  ·simp only [c33, go_sem, ↓reduceIte, reduceCtorEq, Nat.reduceLT, Nat.reduceEqDiff, Nat.reduceAdd, a, b, List.length_map]
   have : l[i.toNat]? = none := by rw [List.getElem?_eq_none]; omega
   simp only [atL, a, if_false, this]
   exact .tree _ rfl
  ·have hlt : i.toNat < l.length := by omega
   have a' : 0 <= i := by omega
   simp only [c33, go_sem, ↓reduceIte, reduceCtorEq, Nat.reduceLT, Nat.reduceEqDiff, Nat.reduceAdd, a, b, a', List.length_map, List.getElem?_map, List.getElem?_eq_getElem hlt]
   refine callF (Around_s _ _ (hl _ (List.getElem_mem _)) hm) (.cons (.tree _ rfl) (.cons (.tree _ rfl) .nil)) rfl ?_
   have : atL l i most = aroundL l[i.toNat] most := by simp only [atL, a, if_false, List.getElem?_eq_getElem hlt]
   rw [this]
   simp only [go_sem, ↓reduceIte, Nat.reduceLT]
   exact .tree _ rfl
def rightP (n : Nt) : Bool := decide (-1 <= n.s /\ n.s <= 48 /\ 0 <= n.l /\ n.l <= 4 /\ -1 <= n.a /\ n.a <= 1 /\ (0 <= n.s \/ n.a = 0))
def okA (n : Nt) : Prop := -1000000000000 <= n.a /\ n.a <= 1000000000000
theorem right_s (n : Nt) (hn : okA n) : Ctr Tryd.prog 68 [vnote n] (vb (rightP n)) := by
 refine specE f68 (by simp) fun F0 w0 => ?_
 obtain ⟨a1, a2⟩ := hn
 have hw : IntKind.i64.wrap (0 - n.a) = - n.a := by rw [wrap_id (by omega) (by omega)]; omega
 by_cases h1 : -1 <= n.s
 ·by_cases h2 : n.s <= 48
  ·by_cases h3 : 0 <= n.l
   ·by_cases h4 : n.l < 5
    ·by_cases h5 : (if n.a < -n.a then -n.a else n.a) <= 1
     ·by_cases h6 : 0 <= n.s
      ·simp only [c68, go_sem, ↓reduceIte, Nat.reduceLT, Nat.reduceEqDiff, Nat.reduceAdd, h1, h2, h3, h4, hw, h5, h6]
       rw [show rightP n = true by simp only [rightP, decide_eq_true_eq]; omega]
       exact .tree _ rfl
      ·by_cases h7 : n.a = 0
       ·have h5' : ((if (0 : Int) < 0 then (0 : Int) else 0) <= 1) = True := by simp
        have hw' : IntKind.i64.wrap (0 - 0) = 0 := by decide
        simp only [c68, go_sem, ↓reduceIte, Nat.reduceLT, Nat.reduceEqDiff, Nat.reduceAdd, h1, h2, h3, h4, h7, hw', h5', h6]
        rw [show rightP n = true by simp only [rightP, decide_eq_true_eq]; omega]
        exact .tree _ rfl
       ·simp only [c68, go_sem, ↓reduceIte, Nat.reduceLT, Nat.reduceEqDiff, Nat.reduceAdd, h1, h2, h3, h4, hw, h5, h6, h7]
        rw [show rightP n = false by simp only [rightP, decide_eq_false_iff_not]; omega]
        exact .tree _ rfl
     ·simp only [c68, go_sem, ↓reduceIte, Nat.reduceLT, Nat.reduceEqDiff, Nat.reduceAdd, h1, h2, h3, h4, hw, h5]
      rw [show rightP n = false by simp only [rightP, decide_eq_false_iff_not]; omega]
      exact .tree _ rfl
    ·simp only [c68, go_sem, ↓reduceIte, Nat.reduceLT, Nat.reduceEqDiff, Nat.reduceAdd, h1, h2, h3, h4]
     rw [show rightP n = false by simp only [rightP, decide_eq_false_iff_not]; omega]
     exact .tree _ rfl
   ·simp only [c68, go_sem, ↓reduceIte, Nat.reduceLT, Nat.reduceEqDiff, Nat.reduceAdd, h1, h2, h3]
    rw [show rightP n = false by simp only [rightP, decide_eq_false_iff_not]; omega]
    exact .tree _ rfl
  ·simp only [c68, go_sem, ↓reduceIte, Nat.reduceLT, Nat.reduceEqDiff, Nat.reduceAdd, h1, h2]
   rw [show rightP n = false by simp only [rightP, decide_eq_false_iff_not]; omega]
   exact .tree _ rfl
 ·simp only [c68, go_sem, ↓reduceIte, Nat.reduceLT, Nat.reduceEqDiff, Nat.reduceAdd, h1]
  rw [show rightP n = false by simp only [rightP, decide_eq_false_iff_not]; omega]
  exact .tree _ rfl
theorem note_s (n : Nt) : Ctr Tryd.prog 69 [vnote n] (vb (rightP n)) := by
 refine specE f69 (by simp) fun F0 w0 => ?_
 by_cases h1 : n.s < -1
 ·simp only [c69, go_sem, ↓reduceIte, Nat.reduceLT, Nat.reduceEqDiff, Nat.reduceAdd, h1]
  rw [show rightP n = false by simp only [rightP, decide_eq_false_iff_not]; omega]
  exact .tree _ rfl
 by_cases h2 : 48 < n.s
 ·simp only [c69, go_sem, ↓reduceIte, Nat.reduceLT, Nat.reduceEqDiff, Nat.reduceAdd, h1, h2]
  rw [show rightP n = false by simp only [rightP, decide_eq_false_iff_not]; omega]
  exact .tree _ rfl
 by_cases h3 : n.l < 0
 ·simp only [c69, go_sem, ↓reduceIte, Nat.reduceLT, Nat.reduceEqDiff, Nat.reduceAdd, h1, h2, h3]
  rw [show rightP n = false by simp only [rightP, decide_eq_false_iff_not]; omega]
  exact .tree _ rfl
 by_cases h4 : 4 < n.l
 ·simp only [c69, go_sem, ↓reduceIte, Nat.reduceLT, Nat.reduceEqDiff, Nat.reduceAdd, h1, h2, h3, h4]
  rw [show rightP n = false by simp only [rightP, decide_eq_false_iff_not]; omega]
  exact .tree _ rfl
 by_cases h5 : n.a < -1
 ·simp only [c69, go_sem, ↓reduceIte, Nat.reduceLT, Nat.reduceEqDiff, Nat.reduceAdd, h1, h2, h3, h4, h5]
  rw [show rightP n = false by simp only [rightP, decide_eq_false_iff_not]; omega]
  exact .tree _ rfl
 by_cases h6 : 1 < n.a
 ·simp only [c69, go_sem, ↓reduceIte, Nat.reduceLT, Nat.reduceEqDiff, Nat.reduceAdd, h1, h2, h3, h4, h5, h6]
  rw [show rightP n = false by simp only [rightP, decide_eq_false_iff_not]; omega]
  exact .tree _ rfl
 by_cases h7 : 0 <= n.s
 ·simp only [c69, go_sem, ↓reduceIte, Nat.reduceLT, Nat.reduceEqDiff, Nat.reduceAdd, h1, h2, h3, h4, h5, h6, h7]
  rw [show rightP n = true by simp only [rightP, decide_eq_true_eq]; omega]
  exact .tree _ rfl
 by_cases h8 : n.a = 0
 ·have e1 : ¬ ((0 : Int) < -1) := by decide
  have e2 : ¬ ((1 : Int) < 0) := by decide
  simp only [c69, go_sem, ↓reduceIte, Nat.reduceLT, Nat.reduceEqDiff, Nat.reduceAdd, h1, h2, h3, h4, h8, e1, e2, h7]
  rw [show rightP n = true by simp only [rightP, decide_eq_true_eq]; omega]
  exact .tree _ rfl
 ·simp only [c69, go_sem, ↓reduceIte, Nat.reduceLT, Nat.reduceEqDiff, Nat.reduceAdd, h1, h2, h3, h4, h5, h6, h7, h8]
  rw [show rightP n = false by simp only [rightP, decide_eq_false_iff_not]; omega]
  exact .tree _ rfl
theorem notRight_s (n : Nt) (hn : okA n) : Ctr Tryd.prog 67 [vnote n] (vb (!rightP n)) := by
 refine specE f67 (by simp) fun F0 w0 => ?_
 simp only [c67, go_sem, ↓reduceIte, Nat.reduceLT, Nat.reduceEqDiff, Nat.reduceAdd]
 refine callT (right_s n hn) rfl ?_
 simp only [go_sem, ↓reduceIte, Nat.reduceLT]
 exact .tree _ rfl
def barP (l : List Nt) : Bool := !l.isEmpty && l.all rightP
theorem any_not {α : Type} (p : α -> Bool) (l : List α) : (!l.any fun x => !p x) = l.all p := by
 induction l with
 | nil => rfl
 | cons x l ih => simp only [List.any_cons, List.all_cons, Bool.not_or, Bool.not_not, ih]
theorem barP_nil {l : List Nt} (h : l.length = 0) : barP l = false := by
 rw [List.eq_nil_of_length_eq_zero h]; rfl
theorem barP_pos {l : List Nt} (h : 0 < l.length) : barP l = l.all rightP := by
 cases l with
 | nil => simp at h
 | cons x l => rfl
end Go.Proofs.YtnncijjkbonokaaDoor
