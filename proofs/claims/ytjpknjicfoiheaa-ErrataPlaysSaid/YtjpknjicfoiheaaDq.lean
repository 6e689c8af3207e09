/- Abstract states with named slots: what is to be shown of a code, in a form that simp carries out. -/
import Derived.Test.YtjpknjicfoiheaaDb
set_option linter.unusedSimpArgs false
set_option linter.unusedVariables false
set_option linter.unusedSectionVars false
namespace Dak
open Go Go.RowKit
variable {P : Program} {F0 : FD} {w0 w : World} {L : Lay} {objs objs0 : List AObj} {nid : Nat}

/-- What the slots hold, the newest first. -/
def lk : List (Nat × AV) → Nat → AV
  | [], _ => .junk
  | (k, v) :: r, t => if k = t then v else lk r t

/-- A slot as an operand. -/
abbrev T (n : Nat) : Operand := .tmp n

structure Est where
  env : List (Nat × AV)
  objs : List AObj

def KeysOk (n : Nat) (env : List (Nat × AV)) : Prop := ∀ t, n ≤ t → lk env t = .junk
def toT (n : Nat) (env : List (Nat × AV)) : List AV := (List.range n).map (lk env)
def Est.toSt (n : Nat) (s : Est) : St := ⟨toT n s.env, s.objs⟩

def evE (env : List (Nat × AV)) : Operand → AV
  | .tmp t => lk env t
  | .const v => ofV v
  | .func f => .clo (.func f) []
  | .global _ => .junk

def putE (env : List (Nat × AV)) (dst : Option Nat) (v : AV) : List (Nat × AV) :=
  match dst with
  | some d => (d, v) :: env
  | none => env

/-- The slot is one of the frame's. -/
def okD (n : Nat) : Option Nat → Prop
  | some d => d < n
  | none => True

theorem toT_getD {n : Nat} {env : List (Nat × AV)} (hk : KeysOk n env) (t : Nat) : (toT n env).getD t .junk = lk env t := by
  unfold toT
  by_cases h : t < n
  · rw [List.getD_eq_getElem?_getD, List.getElem?_eq_getElem (by simpa using h)]; simp
  · rw [List.getD_eq_getElem?_getD, List.getElem?_eq_none (by simp; omega)]
    exact (hk t (by omega)).symm

theorem ev_toT {n : Nat} {env : List (Nat × AV)} (hk : KeysOk n env) : St.ev (toT n env) = evE env := by
  funext x
  cases x with
  | tmp t => exact toT_getD hk t
  | _ => rfl

theorem put_toT {n : Nat} {env : List (Nat × AV)} {dst : Option Nat} (hd : okD n dst) (v : AV) : St.put (toT n env) dst v = toT n (putE env dst v) := by
  cases dst with
  | none => rfl
  | some d =>
    have hd : d < n := hd
    refine getD_ext (by rw [put_len]; simp [toT]) fun t ht => ?_
    rw [put_len] at ht
    have ht' : t < n := by simpa [toT] using ht
    rw [put_getD ht]
    have e : ∀ env, (toT n env).getD t .junk = lk env t := by
      intro env
      unfold toT
      rw [List.getD_eq_getElem?_getD, List.getElem?_eq_getElem (by simpa using ht')]; simp
    rw [e, e]
    simp only [putE, lk, Option.some.injEq]

theorem keys_put {n : Nat} {env : List (Nat × AV)} (hk : KeysOk n env) {dst : Option Nat} (hd : okD n dst) (v : AV) : KeysOk n (putE env dst v) := by
  cases dst with
  | none => exact hk
  | some d =>
    have hd : d < n := hd
    intro t ht
    simp only [putE, lk]
    rw [if_neg (fun e => absurd hd (by rw [e]; exact Nat.not_lt.2 ht))]; exact hk t ht

def RstepE (P : Program) (n : Nat) (c : COper) (K : Est → Prop) (s : Est) : Prop :=
  match c.op with
  | .call f args => okD n c.dst ∧ ∃ r objs', CallM P true s.objs (evE s.env f) (args.map (evE s.env)) r objs' ∧ K ⟨putE s.env c.dst r, objs'⟩
  | op => match step1 s.objs (evE s.env) op with
    | some (r, objs) => okD n c.dst ∧ K ⟨putE s.env c.dst r, objs⟩
    | none => False

def RopsE (P : Program) (n : Nat) : List COper → (Est → Prop) → Est → Prop
  | [], K, s => K s
  | c :: rest, K, s =>
    match c.guard with
    | none => RstepE P n c (RopsE P n rest K) s
    | some (t, want) => match gdB (lk s.env t) with
      | some b => (b = some want → RstepE P n c (RopsE P n rest K) s) ∧ (b ≠ some want → okD n c.dst ∧ RopsE P n rest K ⟨putE s.env c.dst nov, s.objs⟩)
      | none => False

def LiftE (n : Nat) (K : Est → Prop) (st : St) : Prop := ∃ s, K s ∧ KeysOk n s.env ∧ st = s.toSt n

theorem ropsE_ok {n : Nat} {K : Est → Prop} : ∀ (cs : List COper) (s : Est), KeysOk n s.env → RopsE P n cs K s → Rops P cs (LiftE n K) (s.toSt n)
  | [], s, hk, h => ⟨s, h, hk, rfl⟩
  | c :: rest, s, hk, h => by
    have step : RstepE P n c (RopsE P n rest K) s → Rstep P c (Rops P rest (LiftE n K)) (s.toSt n) := by
      intro h
      have plain : ∀ op, op = c.op → (match step1 s.objs (evE s.env) op with | some (r, objs) => okD n c.dst ∧ RopsE P n rest K ⟨putE s.env c.dst r, objs⟩ | none => False) →
          (match step1 s.objs (St.ev (toT n s.env)) op with | some (r, objs) => Rops P rest (LiftE n K) ⟨St.put (toT n s.env) c.dst r, objs⟩ | none => False) := by
        rintro op rfl h
        rw [ev_toT hk]
        split at h
        · rename_i r objs' hq
          rw [put_toT h.1]
          exact ropsE_ok rest ⟨_, _⟩ (keys_put hk h.1 r) h.2
        · exact h.elim
      unfold RstepE at h
      unfold Rstep
      split at h
      · rename_i f args hop
        simp only [hop]
        obtain ⟨hd, r, objs', hc, hK⟩ := h
        refine ⟨r, objs', ?_, ?_⟩
        · show CallM P true s.objs (St.ev (toT n s.env) f) (args.map (St.ev (toT n s.env))) r objs'
          rw [ev_toT hk]; exact hc
        · show Rops P rest (LiftE n K) ⟨St.put (toT n s.env) c.dst r, objs'⟩
          rw [put_toT hd]
          exact ropsE_ok rest ⟨_, _⟩ (keys_put hk hd r) hK
      · rename_i op hne
        have := plain _ rfl h
        split
        · rename_i f args hop
          exact absurd hop (hne f args)
        · exact this
    simp only [RopsE] at h
    simp only [Rops]
    cases hg : c.guard with
    | none => rw [hg] at h; exact step h
    | some q =>
      obtain ⟨t, want⟩ := q
      rw [hg] at h
      simp only at h ⊢
      have e : (s.toSt n).tmps.getD t .junk = lk s.env t := toT_getD hk t
      rw [e]
      split at h
      · rename_i b hb
        rw [hb]
        refine ⟨fun hw => step (h.1 hw), fun hw => ?_⟩
        obtain ⟨hd, h2⟩ := h.2 hw
        show Rops P rest (LiftE n K) ⟨St.put (toT n s.env) c.dst nov, s.objs⟩
        rw [put_toT hd]
        exact ropsE_ok rest ⟨_, _⟩ (keys_put hk hd _) h2
      · exact h.elim

def LatesE (s : Est) : List COper → Prop
  | [] => True
  | l :: ls => (match l.dst with
    | some t => qstep s.objs (evE s.env) 0 l.op = some (lk s.env t, none)
    | none => False) ∧ LatesE s ls

theorem latesE_ok {n : Nat} {s : Est} (hk : KeysOk n s.env) : ∀ {ls : List COper}, LatesE s ls → LatesOk (s.toSt n) ls
  | [], _ => trivial
  | l :: ls, h => by
    refine ⟨?_, latesE_ok hk h.2⟩
    have h1 := h.1
    split at h1
    · rename_i t hd
      refine ⟨t, hd, ?_⟩
      show qstep s.objs (St.ev (toT n s.env)) 0 l.op = some ((toT n s.env).getD t .junk, none)
      rw [ev_toT hk, toT_getD hk]; exact h1
    · exact h1.elim

def RopsLE (P : Program) (n : Nat) : List (COper × List COper) → (Est → Prop) → Est → Prop
  | [], K, s => K s
  | (c, ls) :: rest, K, s =>
    match c.guard with
    | none => RstepE P n c (fun s => LatesE s ls ∧ RopsLE P n rest K s) s
    | some (t, want) => match gdB (lk s.env t) with
      | some b => (b = some want → RstepE P n c (fun s => LatesE s ls ∧ RopsLE P n rest K s) s) ∧
          (b ≠ some want → okD n c.dst ∧ LatesE ⟨putE s.env c.dst nov, s.objs⟩ ls ∧ RopsLE P n rest K ⟨putE s.env c.dst nov, s.objs⟩)
      | none => False

theorem rstepE_ok {n : Nat} {c : COper} {K : Est → Prop} {K' : St → Prop} {s : Est} (hk : KeysOk n s.env) (hK : ∀ s, KeysOk n s.env → K s → K' (s.toSt n)) (h : RstepE P n c K s) : Rstep P c K' (s.toSt n) := by
  have plain : ∀ op, op = c.op → (match step1 s.objs (evE s.env) op with | some (r, objs) => okD n c.dst ∧ K ⟨putE s.env c.dst r, objs⟩ | none => False) →
      (match step1 s.objs (St.ev (toT n s.env)) op with | some (r, objs) => K' ⟨St.put (toT n s.env) c.dst r, objs⟩ | none => False) := by
    rintro op rfl h
    rw [ev_toT hk]
    split at h
    · rename_i r objs' hq
      rw [put_toT h.1]
      exact hK ⟨_, _⟩ (keys_put hk h.1 r) h.2
    · exact h.elim
  unfold RstepE at h
  unfold Rstep
  generalize c.op = op at *
  cases op with
  | call f args =>
    obtain ⟨hd, r, objs', hc, hKr⟩ := h
    refine ⟨r, objs', ?_, ?_⟩
    · show CallM P true s.objs (St.ev (toT n s.env) f) (args.map (St.ev (toT n s.env))) r objs'
      rw [ev_toT hk]; exact hc
    · show K' ⟨St.put (toT n s.env) c.dst r, objs'⟩
      rw [put_toT hd]
      exact hK ⟨_, _⟩ (keys_put hk hd r) hKr
  | _ => exact plain _ rfl h

theorem ropsLE_ok {n : Nat} {K : Est → Prop} : ∀ (cs : List (COper × List COper)) (s : Est), KeysOk n s.env → RopsLE P n cs K s → RopsL P cs (LiftE n K) (s.toSt n)
  | [], s, hk, h => ⟨s, h, hk, rfl⟩
  | (c, ls) :: rest, s, hk, h => by
    have next : ∀ s : Est, KeysOk n s.env → LatesE s ls ∧ RopsLE P n rest K s → LatesOk (s.toSt n) ls ∧ RopsL P rest (LiftE n K) (s.toSt n) := fun s hk h => ⟨latesE_ok hk h.1, ropsLE_ok rest s hk h.2⟩
    simp only [RopsLE] at h
    simp only [RopsL]
    cases hg : c.guard with
    | none => rw [hg] at h; exact rstepE_ok hk next h
    | some q =>
      obtain ⟨t, want⟩ := q
      rw [hg] at h
      simp only at h ⊢
      have e : (s.toSt n).tmps.getD t .junk = lk s.env t := toT_getD hk t
      rw [e]
      split at h
      · rename_i b hb
        rw [hb]
        refine ⟨fun hw => rstepE_ok hk next (h.1 hw), fun hw => ?_⟩
        obtain ⟨hd, h2⟩ := h.2 hw
        show LatesOk ⟨St.put (toT n s.env) c.dst nov, s.objs⟩ ls ∧ RopsL P rest (LiftE n K) ⟨St.put (toT n s.env) c.dst nov, s.objs⟩
        rw [put_toT hd]
        exact next ⟨_, _⟩ (keys_put hk hd _) h2
      · exact h.elim

def QopsE (P : Program) (n : Nat) (objs0 : List AObj) : List COper → (List (Nat × AV) → List AObj → Prop) → List (Nat × AV) → List AObj → Prop
  | [], K, env, cr => K env cr
  | c :: rest, K, env, cr =>
    let go : Prop := match c.op with
      | .call f args => okD n c.dst ∧ ∃ r objs', CallM P false objs0 (evE env f) (args.map (evE env)) r objs' ∧ callX objs0 objs' cr (QopsE P n objs0 rest K (putE env c.dst r))
      | op => match qstepK (objs0 ++ cr) objs0 (evE env) (objs0.length + cr.length) op with
        | some (r, none) => okD n c.dst ∧ QopsE P n objs0 rest K (putE env c.dst r) cr
        | some (r, some o) => okD n c.dst ∧ QopsE P n objs0 rest K (putE env c.dst r) (cr ++ [o])
        | none => False
    match c.guard with
    | none => go
    | some (t, want) => match gdB (lk env t) with
      | some b => (b = some want → go) ∧ (b ≠ some want → okD n c.dst ∧ QopsE P n objs0 rest K (putE env c.dst nov) cr)
      | none => False

theorem qopsE_ok {n : Nat} {K : List (Nat × AV) → List AObj → Prop} : ∀ (cs : List COper) (env : List (Nat × AV)) (cr : List AObj), KeysOk n env → QopsE P n objs0 cs K env cr →
    Qops P objs0 cs (fun tmps cr => ∃ env, KeysOk n env ∧ tmps = toT n env ∧ K env cr) (toT n env) cr
  | [], env, cr, hk, h => ⟨env, hk, rfl, h⟩
  | c :: rest, env, cr, hk, h => by
    have ih := fun (env : List (Nat × AV)) (cr : List AObj) (hk : KeysOk n env) (h : QopsE P n objs0 rest K env cr) => qopsE_ok (K := K) rest env cr hk h
    have plain : ∀ op, op = c.op → (match qstepK (objs0 ++ cr) objs0 (evE env) (objs0.length + cr.length) op with
        | some (r, none) => okD n c.dst ∧ QopsE P n objs0 rest K (putE env c.dst r) cr
        | some (r, some o) => okD n c.dst ∧ QopsE P n objs0 rest K (putE env c.dst r) (cr ++ [o])
        | none => False) → (match qstepK (objs0 ++ cr) objs0 (St.ev (toT n env)) (objs0.length + cr.length) op with
        | some (r, none) => Qops P objs0 rest (fun tmps cr => ∃ env, KeysOk n env ∧ tmps = toT n env ∧ K env cr) (St.put (toT n env) c.dst r) cr
        | some (r, some o) => Qops P objs0 rest (fun tmps cr => ∃ env, KeysOk n env ∧ tmps = toT n env ∧ K env cr) (St.put (toT n env) c.dst r) (cr ++ [o])
        | none => False) := by
      rintro op rfl h
      rw [ev_toT hk]
      split at h
      · rename_i r hq
        rw [put_toT h.1]; exact ih _ _ (keys_put hk h.1 r) h.2
      · rename_i r o hq
        rw [put_toT h.1]; exact ih _ _ (keys_put hk h.1 r) h.2
      · exact h.elim
    have go : (match c.op with
      | .call f args => okD n c.dst ∧ ∃ r objs', CallM P false objs0 (evE env f) (args.map (evE env)) r objs' ∧ callX objs0 objs' cr (QopsE P n objs0 rest K (putE env c.dst r))
      | op => match qstepK (objs0 ++ cr) objs0 (evE env) (objs0.length + cr.length) op with
        | some (r, none) => okD n c.dst ∧ QopsE P n objs0 rest K (putE env c.dst r) cr
        | some (r, some o) => okD n c.dst ∧ QopsE P n objs0 rest K (putE env c.dst r) (cr ++ [o])
        | none => False) → (match c.op with
      | .call f args => ∃ r no, CallQ P objs0 (objs0.length + cr.length) (St.ev (toT n env) f) (args.map (St.ev (toT n env))) r no ∧ Qops P objs0 rest (fun tmps cr => ∃ env, KeysOk n env ∧ tmps = toT n env ∧ K env cr) (St.put (toT n env) c.dst r) (cr ++ no.toList)
      | op => match qstepK (objs0 ++ cr) objs0 (St.ev (toT n env)) (objs0.length + cr.length) op with
        | some (r, none) => Qops P objs0 rest (fun tmps cr => ∃ env, KeysOk n env ∧ tmps = toT n env ∧ K env cr) (St.put (toT n env) c.dst r) cr
        | some (r, some o) => Qops P objs0 rest (fun tmps cr => ∃ env, KeysOk n env ∧ tmps = toT n env ∧ K env cr) (St.put (toT n env) c.dst r) (cr ++ [o])
        | none => False) := by
      intro h
      generalize c.op = op at *
      cases op with
      | call f args =>
        obtain ⟨hd, r, objs', hc, hX⟩ := h
        obtain ⟨no, hq, hK⟩ := hc.cq hX
        exact ⟨r, no, by rw [ev_toT hk]; exact hq, by rw [put_toT hd]; exact ih _ _ (keys_put hk hd r) hK⟩
      | _ => exact plain _ rfl h
    simp only [QopsE] at h
    simp only [Qops]
    cases hg : c.guard with
    | none => rw [hg] at h; exact go h
    | some q =>
      obtain ⟨t, want⟩ := q
      rw [hg] at h
      simp only at h ⊢
      rw [toT_getD hk]
      split at h
      · rename_i b hb
        rw [hb]
        refine ⟨fun hw => go (h.1 hw), fun hw => ?_⟩
        obtain ⟨hd, h2⟩ := h.2 hw
        rw [put_toT hd]; exact ih _ _ (keys_put hk hd _) h2
      · exact h.elim

def LiftX (n : Nat) (Q : Exit → Est → Prop) : Exit → St → Prop := fun e st => LiftE n (Q e) st

/-- Of a loop. -/
def CwpE (P : Program) (F0 : FD) (w0 : World) (n : Nat) (c : CCode) (Q : Exit → Est → Prop) (s : Est) : Prop := KeysOk n s.env → Cwp P F0 w0 c (LiftX n Q) (s.toSt n)

def thenE (K : Est → Prop) (Q : Exit → Est → Prop) : Exit → Est → Prop
  | .normal, s => K s
  | e, s => Q e s
def inBlockE (id : Nat) (Q : Exit → Est → Prop) : Exit → Est → Prop
  | .exit i, s => if i = id then Q .normal s else Q (.exit i) s
  | e, s => Q e s
def noGotoE (Q : Exit → Est → Prop) : Exit → Est → Prop
  | .goto _, _ => False
  | e, s => Q e s

def RGE (P : Program) (n : Nat) (c : COper) (K : Est → Prop) (s : Est) : Prop :=
  match c.guard with
  | none => RstepE P n c K s
  | some (t, want) => match gdB (lk s.env t) with
    | some b => (b = some want → RstepE P n c K s) ∧ (b ≠ some want → okD n c.dst ∧ K ⟨putE s.env c.dst nov, s.objs⟩)
    | none => False
def RTE (P : Program) (n : Nat) : PT → (Est → Prop) → Est → Prop
  | .done, K, s => K s
  | .stop, _, _ => True
  | .alt c sub next, K, s => RGE P n c (RTE P n sub K) s ∧ RTE P n next K s
theorem rtE_ok {n : Nat} {K : Est → Prop} : ∀ (t : PT) (s : Est), KeysOk n s.env → RTE P n t K s → RT P t (LiftE n K) (s.toSt n)
  | .done, s, hk, h => ⟨s, h, hk, rfl⟩
  | .stop, _, _, _ => trivial
  | .alt c sub next, s, hk, h => by
    refine ⟨?_, rtE_ok next s hk h.2⟩
    have h := h.1
    simp only [RGE] at h
    simp only [RG]
    cases hg : c.guard with
    | none => rw [hg] at h; exact rstepE_ok hk (fun s hk h => rtE_ok sub s hk h) h
    | some q =>
      obtain ⟨t, want⟩ := q
      rw [hg] at h
      simp only at h ⊢
      have e : (s.toSt n).tmps.getD t .junk = lk s.env t := toT_getD hk t
      rw [e]
      split at h
      · rename_i b hb
        rw [hb]
        refine ⟨fun hw => rstepE_ok hk (fun s hk h => rtE_ok sub s hk h) (h.1 hw), fun hw => ?_⟩
        obtain ⟨hd, h2⟩ := h.2 hw
        show RT P sub (LiftE n K) ⟨St.put (toT n s.env) c.dst nov, s.objs⟩
        rw [put_toT hd]
        exact rtE_ok sub ⟨_, _⟩ (keys_put hk hd _) h2
      · exact h.elim
def vcE (P : Program) (F0 : FD) (w0 : World) (n : Nat) : CCode → (Exit → Est → Prop) → Est → Prop
  | .skip, Q, s => Q .normal s
  | .region cs, Q, s => RopsE P n cs (Q .normal) s
  | .drawn pre post, Q, s => QopsE P n s.objs pre (fun env cr => RopsLE P n post (Q .normal) ⟨env, s.objs ++ cr⟩) s.env []
  | .cut pre post t, Q, s => QopsE P n s.objs pre (fun env cr => RopsLE P n post (RTE P n t (Q .normal)) ⟨env, s.objs ++ cr⟩) s.env []
  | .seq a b, Q, s => vcE P F0 w0 n a (thenE (vcE P F0 w0 n b Q) Q) s
  | .cond c a b, Q, s => match asB (evE s.env c) with
    | some t => (t = true → vcE P F0 w0 n a Q s) ∧ (t = false → vcE P F0 w0 n b Q s)
    | none => False
  | .block id b, Q, s => vcE P F0 w0 n b (inBlockE id Q) s
  | .loop b, Q, s => CwpE P F0 w0 n (.loop b) Q s
  | .exit id, Q, s => Q (.exit id) s
  | .scope b, Q, s => vcE P F0 w0 n b (noGotoE Q) s
  | .ret, Q, s => Q .ret s

theorem vc_mono : ∀ (c : CCode) {Q Q' : Exit → St → Prop} (st : St), (∀ e s, Q e s → Q' e s) → vc P F0 w0 c Q st → vc P F0 w0 c Q' st := by
  have rmono : ∀ (cs : List COper) {K K' : St → Prop} (st : St), (∀ s, K s → K' s) → Rops P cs K st → Rops P cs K' st := by
    intro cs
    induction cs with
    | nil => intro K K' st h hh; exact h _ hh
    | cons c rest ih =>
      intro K K' st h hh
      have step : Rstep P c (Rops P rest K) st → Rstep P c (Rops P rest K') st := by
        intro h2
        unfold Rstep at h2 ⊢
        split at h2
        · obtain ⟨r, o3, h3, h4⟩ := h2; exact ⟨r, o3, h3, ih _ h h4⟩
        · split at h2
          · exact ih _ h h2
          · exact h2
      simp only [Rops] at hh ⊢
      split at hh
      · exact step hh
      · split at hh
        · exact ⟨fun e => step (hh.1 e), fun e => ih _ h (hh.2 e)⟩
        · exact hh
  have rstep : ∀ (c : COper) {K K' : St → Prop} (st : St), (∀ s, K s → K' s) → Rstep P c K st → Rstep P c K' st := by
    intro c K K' st h h2
    unfold Rstep at h2 ⊢
    split at h2
    · obtain ⟨r, o3, h3, h4⟩ := h2; exact ⟨r, o3, h3, h _ h4⟩
    · split at h2
      · exact h _ h2
      · exact h2
  have lmono : ∀ (cs : List (COper × List COper)) {K K' : St → Prop} (st : St), (∀ s, K s → K' s) → RopsL P cs K st → RopsL P cs K' st := by
    intro cs
    induction cs with
    | nil => intro K K' st h hh; exact h _ hh
    | cons cl rest ih =>
      intro K K' st h hh
      obtain ⟨c, ls⟩ := cl
      simp only [RopsL] at hh ⊢
      split at hh
      · exact rstep c st (fun s hs => ⟨hs.1, ih s h hs.2⟩) hh
      · split at hh
        · exact ⟨fun e => rstep c st (fun s hs => ⟨hs.1, ih s h hs.2⟩) (hh.1 e), fun e => ⟨(hh.2 e).1, ih _ h (hh.2 e).2⟩⟩
        · exact hh
  have tmono : ∀ (t : PT) {K K' : St → Prop} (st : St), (∀ s, K s → K' s) → RT P t K st → RT P t K' st := by
    intro t
    induction t with
    | done => intro K K' st h hh; exact h _ hh
    | stop => intro K K' st h hh; trivial
    | alt c sub next ih1 ih2 =>
      intro K K' st h hh
      refine ⟨?_, ih2 st h hh.2⟩
      have hh := hh.1
      simp only [RG] at hh ⊢
      split at hh
      · exact rstep c st (fun s hs => ih1 s h hs) hh
      · split at hh
        · exact ⟨fun e => rstep c st (fun s hs => ih1 s h hs) (hh.1 e), fun e => ih1 _ h (hh.2 e)⟩
        · exact hh
  have qmono : ∀ (objs0 : List AObj) (cs : List COper) {K K' : List AV → List AObj → Prop} (tmps : List AV) (cr : List AObj), (∀ t c, K t c → K' t c) → Qops P objs0 cs K tmps cr → Qops P objs0 cs K' tmps cr := by
    intro objs0 cs
    induction cs with
    | nil => intro K K' tmps cr h hh; exact h _ _ hh
    | cons c rest ih =>
      intro K K' tmps cr h hh
      simp only [Qops] at hh ⊢
      split at hh
      · split at hh
        · obtain ⟨r, no, h3, h4⟩ := hh; exact ⟨r, no, h3, ih _ _ h h4⟩
        · split at hh <;> first | exact ih _ _ h hh | exact hh
      · split at hh
        · refine ⟨fun e => ?_, fun e => ih _ _ h (hh.2 e)⟩
          have hh1 := hh.1 e
          split at hh1
          · obtain ⟨r, no, h3, h4⟩ := hh1; exact ⟨r, no, h3, ih _ _ h h4⟩
          · split at hh1 <;> first | exact ih _ _ h hh1 | exact hh1
        · exact hh
  intro c
  induction c with
  | skip => intro Q Q' st h hh; exact h _ _ hh
  | region cs => intro Q Q' st h hh; exact rmono cs st (h _) hh
  | drawn pre post => intro Q Q' st h hh; exact qmono _ pre _ _ (fun t c hk => lmono post _ (h _) hk) hh
  | cut pre post t => intro Q Q' st h hh; exact qmono _ pre _ _ (fun _ c hk => lmono post _ (fun s hs => tmono t s (h _) hs) hk) hh
  | seq a b iha ihb =>
    intro Q Q' st h hh
    refine iha st (fun e s hq => ?_) hh
    cases e with
    | normal => exact ihb s h hq
    | _ => exact h _ _ hq
  | cond c a b iha ihb =>
    intro Q Q' st h hh
    simp only [vc] at hh ⊢
    split at hh
    · exact ⟨fun e => iha st h (hh.1 e), fun e => ihb st h (hh.2 e)⟩
    · exact hh
  | block id b ih =>
    intro Q Q' st h hh
    refine ih st (fun e s hq => ?_) hh
    cases e with
    | exit i => simp only [inBlock] at hq ⊢; split <;> rename_i e <;> simp only [e, if_true, if_false] at hq <;> exact h _ _ hq
    | _ => exact h _ _ hq
  | loop b => intro Q Q' st h hh; exact Cwp.mono hh h
  | exit id => intro Q Q' st h hh; exact h _ _ hh
  | scope b ih =>
    intro Q Q' st h hh
    refine ih st (fun e s hq => ?_) hh
    cases e with
    | goto l => exact hq
    | _ => exact h _ _ hq
  | ret => intro Q Q' st h hh; exact h _ _ hh

theorem vcE_ok {n : Nat} : ∀ (c : CCode) (Q : Exit → Est → Prop) (s : Est), KeysOk n s.env → vcE P F0 w0 n c Q s → vc P F0 w0 c (LiftX n Q) (s.toSt n) := by
  have rstep : ∀ (c : COper) {K K' : St → Prop} (st : St), (∀ s, K s → K' s) → Rstep P c K st → Rstep P c K' st := by
    intro c K K' st h h2
    unfold Rstep at h2 ⊢
    split at h2
    · obtain ⟨r, o3, h3, h4⟩ := h2; exact ⟨r, o3, h3, h _ h4⟩
    · split at h2
      · exact h _ h2
      · exact h2
  have rlmono : ∀ (cs : List (COper × List COper)) {K K' : St → Prop} (st : St), (∀ s, K s → K' s) → RopsL P cs K st → RopsL P cs K' st := by
    intro cs
    induction cs with
    | nil => intro K K' st h hh; exact h _ hh
    | cons cl rest ih =>
      intro K K' st h hh
      obtain ⟨c, ls⟩ := cl
      simp only [RopsL] at hh ⊢
      split at hh
      · exact rstep c st (fun s hs => ⟨hs.1, ih s h hs.2⟩) hh
      · split at hh
        · exact ⟨fun e => rstep c st (fun s hs => ⟨hs.1, ih s h hs.2⟩) (hh.1 e), fun e => ⟨(hh.2 e).1, ih _ h (hh.2 e).2⟩⟩
        · exact hh
  have qmono : ∀ (s : Est) (cs : List COper) {K K' : List AV → List AObj → Prop} (tmps : List AV) (cr : List AObj), (∀ t c, K t c → K' t c) → Qops P s.objs cs K tmps cr → Qops P s.objs cs K' tmps cr := by
    intro s cs
    induction cs with
    | nil => intro K K' tmps cr h hh; exact h _ _ hh
    | cons c rest ih =>
      intro K K' tmps cr h hh
      simp only [Qops] at hh ⊢
      split at hh
      · split at hh
        · obtain ⟨r, no, h3, h4⟩ := hh; exact ⟨r, no, h3, ih _ _ h h4⟩
        · split at hh <;> first | exact ih _ _ h hh | exact hh
      · split at hh
        · refine ⟨fun e => ?_, fun e => ih _ _ h (hh.2 e)⟩
          have hh1 := hh.1 e
          split at hh1
          · obtain ⟨r, no, h3, h4⟩ := hh1; exact ⟨r, no, h3, ih _ _ h h4⟩
          · split at hh1 <;> first | exact ih _ _ h hh1 | exact hh1
        · exact hh
  intro c
  induction c with
  | skip => intro Q s hk h; exact ⟨s, h, hk, rfl⟩
  | region cs => intro Q s hk h; exact ropsE_ok cs s hk h
  | drawn pre post =>
    intro Q s hk h
    have h1 := qopsE_ok pre s.env [] hk h
    refine vc_mono (.drawn pre post) (Q := LiftX n Q) _ (fun _ _ h => h) ?_
    refine qmono s pre _ _ ?_ h1
    rintro _ cr ⟨env, hk', rfl, hR⟩
    exact ropsLE_ok post ⟨env, s.objs ++ cr⟩ hk' hR
  | cut pre post t =>
    intro Q s hk h
    have h1 := qopsE_ok pre s.env [] hk h
    refine vc_mono (.cut pre post t) (Q := LiftX n Q) _ (fun _ _ h => h) ?_
    refine qmono s pre _ _ ?_ h1
    rintro _ cr ⟨env, hk', rfl, hR⟩
    refine rlmono post _ ?_ (ropsLE_ok post ⟨env, s.objs ++ cr⟩ hk' hR)
    rintro st ⟨s', h', hk', rfl⟩
    exact rtE_ok t s' hk' h'
  | seq a b iha ihb =>
    intro Q s hk h
    refine vc_mono a (s.toSt n) ?_ (iha _ s hk h)
    rintro e st ⟨s', hq, hk', rfl⟩
    cases e with
    | normal => exact ihb Q s' hk' hq
    | _ => exact ⟨s', hq, hk', rfl⟩
  | cond c a b iha ihb =>
    intro Q s hk h
    simp only [vcE] at h
    simp only [vc]
    show match asB (St.ev (toT n s.env) c) with | some t => _ | none => False
    rw [ev_toT hk]
    split at h
    · exact ⟨fun e => iha Q s hk (h.1 e), fun e => ihb Q s hk (h.2 e)⟩
    · exact h.elim
  | block id b ih =>
    intro Q s hk h
    refine vc_mono b (s.toSt n) ?_ (ih _ s hk h)
    rintro e st ⟨s', hq, hk', rfl⟩
    cases e with
    | exit i =>
      simp only [inBlockE] at hq
      simp only [inBlock]
      split
      · rename_i e; rw [if_pos e] at hq; exact ⟨s', hq, hk', rfl⟩
      · rename_i e; rw [if_neg e] at hq; exact ⟨s', hq, hk', rfl⟩
    | _ => exact ⟨s', hq, hk', rfl⟩
  | loop b => intro Q s hk h; exact h hk
  | exit id => intro Q s hk h; exact ⟨s, h, hk, rfl⟩
  | scope b ih =>
    intro Q s hk h
    refine vc_mono b (s.toSt n) ?_ (ih _ s hk h)
    rintro e st ⟨s', hq, hk', rfl⟩
    cases e with
    | goto l => exact hq.elim
    | _ => exact ⟨s', hq, hk', rfl⟩
  | ret => intro Q s hk h; exact ⟨s, h, hk, rfl⟩

/-- s' says less than s. -/
def WkE (n : Nat) (s s' : Est) : Prop := KeysOk n s.env → KeysOk n s'.env ∧ Wk (s.toSt n) (s'.toSt n)
theorem WkE.refl (n : Nat) (s : Est) : WkE n s s := fun h => ⟨h, .refl _⟩
theorem WkE.trans {n : Nat} {a b c : Est} (h : WkE n a b) (k : WkE n b c) : WkE n a c := fun hk => ⟨(k (h hk).1).1, (h hk).2.trans (k (h hk).1).2⟩

def RoundE (n : Nat) (I : Nat → Est → Prop) (k : Nat) (Q : Exit → Est → Prop) : Exit → Est → Prop := thenE (fun s => ∃ m s', m < k ∧ WkE n s s' ∧ I m s') Q

theorem loopE {n : Nat} {b : CCode} {Q : Exit → Est → Prop} {s : Est} (I : Nat → Est → Prop) (k : Nat) (s0 : Est) (hw : WkE n s s0) (h0 : I k s0) (round : ∀ k s, I k s → vcE P F0 w0 n b (RoundE n I k Q) s) : CwpE P F0 w0 n (.loop b) Q s := by
  intro hk
  refine Cwp.loop (fun k st => ∃ s, I k s ∧ KeysOk n s.env ∧ st = s.toSt n) k (hw hk).2 ⟨s0, h0, (hw hk).1, rfl⟩ ?_
  rintro k st ⟨s, hI, hk, rfl⟩
  refine vc_mono b (s.toSt n) ?_ (vcE_ok b _ s hk (round k s hI))
  rintro e st ⟨s', hq, hk', rfl⟩
  cases e with
  | normal =>
    obtain ⟨m, s'', hm, hwk, hI'⟩ := hq
    exact ⟨m, _, hm, (hwk hk').2, s'', hI', (hwk hk').1, rfl⟩
  | _ => exact ⟨s', hq, hk', rfl⟩

def resE (s : Est) : CRes → Option AV
  | .tmp t => some (lk s.env t)
  | .cell a ag n => do
    let cs ← cellsAt s.objs (lk s.env a)
    if ag then if n ≤ cs.length then some (AV.agg (cs.take n)) else none else cs[0]?
def resAllE (s : Est) (rs : List CRes) : Option AV :=
  (rs.mapM (resE s)).map fun
    | [x] => x
    | xs => .tup xs
def retE (rs : List CRes) (r : AV) : Exit → Est → Prop
  | .normal, s => ∃ y, resAllE s rs = some y ∧ Snap s.objs y r
  | .ret, s => ∃ y, resAllE s rs = some y ∧ Snap s.objs y r
  | _, _ => False

/-- The frame at the outset. -/
def envOf : Nat → List AV → List (Nat × AV)
  | _, [] => []
  | k, x :: xs => (k, x) :: envOf (k + 1) xs

theorem lk_envOf : ∀ (xs : List AV) (k t : Nat), lk (envOf k xs) t = if k ≤ t then xs.getD (t - k) .junk else .junk
  | [], k, t => by simp [envOf, lk]
  | x :: xs, k, t => by
    simp only [envOf, lk]
    rw [lk_envOf xs (k + 1) t]
    by_cases h : k = t
    · subst h; simp
    · rw [if_neg h]
      by_cases h2 : k ≤ t
      · rw [if_pos (by omega), if_pos h2, show t - k = (t - (k + 1)) + 1 from by omega]; simp
      · rw [if_neg (by omega), if_neg h2]

theorem specE {f : FuncId} {c : CCode} {n : Nat} {rs : List CRes} (hf : fnC P f = some (c, n, rs)) {xs : List AV} (hn : xs.length ≤ n) {r : AV} (h : ∀ F0 w0, vcE P F0 w0 n c (retE rs r) ⟨envOf 0 xs, []⟩) : Ctr P f xs r := by
  refine spec_of hf fun F0 w0 => ?_
  have hk : KeysOk n (envOf 0 xs) := by
    intro t ht
    rw [lk_envOf, if_pos (Nat.zero_le _), List.getD_eq_getElem?_getD, List.getElem?_eq_none (by omega)]; rfl
  have e : (⟨xs ++ List.replicate (n - xs.length) .junk, []⟩ : St) = (⟨envOf 0 xs, []⟩ : Est).toSt n := by
    unfold Est.toSt
    congr 1
    refine getD_ext (by simp [toT]; omega) fun t ht => ?_
    rw [toT_getD hk, lk_envOf, if_pos (Nat.zero_le _), Nat.sub_zero]
    rw [List.getD_eq_getElem?_getD, List.getD_eq_getElem?_getD, List.getElem?_append]
    split
    · rfl
    · rename_i h1
      rw [List.getElem?_replicate, List.getElem?_eq_none (by omega)]
      split <;> rfl
  rw [e]
  refine vc_mono c _ ?_ (vcE_ok c _ _ hk (h F0 w0))
  rintro e st ⟨s, hq, hk', rfl⟩
  have hr : ∀ x, resA (s.toSt n) x = resE s x := by
    intro x
    cases x with
    | tmp t => simp only [resA, resE]; rw [show (s.toSt n).tmps = toT n s.env from rfl, toT_getD hk']
    | cell a ag m => simp only [resA, resE]; rw [show (s.toSt n).tmps = toT n s.env from rfl, toT_getD hk']; rfl
  have hra : ∀ rs, resAll (s.toSt n) rs = resAllE s rs := by
    intro rs; unfold resAll resAllE; rw [show resA (s.toSt n) = resE s from funext hr]
    cases rs.mapM (resE s) with
    | none => rfl
    | some ys => cases ys with
      | nil => rfl
      | cons y ys => cases ys <;> rfl
  cases e with
  | normal => simp only [retQ]; rw [hra]; exact hq
  | ret => simp only [retQ]; rw [hra]; exact hq
  | _ => exact hq
end Dak
