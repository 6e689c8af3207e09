import Derived.Test.YtehelanfgepcmaaDb
set_option linter.unusedSimpArgs false
set_option linter.unusedVariables false
set_option linter.unusedSectionVars false
namespace Dak
open Go Go.RowKit
variable [Globs]
variable {P : Program} {F0 : FD} {w0 w : World} {L : Lay} {objs objs0 : List AObj} {nid : Nat}

/-- What the slots hold, the newest first. -/
def lk : List (Nat × AV) → Nat → AV
  | [], _ => .junk
  | (k, v) :: r, t => if k = t then v else lk r t

/-- A slot as an operand. -/
abbrev T (n : Nat) : Operand := .tmp n

structure Est where
  env : List (Nat × AV)
  objs : List AObj

def KeysOk (n : Nat) (env : List (Nat × AV)) : Prop := ∀ t, n ≤ t → lk env t = .junk
def toT (n : Nat) (env : List (Nat × AV)) : List AV := (List.range n).map (lk env)
def Est.toSt (n : Nat) (s : Est) : St := ⟨toT n s.env, s.objs⟩

def evE (env : List (Nat × AV)) : Operand → AV
  | .tmp t => lk env t
  | .const v => ofV v
  | .func f => .clo (.func f) []
  | .global g => gAV g

def putE (env : List (Nat × AV)) (dst : Option Nat) (v : AV) : List (Nat × AV) :=
  match dst with
  | some d => (d, v) :: env
  | none => env

/-- The slot is one of the frame's. -/
def okD (n : Nat) : Option Nat → Prop
  | some d => d < n
  | none => True

theorem toT_getD {n : Nat} {env : List (Nat × AV)} (hk : KeysOk n env) (t : Nat) : (toT n env).getD t .junk = lk env t := by
  unfold toT
  by_cases h : t < n
  · rw [List.getD_eq_getElem?_getD, List.getElem?_eq_getElem (by simpa using h)]; simp
  · rw [List.getD_eq_getElem?_getD, List.getElem?_eq_none (by simp; omega)]
    exact (hk t (by omega)).symm

theorem ev_toT {n : Nat} {env : List (Nat × AV)} (hk : KeysOk n env) : St.ev (toT n env) = evE env := by
  funext x
  cases x with
  | tmp t => exact toT_getD hk t
  | _ => rfl

theorem put_toT {n : Nat} {env : List (Nat × AV)} {dst : Option Nat} (hd : okD n dst) (v : AV) : St.put (toT n env) dst v = toT n (putE env dst v) := by
  cases dst with
  | none => rfl
  | some d =>
    have hd : d < n := hd
    refine getD_ext (by rw [put_len]; simp [toT]) fun t ht => ?_
    rw [put_len] at ht
    have ht' : t < n := by simpa [toT] using ht
    rw [put_getD ht]
    have e : ∀ env, (toT n env).getD t .junk = lk env t := by
      intro env
      unfold toT
      rw [List.getD_eq_getElem?_getD, List.getElem?_eq_getElem (by simpa using ht')]; simp
    rw [e, e]
    simp only [putE, lk, Option.some.injEq]

theorem keys_put {n : Nat} {env : List (Nat × AV)} (hk : KeysOk n env) {dst : Option Nat} (hd : okD n dst) (v : AV) : KeysOk n (putE env dst v) := by
  cases dst with
  | none => exact hk
  | some d =>
    have hd : d < n := hd
    intro t ht
    simp only [putE, lk]
    rw [if_neg (fun e => absurd hd (by rw [e]; exact Nat.not_lt.2 ht))]; exact hk t ht

def RstepE (P : Program) (n : Nat) (c : COper) (K : Est → Prop) (s : Est) : Prop :=
  match c.op with
  | .call f args => okD n c.dst ∧ ∃ r objs', CallM P true s.objs (evE s.env f) (args.map (evE s.env)) r objs' ∧ K ⟨putE s.env c.dst r, objs'⟩
  | op => match step1 s.objs (evE s.env) op with
    | some (r, objs) => okD n c.dst ∧ K ⟨putE s.env c.dst r, objs⟩
    | none => False

def RopsE (P : Program) (n : Nat) : List COper → (Est → Prop) → Est → Prop
  | [], K, s => K s
  | c :: rest, K, s =>
    match c.guard with
    | none => RstepE P n c (RopsE P n rest K) s
    | some (t, want) => match gdB (lk s.env t) with
      | some b => (b = some want → RstepE P n c (RopsE P n rest K) s) ∧ (b ≠ some want → okD n c.dst ∧ RopsE P n rest K ⟨putE s.env c.dst nov, s.objs⟩)
      | none => False

def LiftE (n : Nat) (K : Est → Prop) (st : St) : Prop := ∃ s, K s ∧ KeysOk n s.env ∧ st = s.toSt n

theorem ropsE_ok {n : Nat} {K : Est → Prop} : ∀ (cs : List COper) (s : Est), KeysOk n s.env → RopsE P n cs K s → Rops P cs (LiftE n K) (s.toSt n)
  | [], s, hk, h => ⟨s, h, hk, rfl⟩
  | c :: rest, s, hk, h => by
    have step : RstepE P n c (RopsE P n rest K) s → Rstep P c (Rops P rest (LiftE n K)) (s.toSt n) := by
      intro h
      have plain : ∀ op, op = c.op → (match step1 s.objs (evE s.env) op with | some (r, objs) => okD n c.dst ∧ RopsE P n rest K ⟨putE s.env c.dst r, objs⟩ | none => False) →
          (match step1 s.objs (St.ev (toT n s.env)) op with | some (r, objs) => Rops P rest (LiftE n K) ⟨St.put (toT n s.env) c.dst r, objs⟩ | none => False) := by
        rintro op rfl h
        rw [ev_toT hk]
        split at h
        · rename_i r objs' hq
          rw [put_toT h.1]
          exact ropsE_ok rest ⟨_, _⟩ (keys_put hk h.1 r) h.2
        · exact h.elim
      unfold RstepE at h
      unfold Rstep
      split at h
      · rename_i f args hop
        simp only [hop]
        obtain ⟨hd, r, objs', hc, hK⟩ := h
        refine ⟨r, objs', ?_, ?_⟩
        · show CallM P true s.objs (St.ev (toT n s.env) f) (args.map (St.ev (toT n s.env))) r objs'
          rw [ev_toT hk]; exact hc
        · show Rops P rest (LiftE n K) ⟨St.put (toT n s.env) c.dst r, objs'⟩
          rw [put_toT hd]
          exact ropsE_ok rest ⟨_, _⟩ (keys_put hk hd r) hK
      · rename_i op hne
        have := plain _ rfl h
        split
        · rename_i f args hop
          exact absurd hop (hne f args)
        · exact this
    simp only [RopsE] at h
    simp only [Rops]
    cases hg : c.guard with
    | none => rw [hg] at h; exact step h
    | some q =>
      obtain ⟨t, want⟩ := q
      rw [hg] at h
      simp only at h ⊢
      have e : (s.toSt n).tmps.getD t .junk = lk s.env t := toT_getD hk t
      rw [e]
      split at h
      · rename_i b hb
        rw [hb]
        refine ⟨fun hw => step (h.1 hw), fun hw => ?_⟩
        obtain ⟨hd, h2⟩ := h.2 hw
        show Rops P rest (LiftE n K) ⟨St.put (toT n s.env) c.dst nov, s.objs⟩
        rw [put_toT hd]
        exact ropsE_ok rest ⟨_, _⟩ (keys_put hk hd _) h2
      · exact h.elim

def LatesE (s : Est) : List COper → Prop
  | [] => True
  | l :: ls => (match l.dst with
    | some t => qstep s.objs (evE s.env) 0 l.op = some (lk s.env t, none)
    | none => False) ∧ LatesE s ls

theorem latesE_ok {n : Nat} {s : Est} (hk : KeysOk n s.env) : ∀ {ls : List COper}, LatesE s ls → LatesOk (s.toSt n) ls
  | [], _ => trivial
  | l :: ls, h => by
    refine ⟨?_, latesE_ok hk h.2⟩
    have h1 := h.1
    split at h1
    · rename_i t hd
      refine ⟨t, hd, ?_⟩
      show qstep s.objs (St.ev (toT n s.env)) 0 l.op = some ((toT n s.env).getD t .junk, none)
      rw [ev_toT hk, toT_getD hk]; exact h1
    · exact h1.elim

def RopsLE (P : Program) (n : Nat) : List (COper × List COper) → (Est → Prop) → Est → Prop
  | [], K, s => K s
  | (c, ls) :: rest, K, s =>
    match c.guard with
    | none => RstepE P n c (fun s => LatesE s ls ∧ RopsLE P n rest K s) s
    | some (t, want) => match gdB (lk s.env t) with
      | some b => (b = some want → RstepE P n c (fun s => LatesE s ls ∧ RopsLE P n rest K s) s) ∧
          (b ≠ some want → okD n c.dst ∧ LatesE ⟨putE s.env c.dst nov, s.objs⟩ ls ∧ RopsLE P n rest K ⟨putE s.env c.dst nov, s.objs⟩)
      | none => False

theorem rstepE_ok {n : Nat} {c : COper} {K : Est → Prop} {K' : St → Prop} {s : Est} (hk : KeysOk n s.env) (hK : ∀ s, KeysOk n s.env → K s → K' (s.toSt n)) (h : RstepE P n c K s) : Rstep P c K' (s.toSt n) := by
  have plain : ∀ op, op = c.op → (match step1 s.objs (evE s.env) op with | some (r, objs) => okD n c.dst ∧ K ⟨putE s.env c.dst r, objs⟩ | none => False) →
      (match step1 s.objs (St.ev (toT n s.env)) op with | some (r, objs) => K' ⟨St.put (toT n s.env) c.dst r, objs⟩ | none => False) := by
    rintro op rfl h
    rw [ev_toT hk]
    split at h
    · rename_i r objs' hq
      rw [put_toT h.1]
      exact hK ⟨_, _⟩ (keys_put hk h.1 r) h.2
    · exact h.elim
  unfold RstepE at h
  unfold Rstep
  generalize c.op = op at *
  cases op with
  | call f args =>
    obtain ⟨hd, r, objs', hc, hKr⟩ := h
    refine ⟨r, objs', ?_, ?_⟩
    · show CallM P true s.objs (St.ev (toT n s.env) f) (args.map (St.ev (toT n s.env))) r objs'
      rw [ev_toT hk]; exact hc
    · show K' ⟨St.put (toT n s.env) c.dst r, objs'⟩
      rw [put_toT hd]
      exact hK ⟨_, _⟩ (keys_put hk hd r) hKr
  | _ => exact plain _ rfl h

theorem ropsLE_ok {n : Nat} {K : Est → Prop} : ∀ (cs : List (COper × List COper)) (s : Est), KeysOk n s.env → RopsLE P n cs K s → RopsL P cs (LiftE n K) (s.toSt n)
  | [], s, hk, h => ⟨s, h, hk, rfl⟩
  | (c, ls) :: rest, s, hk, h => by
    have next : ∀ s : Est, KeysOk n s.env → LatesE s ls ∧ RopsLE P n rest K s → LatesOk (s.toSt n) ls ∧ RopsL P rest (LiftE n K) (s.toSt n) := fun s hk h => ⟨latesE_ok hk h.1, ropsLE_ok rest s hk h.2⟩
    simp only [RopsLE] at h
    simp only [RopsL]
    cases hg : c.guard with
    | none => rw [hg] at h; exact rstepE_ok hk next h
    | some q =>
      obtain ⟨t, want⟩ := q
      rw [hg] at h
      simp only at h ⊢
      have e : (s.toSt n).tmps.getD t .junk = lk s.env t := toT_getD hk t
      rw [e]
      split at h
      · rename_i b hb
        rw [hb]
        refine ⟨fun hw => rstepE_ok hk next (h.1 hw), fun hw => ?_⟩
        obtain ⟨hd, h2⟩ := h.2 hw
        show LatesOk ⟨St.put (toT n s.env) c.dst nov, s.objs⟩ ls ∧ RopsL P rest (LiftE n K) ⟨St.put (toT n s.env) c.dst nov, s.objs⟩
        rw [put_toT hd]
        exact next ⟨_, _⟩ (keys_put hk hd _) h2
      · exact h.elim

def QopsE (P : Program) (n : Nat) (objs0 : List AObj) : List COper → (List (Nat × AV) → List AObj → Prop) → List (Nat × AV) → List AObj → Prop
  | [], K, env, cr => K env cr
  | c :: rest, K, env, cr =>
    let go : Prop := match c.op with
      | .call f args => okD n c.dst ∧ ∃ r objs', CallM P false objs0 (evE env f) (args.map (evE env)) r objs' ∧ callX objs0 objs' cr (QopsE P n objs0 rest K (putE env c.dst r))
      | op => match qstepK (objs0 ++ cr) objs0 (evE env) (objs0.length + cr.length) op with
        | some (r, none) => okD n c.dst ∧ QopsE P n objs0 rest K (putE env c.dst r) cr
        | some (r, some o) => okD n c.dst ∧ QopsE P n objs0 rest K (putE env c.dst r) (cr ++ [o])
        | none => False
    match c.guard with
    | none => go
    | some (t, want) => match gdB (lk env t) with
      | some b => (b = some want → go) ∧ (b ≠ some want → okD n c.dst ∧ QopsE P n objs0 rest K (putE env c.dst nov) cr)
      | none => False

theorem qopsE_ok {n : Nat} {K : List (Nat × AV) → List AObj → Prop} : ∀ (cs : List COper) (env : List (Nat × AV)) (cr : List AObj), KeysOk n env → QopsE P n objs0 cs K env cr →
    Qops P objs0 cs (fun tmps cr => ∃ env, KeysOk n env ∧ tmps = toT n env ∧ K env cr) (toT n env) cr
  | [], env, cr, hk, h => ⟨env, hk, rfl, h⟩
  | c :: rest, env, cr, hk, h => by
    have ih := fun (env : List (Nat × AV)) (cr : List AObj) (hk : KeysOk n env) (h : QopsE P n objs0 rest K env cr) => qopsE_ok (K := K) rest env cr hk h
    have plain : ∀ op, op = c.op → (match qstepK (objs0 ++ cr) objs0 (evE env) (objs0.length + cr.length) op with
        | some (r, none) => okD n c.dst ∧ QopsE P n objs0 rest K (putE env c.dst r) cr
        | some (r, some o) => okD n c.dst ∧ QopsE P n objs0 rest K (putE env c.dst r) (cr ++ [o])
        | none => False) → (match qstepK (objs0 ++ cr) objs0 (St.ev (toT n env)) (objs0.length + cr.length) op with
        | some (r, none) => Qops P objs0 rest (fun tmps cr => ∃ env, KeysOk n env ∧ tmps = toT n env ∧ K env cr) (St.put (toT n env) c.dst r) cr
        | some (r, some o) => Qops P objs0 rest (fun tmps cr => ∃ env, KeysOk n env ∧ tmps = toT n env ∧ K env cr) (St.put (toT n env) c.dst r) (cr ++ [o])
        | none => False) := by
      rintro op rfl h
      rw [ev_toT hk]
      split at h
      · rename_i r hq
        rw [put_toT h.1]; exact ih _ _ (keys_put hk h.1 r) h.2
      · rename_i r o hq
        rw [put_toT h.1]; exact ih _ _ (keys_put hk h.1 r) h.2
      · exact h.elim
    have go : (match c.op with
      | .call f args => okD n c.dst ∧ ∃ r objs', CallM P false objs0 (evE env f) (args.map (evE env)) r objs' ∧ callX objs0 objs' cr (QopsE P n objs0 rest K (putE env c.dst r))
      | op => match qstepK (objs0 ++ cr) objs0 (evE env) (objs0.length + cr.length) op with
        | some (r, none) => okD n c.dst ∧ QopsE P n objs0 rest K (putE env c.dst r) cr
        | some (r, some o) => okD n c.dst ∧ QopsE P n objs0 rest K (putE env c.dst r) (cr ++ [o])
        | none => False) → (match c.op with
      | .call f args => ∃ r no, CallQ P objs0 (objs0.length + cr.length) (St.ev (toT n env) f) (args.map (St.ev (toT n env))) r no ∧ Qops P objs0 rest (fun tmps cr => ∃ env, KeysOk n env ∧ tmps = toT n env ∧ K env cr) (St.put (toT n env) c.dst r) (cr ++ no)
      | op => match qstepK (objs0 ++ cr) objs0 (St.ev (toT n env)) (objs0.length + cr.length) op with
        | some (r, none) => Qops P objs0 rest (fun tmps cr => ∃ env, KeysOk n env ∧ tmps = toT n env ∧ K env cr) (St.put (toT n env) c.dst r) cr
        | some (r, some o) => Qops P objs0 rest (fun tmps cr => ∃ env, KeysOk n env ∧ tmps = toT n env ∧ K env cr) (St.put (toT n env) c.dst r) (cr ++ [o])
        | none => False) := by
      intro h
      generalize c.op = op at *
      cases op with
      | call f args =>
        obtain ⟨hd, r, objs', hc, hX⟩ := h
        obtain ⟨no, hq, hK⟩ := hc.cq hX
        exact ⟨r, no, by rw [ev_toT hk]; exact hq, by rw [put_toT hd]; exact ih _ _ (keys_put hk hd r) hK⟩
      | _ => exact plain _ rfl h
    simp only [QopsE] at h
    simp only [Qops]
    cases hg : c.guard with
    | none => rw [hg] at h; exact go h
    | some q =>
      obtain ⟨t, want⟩ := q
      rw [hg] at h
      simp only at h ⊢
      rw [toT_getD hk]
      split at h
      · rename_i b hb
        rw [hb]
        refine ⟨fun hw => go (h.1 hw), fun hw => ?_⟩
        obtain ⟨hd, h2⟩ := h.2 hw
        rw [put_toT hd]; exact ih _ _ (keys_put hk hd _) h2
      · exact h.elim

def LiftX (n : Nat) (Q : Exit → Est → Prop) : Exit → St → Prop := fun e st => LiftE n (Q e) st

/-- Of a loop. -/
def CwpE (P : Program) (F0 : FD) (w0 : World) (n : Nat) (c : CCode) (Q : Exit → Est → Prop) (s : Est) : Prop := KeysOk n s.env → Cwp P F0 w0 c (LiftX n Q) (s.toSt n)

def thenE (K : Est → Prop) (Q : Exit → Est → Prop) : Exit → Est → Prop
  | .normal, s => K s
  | e, s => Q e s
def inBlockE (id : Nat) (Q : Exit → Est → Prop) : Exit → Est → Prop
  | .exit i, s => if i = id then Q .normal s else Q (.exit i) s
  | e, s => Q e s
def noGotoE (Q : Exit → Est → Prop) : Exit → Est → Prop
  | .goto _, _ => False
  | e, s => Q e s

def RGE (P : Program) (n : Nat) (c : COper) (K : Est → Prop) (s : Est) : Prop :=
  match c.guard with
  | none => RstepE P n c K s
  | some (t, want) => match gdB (lk s.env t) with
    | some b => (b = some want → RstepE P n c K s) ∧ (b ≠ some want → okD n c.dst ∧ K ⟨putE s.env c.dst nov, s.objs⟩)
    | none => False
def RTE (P : Program) (n : Nat) : PT → (Est → Prop) → Est → Prop
  | .done, K, s => K s
  | .stop, _, _ => True
  | .alt c sub next, K, s => RGE P n c (RTE P n sub K) s ∧ RTE P n next K s
theorem rtE_ok {n : Nat} {K : Est → Prop} : ∀ (t : PT) (s : Est), KeysOk n s.env → RTE P n t K s → RT P t (LiftE n K) (s.toSt n)
  | .done, s, hk, h => ⟨s, h, hk, rfl⟩
  | .stop, _, _, _ => trivial
  | .alt c sub next, s, hk, h => by
    refine ⟨?_, rtE_ok next s hk h.2⟩
    have h := h.1
    simp only [RGE] at h
    simp only [RG]
    cases hg : c.guard with
    | none => rw [hg] at h; exact rstepE_ok hk (fun s hk h => rtE_ok sub s hk h) h
    | some q =>
      obtain ⟨t, want⟩ := q
      rw [hg] at h
      simp only at h ⊢
      have e : (s.toSt n).tmps.getD t .junk = lk s.env t := toT_getD hk t
      rw [e]
      split at h
      · rename_i b hb
        rw [hb]
        refine ⟨fun hw => rstepE_ok hk (fun s hk h => rtE_ok sub s hk h) (h.1 hw), fun hw => ?_⟩
        obtain ⟨hd, h2⟩ := h.2 hw
        show RT P sub (LiftE n K) ⟨St.put (toT n s.env) c.dst nov, s.objs⟩
        rw [put_toT hd]
        exact rtE_ok sub ⟨_, _⟩ (keys_put hk hd _) h2
      · exact h.elim
def vcE (P : Program) (F0 : FD) (w0 : World) (n : Nat) : CCode → (Exit → Est → Prop) → Est → Prop
  | .skip, Q, s => Q .normal s
  | .region cs, Q, s => RopsE P n cs (Q .normal) s
  | .drawn pre post, Q, s => QopsE P n s.objs pre (fun env cr => RopsLE P n post (Q .normal) ⟨env, s.objs ++ cr⟩) s.env []
  | .cut pre post t, Q, s => QopsE P n s.objs pre (fun env cr => RopsLE P n post (RTE P n t (Q .normal)) ⟨env, s.objs ++ cr⟩) s.env []
  | .seq a b, Q, s => vcE P F0 w0 n a (thenE (vcE P F0 w0 n b Q) Q) s
  | .cond c a b, Q, s => match asB (evE s.env c) with
    | some t => (t = true → vcE P F0 w0 n a Q s) ∧ (t = false → vcE P F0 w0 n b Q s)
    | none => False
  | .block id b, Q, s => vcE P F0 w0 n b (inBlockE id Q) s
  | .loop b, Q, s => CwpE P F0 w0 n (.loop b) Q s
  | .rangeF g ps a b, Q, s => CwpE P F0 w0 n (.rangeF g ps a b) Q s
  | .exit id, Q, s => Q (.exit id) s
  | .scope b, Q, s => vcE P F0 w0 n b (noGotoE Q) s
  | .ret, Q, s => Q .ret s

theorem vcE_ok {n : Nat} : ∀ (c : CCode) (Q : Exit → Est → Prop) (s : Est), KeysOk n s.env → vcE P F0 w0 n c Q s → vc P F0 w0 c (LiftX n Q) (s.toSt n) := by
  have rstep : ∀ (c : COper) {K K' : St → Prop} (st : St), (∀ s, K s → K' s) → Rstep P c K st → Rstep P c K' st := by
    intro c K K' st h h2
    unfold Rstep at h2 ⊢
    split at h2
    · obtain ⟨r, o3, h3, h4⟩ := h2; exact ⟨r, o3, h3, h _ h4⟩
    · split at h2
      · exact h _ h2
      · exact h2
  have rlmono : ∀ (cs : List (COper × List COper)) {K K' : St → Prop} (st : St), (∀ s, K s → K' s) → RopsL P cs K st → RopsL P cs K' st := by
    intro cs
    induction cs with
    | nil => intro K K' st h hh; exact h _ hh
    | cons cl rest ih =>
      intro K K' st h hh
      obtain ⟨c, ls⟩ := cl
      simp only [RopsL] at hh ⊢
      split at hh
      · exact rstep c st (fun s hs => ⟨hs.1, ih s h hs.2⟩) hh
      · split at hh
        · exact ⟨fun e => rstep c st (fun s hs => ⟨hs.1, ih s h hs.2⟩) (hh.1 e), fun e => ⟨(hh.2 e).1, ih _ h (hh.2 e).2⟩⟩
        · exact hh
  have qmono : ∀ (s : Est) (cs : List COper) {K K' : List AV → List AObj → Prop} (tmps : List AV) (cr : List AObj), (∀ t c, K t c → K' t c) → Qops P s.objs cs K tmps cr → Qops P s.objs cs K' tmps cr := by
    intro s cs
    induction cs with
    | nil => intro K K' tmps cr h hh; exact h _ _ hh
    | cons c rest ih =>
      intro K K' tmps cr h hh
      simp only [Qops] at hh ⊢
      split at hh
      · split at hh
        · obtain ⟨r, no, h3, h4⟩ := hh; exact ⟨r, no, h3, ih _ _ h h4⟩
        · split at hh <;> first | exact ih _ _ h hh | exact hh
      · split at hh
        · refine ⟨fun e => ?_, fun e => ih _ _ h (hh.2 e)⟩
          have hh1 := hh.1 e
          split at hh1
          · obtain ⟨r, no, h3, h4⟩ := hh1; exact ⟨r, no, h3, ih _ _ h h4⟩
          · split at hh1 <;> first | exact ih _ _ h hh1 | exact hh1
        · exact hh
  intro c
  induction c with
  | skip => intro Q s hk h; exact ⟨s, h, hk, rfl⟩
  | region cs => intro Q s hk h; exact ropsE_ok cs s hk h
  | drawn pre post =>
    intro Q s hk h
    have h1 := qopsE_ok pre s.env [] hk h
    refine vc_mono (.drawn pre post) (Q := LiftX n Q) _ (fun _ _ h => h) ?_
    refine qmono s pre _ _ ?_ h1
    rintro _ cr ⟨env, hk', rfl, hR⟩
    exact ropsLE_ok post ⟨env, s.objs ++ cr⟩ hk' hR
  | cut pre post t =>
    intro Q s hk h
    have h1 := qopsE_ok pre s.env [] hk h
    refine vc_mono (.cut pre post t) (Q := LiftX n Q) _ (fun _ _ h => h) ?_
    refine qmono s pre _ _ ?_ h1
    rintro _ cr ⟨env, hk', rfl, hR⟩
    refine rlmono post _ ?_ (ropsLE_ok post ⟨env, s.objs ++ cr⟩ hk' hR)
    rintro st ⟨s', h', hk', rfl⟩
    exact rtE_ok t s' hk' h'
  | seq a b iha ihb =>
    intro Q s hk h
    refine vc_mono a (s.toSt n) ?_ (iha _ s hk h)
    rintro e st ⟨s', hq, hk', rfl⟩
    cases e with
    | normal => exact ihb Q s' hk' hq
    | _ => exact ⟨s', hq, hk', rfl⟩
  | cond c a b iha ihb =>
    intro Q s hk h
    simp only [vcE] at h
    simp only [vc]
    show match asB (St.ev (toT n s.env) c) with | some t => _ | none => False
    rw [ev_toT hk]
    split at h
    · exact ⟨fun e => iha Q s hk (h.1 e), fun e => ihb Q s hk (h.2 e)⟩
    · exact h.elim
  | block id b ih =>
    intro Q s hk h
    refine vc_mono b (s.toSt n) ?_ (ih _ s hk h)
    rintro e st ⟨s', hq, hk', rfl⟩
    cases e with
    | exit i =>
      simp only [inBlockE] at hq
      simp only [inBlock]
      split
      · rename_i e; rw [if_pos e] at hq; exact ⟨s', hq, hk', rfl⟩
      · rename_i e; rw [if_neg e] at hq; exact ⟨s', hq, hk', rfl⟩
    | _ => exact ⟨s', hq, hk', rfl⟩
  | loop b => intro Q s hk h; exact h hk
  | rangeF g ps a b ih => intro Q s hk h; exact h hk
  | exit id => intro Q s hk h; exact ⟨s, h, hk, rfl⟩
  | scope b ih =>
    intro Q s hk h
    refine vc_mono b (s.toSt n) ?_ (ih _ s hk h)
    rintro e st ⟨s', hq, hk', rfl⟩
    cases e with
    | goto l => exact hq.elim
    | _ => exact ⟨s', hq, hk', rfl⟩
  | ret => intro Q s hk h; exact ⟨s, h, hk, rfl⟩

/-- s' says less than s. -/
def WkE (n : Nat) (s s' : Est) : Prop := KeysOk n s.env → KeysOk n s'.env ∧ Wk (s.toSt n) (s'.toSt n)
theorem WkE.refl (n : Nat) (s : Est) : WkE n s s := fun h => ⟨h, .refl _⟩
theorem WkE.trans {n : Nat} {a b c : Est} (h : WkE n a b) (k : WkE n b c) : WkE n a c := fun hk => ⟨(k (h hk).1).1, (h hk).2.trans (k (h hk).1).2⟩

def RoundE (n : Nat) (I : Nat → Est → Prop) (k : Nat) (Q : Exit → Est → Prop) : Exit → Est → Prop := thenE (fun s => ∃ m s', m < k ∧ WkE n s s' ∧ I m s') Q

theorem loopE {n : Nat} {b : CCode} {Q : Exit → Est → Prop} {s : Est} (I : Nat → Est → Prop) (k : Nat) (s0 : Est) (hw : WkE n s s0) (h0 : I k s0) (round : ∀ k s, I k s → vcE P F0 w0 n b (RoundE n I k Q) s) : CwpE P F0 w0 n (.loop b) Q s := by
  intro hk
  refine Cwp.loop (fun k st => ∃ s, I k s ∧ KeysOk n s.env ∧ st = s.toSt n) k (hw hk).2 ⟨s0, h0, (hw hk).1, rfl⟩ ?_
  rintro k st ⟨s, hI, hk, rfl⟩
  refine vc_mono b (s.toSt n) ?_ (vcE_ok b _ s hk (round k s hI))
  rintro e st ⟨s', hq, hk', rfl⟩
  cases e with
  | normal =>
    obtain ⟨m, s'', hm, hwk, hI'⟩ := hq
    exact ⟨m, _, hm, (hwk hk').2, s'', hI', (hwk hk').1, rfl⟩
  | _ => exact ⟨s', hq, hk', rfl⟩

def resE (s : Est) : CRes → Option AV
  | .tmp t => some (lk s.env t)
  | .cell a ag n => do
    let cs ← cellsAt s.objs (lk s.env a)
    if ag then if n ≤ cs.length then some (AV.agg (cs.take n)) else none else cs[0]?
def resAllE (s : Est) (rs : List CRes) : Option AV :=
  (rs.mapM (resE s)).map fun
    | [x] => x
    | xs => .tup xs
def retE (rs : List CRes) (r : AV) : Exit → Est → Prop
  | .normal, s => ∃ y, resAllE s rs = some y ∧ Snap s.objs y r
  | .ret, s => ∃ y, resAllE s rs = some y ∧ Snap s.objs y r
  | _, _ => False

/-- The frame at the outset. -/
def envOf : Nat → List AV → List (Nat × AV)
  | _, [] => []
  | k, x :: xs => (k, x) :: envOf (k + 1) xs

theorem lk_envOf : ∀ (xs : List AV) (k t : Nat), lk (envOf k xs) t = if k ≤ t then xs.getD (t - k) .junk else .junk
  | [], k, t => by simp [envOf, lk]
  | x :: xs, k, t => by
    simp only [envOf, lk]
    rw [lk_envOf xs (k + 1) t]
    by_cases h : k = t
    · subst h; simp
    · rw [if_neg h]
      by_cases h2 : k ≤ t
      · rw [if_pos (by omega), if_pos h2, show t - k = (t - (k + 1)) + 1 from by omega]; simp
      · rw [if_neg (by omega), if_neg h2]

theorem specE {f : FuncId} {c : CCode} {n : Nat} {rs : List CRes} (hf : fnC P f = some (c, n, rs)) {xs : List AV} (hn : xs.length ≤ n) {r : AV} (h : ∀ F0 w0, vcE P F0 w0 n c (retE rs r) ⟨envOf 0 xs, []⟩) : Ctr P f xs r := by
  refine spec_of hf fun F0 w0 => ?_
  have hk : KeysOk n (envOf 0 xs) := by
    intro t ht
    rw [lk_envOf, if_pos (Nat.zero_le _), List.getD_eq_getElem?_getD, List.getElem?_eq_none (by omega)]; rfl
  have e : (⟨xs ++ List.replicate (n - xs.length) .junk, []⟩ : St) = (⟨envOf 0 xs, []⟩ : Est).toSt n := by
    unfold Est.toSt
    congr 1
    refine getD_ext (by simp [toT]; omega) fun t ht => ?_
    rw [toT_getD hk, lk_envOf, if_pos (Nat.zero_le _), Nat.sub_zero]
    rw [List.getD_eq_getElem?_getD, List.getD_eq_getElem?_getD, List.getElem?_append]
    split
    · rfl
    · rename_i h1
      rw [List.getElem?_replicate, List.getElem?_eq_none (by omega)]
      split <;> rfl
  rw [e]
  refine vc_mono c _ ?_ (vcE_ok c _ _ hk (h F0 w0))
  rintro e st ⟨s, hq, hk', rfl⟩
  have hr : ∀ x, resA (s.toSt n) x = resE s x := by
    intro x
    cases x with
    | tmp t => simp only [resA, resE]; rw [show (s.toSt n).tmps = toT n s.env from rfl, toT_getD hk']
    | cell a ag m => simp only [resA, resE]; rw [show (s.toSt n).tmps = toT n s.env from rfl, toT_getD hk']; rfl
  have hra : ∀ rs, resAll (s.toSt n) rs = resAllE s rs := by
    intro rs; unfold resAll resAllE; rw [show resA (s.toSt n) = resE s from funext hr]
    cases rs.mapM (resE s) with
    | none => rfl
    | some ys => cases ys with
      | nil => rfl
      | cons y ys => cases ys <;> rfl
  cases e with
  | normal => simp only [retQ]; rw [hra]; exact hq
  | ret => simp only [retQ]; rw [hra]; exact hq
  | _ => exact hq
end Dak
set_option linter.unusedSimpArgs false
set_option linter.unusedVariables false
set_option linter.unusedSectionVars false
namespace Dak
open Go Go.RowKit
variable [Globs]
variable {P : Program} {F0 : FD} {w0 w : World} {L : Lay} {objs objs0 : List AObj} {nid : Nat}

def Agree (env : List (Nat × AV)) : List (Nat × AV) → Prop
  | [] => True
  | (k, v) :: r => lk env k = v ∧ Agree env r

theorem agree_lk {env : List (Nat × AV)} : ∀ (env' : List (Nat × AV)), Agree env env' → ∀ t, lk env' t = .junk ∨ lk env' t = lk env t
  | [], _, t => .inl rfl
  | (k, v) :: r, h, t => by
    simp only [lk]
    split
    · rename_i e; subst e; exact .inr h.1.symm
    · exact agree_lk r h.2 t

theorem sim_slots {n : Nat} {s : Est} {a : Act} (hk : KeysOk n s.env) (h : Sim F0 w0 (s.toSt n) a w) :
    a.defers = F0.ds ∧ ∃ L, Good F0 w0 w L s.objs ∧ a.tmps.size = n ∧ ∀ t, t < n → VR w L s.objs (lk s.env t) (a.tmps.getD t undef) := by
  obtain ⟨hd, L, g, hs, ht⟩ := h
  refine ⟨hd, L, g, by simpa [Est.toSt, toT] using hs, fun t h => ?_⟩
  have := ht t (by simpa [Est.toSt, toT] using h)
  simpa [Est.toSt, toT] using this

theorem sim_mk {n : Nat} {s : Est} {a : Act} (hd : a.defers = F0.ds) (g : Good F0 w0 w L s.objs) (hs : a.tmps.size = n) (ht : ∀ t, t < n → VR w L s.objs (lk s.env t) (a.tmps.getD t undef)) : Sim F0 w0 (s.toSt n) a w :=
  ⟨hd, L, g, by simp [Est.toSt, toT, hs], fun t h => by
    have h' : t < n := by simpa [Est.toSt, toT] using h
    simpa [Est.toSt, toT] using ht t h'⟩

/-- Slots are forgotten. -/
theorem WkE.keep {n : Nat} {env env' : List (Nat × AV)} {objs : List AObj} (h : Agree env env') : WkE n ⟨env, objs⟩ ⟨env', objs⟩ := by
  intro hk
  refine ⟨fun t ht => ?_, fun F0 w0 a w hs => ?_⟩
  · rcases agree_lk env' h t with h1 | h1
    · exact h1
    · rw [h1]; exact hk t ht
  · obtain ⟨hd, L, g, hs, ht⟩ := sim_slots hk hs
    refine sim_mk (s := ⟨env', objs⟩) hd g hs fun t h' => ?_
    rcases agree_lk env' h t with h1 | h1
    · show VR w L objs (lk env' t) _
      rw [h1]; exact .junk _
    · show VR w L objs (lk env' t) _
      rw [h1]; exact ht t h'

/-- The last objects are forgotten. -/
theorem WkE.drop {n : Nat} {env : List (Nat × AV)} {objs : List AObj} (m : Nat) (he : ∀ p ∈ env, p.2.inn m = true) (ho : ∀ o ∈ objs.take m, o.innO m = true) : WkE n ⟨env, objs⟩ ⟨env, objs.take m⟩ := by
  intro hk
  refine ⟨hk, fun F0 w0 a w hs => ?_⟩
  obtain ⟨hd, L, g, hs, ht⟩ := sim_slots hk hs
  have hle : ∀ t, (lk env t).inn m = true := by
    intro t
    have : ∀ env : List (Nat × AV), (∀ p ∈ env, p.2.inn m = true) → (lk env t).inn m = true := by
      intro env
      induction env with
      | nil => intro _; rfl
      | cons p env ih =>
        intro h
        simp only [lk]
        split
        · exact h p (by simp)
        · exact ih fun q hq => h q (by simp [hq])
    exact this env he
  exact sim_mk (s := ⟨env, objs.take m⟩) (L := L.cut m) hd (good_drop g m ho) hs fun t h => below_vr (L := L) (L' := L.cut m) (fun _ h => h) (fun id h => if_pos h) (ht t h) (hle t)

/-- Both at once, at the end of a round. -/
theorem WkE.round {n : Nat} {env env' : List (Nat × AV)} {objs objs' : List AObj} (h : Agree env env') (he : (env'.all fun p => p.2.inn objs'.length) = true) (ho : (objs'.all fun o => o.innO objs'.length) = true) (hp : objs.take objs'.length = objs') :
    WkE n ⟨env, objs⟩ ⟨env', objs'⟩ := by
  refine (WkE.keep h).trans ?_
  have := WkE.drop (n := n) (env := env') (objs := objs) objs'.length (fun p hp => List.all_eq_true.1 he p hp) (fun o ho' => by rw [hp] at ho'; exact List.all_eq_true.1 ho o ho')
  rwa [hp] at this

/-- A slice that is nil is one of the call's own, from now on. -/
theorem WkE.nil {n : Nat} {env : List (Nat × AV)} {objs : List AObj} (k size : Nat) (elem : TypeId) (hkn : k < n) (h : lk env k = .val (.slice none 0 0)) : WkE n ⟨env, objs⟩ ⟨(k, .own objs.length 0 0 0) :: env, objs ++ [.arr 0 size elem []]⟩ := by
  intro hk
  refine ⟨fun t ht => ?_, fun F0 w0 a w hs => ?_⟩
  · simp only [lk]; rw [if_neg (by omega)]; exact hk t ht
  · obtain ⟨hd, L, g, hs, ht⟩ := sim_slots hk hs
    obtain ⟨gv, hlv⟩ := good_void g
    have hvd : (objs ++ [AObj.void])[objs.length]? = some .void := by simp
    have hl2 : Later w L (objs ++ [AObj.void]) w L ((objs ++ [AObj.void]).set objs.length (.arr 0 size elem [])) := by
      refine ⟨fun b hF hb => ⟨rfl, hF⟩, stale_set hvd, fun i g' s' hl => .inr ⟨?_, rfl⟩⟩
      have hne : objs.length ≠ i := by rintro rfl; obtain ⟨e', xs, h⟩ := hl; rw [hvd] at h; simp at h
      unfold live at hl ⊢
      rwa [List.getElem?_set_ne hne]
    have hl := hlv.trans hl2
    rw [set_void] at hl
    have hg : Good F0 w0 w L (objs ++ [.arr 0 size elem []]) := by
      refine ⟨fun id o ho => ?_, fun id hid => g.out id (by have hid' : (objs ++ [AObj.arr 0 size elem []]).length ≤ id := hid; rw [List.length_append] at hid'; show objs.length ≤ id; omega), g.inj, g.own, g.old, g.ext, g.gl⟩
      by_cases hlt : id < objs.length
      · rw [List.getElem?_append_left hlt] at ho
        have := g.obj id o ho
        cases o with
        | void => exact this
        | dead => exact this
        | probe k st li bk ps => exact this.probe_stay hl rfl
        | arr gen size elem xs =>
          unfold OR at this ⊢
          cases hbk : L.blk id with
          | none => rw [hbk] at this; exact this
          | some q =>
            obtain ⟨b, o', n⟩ := q
            rw [hbk] at this
            obtain ⟨cur, hc, hn, hr⟩ := this
            exact ⟨cur, hc, hn, hr.stay hl⟩
      · have hid : id = objs.length := by
          have := (List.getElem?_eq_some_iff.1 ho).1
          simp at this; omega
        subst hid
        simp at ho; subst ho
        unfold OR
        have hn : L.blk objs.length = none := g.out objs.length (Nat.le_refl _)
        rw [hn]
    refine sim_mk (s := ⟨_, _⟩) hd hg hs fun t h' => ?_
    simp only [lk]
    split
    · rename_i e; subst e
      have := ht k h'
      simp only at this
      rw [h] at this
      rw [this.val_inv]
      exact .ownN _ _ _ _ size ⟨elem, [], by simp⟩
    · exact (ht t h').stay hl

/-- What is the call's own is data, from now on. -/
theorem WkE.freezeS {n : Nat} {env : List (Nat × AV)} {objs : List AObj} (k id g size : Nat) (elem : TypeId) (xs : List AV) (x y : AV) (hkn : k < n) (h : lk env k = x) (ho : objs[id]? = some (.arr g size elem xs))
    (hsn : Snap (List.replicate id .dead ++ [.arr g size elem xs]) x y) : WkE n ⟨env, objs⟩ ⟨(k, y) :: env, objs.set id .dead⟩ := by
  intro hk
  have hid := (List.getElem?_eq_some_iff.1 ho).1
  refine ⟨fun t ht => ?_, fun F0 w0 a w hs => ?_⟩
  · simp only [lk]; rw [if_neg (by omega)]; exact hk t ht
  · obtain ⟨hd, L, gd, hs, ht⟩ := sim_slots hk hs
    let L' : Lay := ⟨fun b => L.F b ∨ ∃ o n, L.blk id = some (b, o, n), fun i => if i = id then none else L.blk i⟩
    have only : ∀ (i g' s' : Nat) (e' : TypeId) (xs' : List AV), (List.replicate id AObj.dead ++ [AObj.arr g size elem xs])[i]? = some (AObj.arr g' s' e' xs') → i = id ∧ AObj.arr g size elem xs = AObj.arr g' s' e' xs' := by
      intro i g' s' e' xs' hi
      by_cases hlt : i < id
      · rw [List.getElem?_append_left (by simpa using hlt), List.getElem?_replicate, if_pos hlt] at hi; simp at hi
      · have : i = id := by have := (List.getElem?_eq_some_iff.1 hi).1; simp at this; omega
        subst this
        rw [List.getElem?_append_right (by simp)] at hi
        simp only [List.length_replicate, Nat.sub_self, List.getElem?_cons_zero, Option.some.injEq] at hi
        exact ⟨rfl, hi⟩
    have hlater : Later w L objs w L' (objs.set id .dead) := by
      refine ⟨fun b hF hb => ⟨rfl, .inl hF⟩, fun i g' hst => ?_, fun i g' s' hl => ?_⟩
      · by_cases e : id = i
        · subst e; exact .inl (List.getElem?_set_self hid)
        · unfold stale at hst ⊢; rwa [List.getElem?_set_ne e]
      · by_cases e : id = i
        · subst e; exact .inl (.inl (List.getElem?_set_self hid))
        · refine .inr ⟨?_, if_neg (Ne.symm e)⟩
          unfold live at hl ⊢; rwa [List.getElem?_set_ne e]
    refine sim_mk (s := ⟨_, _⟩) (L := L') hd ⟨fun i o ho' => ?_, fun i hi => ?_, fun i j b o n o' n' h1 h2 => ?_, fun i b o n h => ?_, fun b hb => ?_, gd.ext, gd.gl.stay hlater.wk⟩ hs fun t h' => ?_
    · by_cases e : i = id
      · subst e
        rw [List.getElem?_set_self hid] at ho'
        simp only [Option.some.injEq] at ho'; subst ho'
        exact if_pos rfl
      · rw [List.getElem?_set_ne (Ne.symm e)] at ho'
        have := gd.obj i o ho'
        have hbe : L'.blk i = L.blk i := if_neg e
        cases o with
        | void => unfold OR at this ⊢; rw [hbe]; exact this
        | dead => unfold OR at this ⊢; rw [hbe]; exact this
        | probe k st li bk ps => exact this.probe_stay hlater hbe
        | arr gen size elem xs =>
          unfold OR at this ⊢
          rw [hbe]
          cases hbk : L.blk i with
          | none => rw [hbk] at this; exact this
          | some q =>
            obtain ⟨b, o', n⟩ := q
            rw [hbk] at this
            obtain ⟨cur, hc, hn, hr⟩ := this
            exact ⟨cur, hc, hn, hr.stay hlater⟩
    · rw [List.length_set] at hi
      show (if i = id then none else L.blk i) = none
      split
      · rfl
      · exact gd.out i hi
    · have h1' : (if i = id then none else L.blk i) = some (b, o, n) := h1
      have h2' : (if j = id then none else L.blk j) = some (b, o', n') := h2
      split at h1' <;> split at h2' <;> first | exact gd.inj _ _ _ _ _ _ _ h1' h2' | cases h1' | cases h2'
    · have h' : (if i = id then none else L.blk i) = some (b, o, n) := h
      split at h'
      · cases h'
      · rename_i e
        have := gd.own _ _ _ _ h'
        refine ⟨?_, this.2⟩
        rintro (hF | ⟨o2, n2, hF⟩)
        · exact this.1 hF
        · exact e (gd.inj _ _ _ _ _ _ _ h' hF)
    · rcases hb with hb | ⟨o, n, hb⟩
      · exact gd.old b hb
      · have := gd.own _ _ _ _ hb
        exact ⟨.inr this.2.1, this.2.2⟩
    · simp only [lk]
      split
      · rename_i e; subst e
        have := ht k h'
        simp only at this
        rw [h] at this
        refine .tree (snap_ok gd ?_ (G := L'.F) (fun b hb => .inl hb) ?_ hsn _ this)
        · intro i g' s' e' xs' hi
          obtain ⟨rfl, e⟩ := only i g' s' e' xs' hi
          rw [← e]; exact ho
        · intro i g' s' e' xs' hi b o n hb
          obtain ⟨rfl, _⟩ := only i g' s' e' xs' hi
          exact .inr ⟨o, n, hb⟩
      · exact (ht t h').stay hlater
/-- A slice that is the call's own is data, from now on. -/
theorem WkE.freeze {n : Nat} {env : List (Nat × AV)} {objs : List AObj} (k id g off len size : Nat) (elem : TypeId) (xs : List AV) (hkn : k < n) (h : lk env k = .own id g off len) (ho : objs[id]? = some (.arr g size elem xs))
    (hle : off + len ≤ xs.length) (hT : (xs.all AV.isT) = true) (he : elem < mapT := by decide) : WkE n ⟨env, objs⟩ ⟨(k, .list size ((xs.drop off).take len)) :: env, objs.set id .dead⟩ := by
  refine .freezeS k id g size elem xs _ _ hkn h ho ?_
  have hl : ((xs.drop off).take len).length = len := by simp; omega
  refine .own id g off len size elem xs _ (by rw [List.getElem?_append_right (by simp)]; simp) hle hl (fun i hi => ?_) he
  rw [List.getElem_take, List.getElem_drop]
  exact .tree _ (List.all_eq_true.1 hT _ (List.getElem_mem _))
/-- A map that is the call's own is data, from now on. -/
theorem WkE.freezeMap {n : Nat} {env : List (Nat × AV)} {objs : List AObj} (k id g c : Nat) (ks : List (MK × Value)) (hkn : k < n) (h : lk env k = .mref id g) (ho : objs[id]? = some (.arr g 1 (mapT + c) [.val (mapV ks)])) :
    WkE n ⟨env, objs⟩ ⟨(k, .mapd c (kget ks)) :: env, objs.set id .dead⟩ :=
  .freezeS k id g 1 (mapT + c) _ _ _ hkn h ho (.map id g c ks (by rw [List.getElem?_append_right (by simp)]; simp))
end Dak
set_option linter.unusedSimpArgs false
set_option linter.unusedVariables false
set_option linter.unusedSectionVars false
namespace Dak
open Go Go.RowKit
variable [Globs]
variable {P : Program} {F0 : FD} {w0 w : World} {L : Lay} {objs objs0 : List AObj} {nid : Nat}

theorem live_set_same {id gen size : Nat} {elem : TypeId} {xs xs' : List AV} (ho : objs[id]? = some (.arr gen size elem xs)) : Later w L objs w L (objs.set id (.arr gen size elem xs')) := by
  have hid := (List.getElem?_eq_some_iff.1 ho).1
  refine ⟨fun b hF hb => ⟨rfl, hF⟩, stale_next ho (Nat.le_refl _), fun i g s h => .inr ⟨?_, rfl⟩⟩
  by_cases e : id = i
  · subst e
    obtain ⟨e', ys, h⟩ := h
    rw [ho] at h; simp only [Option.some.injEq, AObj.arr.injEq] at h
    obtain ⟨rfl, rfl, rfl, rfl⟩ := h
    exact ⟨_, _, List.getElem?_set_self hid⟩
  · unfold live at h ⊢; rwa [List.getElem?_set_ne e]

/-- One cell of an object is seen otherwise. -/
theorem good_recell {L' : Lay} {objs' : List AObj} (g : Good F0 w0 w L objs) (g' : Good F0 w0 w L' objs') (hl : Later w L objs w L' objs') {id gen size el c : Nat} {elem : TypeId} {xs : List AV} {y x0 x1 : AV}
    (ho : objs[id]? = some (.arr gen size elem xs)) (ho' : objs'[id]? = some (.arr gen size elem xs)) (hbk : L'.blk id = L.blk id) (hy : xs[el]? = some y) (hc : y.cells[c]? = some x0) (hx : ∀ u, u.oneCell' = true → VR w L objs x0 u → VR w L' objs' x1 u) (h1 : ∀ ds, x1 ≠ .agg ds) :
    Good F0 w0 w L' (objs'.set id (.arr gen size elem (xs.set el (recell y (y.cells.set c x1))))) := by
  have hid := (List.getElem?_eq_some_iff.1 ho').1
  have hl2 : Later w L' objs' w L' (objs'.set id (.arr gen size elem (xs.set el (recell y (y.cells.set c x1))))) := live_set_same ho'
  refine ⟨fun i o hi => ?_, fun i hi => g'.out i (by rw [List.length_set] at hi; exact hi), g'.inj, g'.own, g'.old, g'.ext, g'.gl⟩
  by_cases e : i = id
  · subst e
    rw [List.getElem?_set_self hid] at hi
    simp only [Option.some.injEq] at hi; subst hi
    have := g.obj _ _ ho
    unfold OR at this ⊢
    rw [hbk]
    cases hb : L.blk i with
    | none =>
      rw [hb] at this
      simp only at this
      subst this; simp at hy
    | some q =>
      obtain ⟨b, o, n⟩ := q
      rw [hb] at this
      obtain ⟨cur, hcur, hn, hr1, hr2⟩ := this
      obtain ⟨hel, rfl⟩ := List.getElem?_eq_some_iff.1 hy
      obtain ⟨hcl, rfl⟩ := List.getElem?_eq_some_iff.1 hc
      have hna : ∀ c' ∈ xs[el].cells.set c x1, ∀ ds, c' ≠ .agg ds := by
        intro c' hc' ds
        obtain ⟨k, hk, rfl⟩ := List.getElem_of_mem hc'
        rw [List.getElem_set]
        split
        · exact h1 ds
        · obtain ⟨u, _, ho1, hv⟩ := (hr2 el hel).2 k (by simpa using hk)
          exact one_not_agg hv ho1 ds
      have hrc := recell_cells xs[el] _ hna
      refine ⟨cur, hcur, hn, by rw [List.length_set]; exact hr1, fun j hj => ?_⟩
      rw [List.length_set] at hj
      by_cases ej : el = j
      · subst ej
        rw [List.getElem_set_self, hrc]
        refine ⟨by rw [List.length_set]; exact (hr2 el hel).1, fun k hk => ?_⟩
        rw [List.length_set] at hk
        obtain ⟨u, hu, ho1, hv⟩ := (hr2 el hel).2 k hk
        refine ⟨u, hu, ho1, ?_⟩
        rw [List.getElem_set]
        split
        · rename_i ek; subst ek; exact (hx u ho1 hv).stay hl2
        · exact (hv.stay hl).stay hl2
      · rw [List.getElem_set_ne ej]
        refine ⟨(hr2 j hj).1, fun k hk => ?_⟩
        obtain ⟨u, hu, ho1, hv⟩ := (hr2 j hj).2 k hk
        exact ⟨u, hu, ho1, (hv.stay hl).stay hl2⟩
  · rw [List.getElem?_set_ne (Ne.symm e)] at hi
    have := g'.obj i o hi
    cases o with
    | void => exact this
    | dead => exact this
    | probe k st li bk ps => exact this.probe_stay hl2 rfl
    | arr gen size elem xs =>
      unfold OR at this ⊢
      cases hbk : L'.blk i with
      | none => rw [hbk] at this; exact this
      | some q =>
        obtain ⟨b, o', n⟩ := q
        rw [hbk] at this
        obtain ⟨cur, hc, hn, hr⟩ := this
        exact ⟨cur, hc, hn, hr.stay hl2⟩

/-- A new object without a place, that nothing names yet. -/
theorem good_empty (g : Good F0 w0 w L objs) (size : Nat) (elem : TypeId) : Good F0 w0 w L (objs ++ [.arr 0 size elem []]) ∧ Later w L objs w L (objs ++ [.arr 0 size elem []]) := by
  obtain ⟨gv, hlv⟩ := good_void g
  have hvd : (objs ++ [AObj.void])[objs.length]? = some .void := by simp
  have hl2 : Later w L (objs ++ [AObj.void]) w L ((objs ++ [AObj.void]).set objs.length (.arr 0 size elem [])) := by
    refine ⟨fun b hF hb => ⟨rfl, hF⟩, stale_set hvd, fun i g' s' hl => .inr ⟨?_, rfl⟩⟩
    have hne : objs.length ≠ i := by rintro rfl; obtain ⟨e', xs, h⟩ := hl; rw [hvd] at h; simp at h
    unfold live at hl ⊢
    rwa [List.getElem?_set_ne hne]
  have hl := hlv.trans hl2
  rw [set_void] at hl
  refine ⟨⟨fun id o ho => ?_, fun id hid => g.out id (by rw [List.length_append] at hid; omega), g.inj, g.own, g.old, g.ext, g.gl⟩, hl⟩
  by_cases hlt : id < objs.length
  · rw [List.getElem?_append_left hlt] at ho
    have := g.obj id o ho
    cases o with
    | void => exact this
    | dead => exact this
    | probe k st li bk ps => exact this.probe_stay hl rfl
    | arr gen size elem xs =>
      unfold OR at this ⊢
      cases hbk : L.blk id with
      | none => rw [hbk] at this; exact this
      | some q =>
        obtain ⟨b, o', n⟩ := q
        rw [hbk] at this
        obtain ⟨cur, hc, hn, hr⟩ := this
        exact ⟨cur, hc, hn, hr.stay hl⟩
  · have hid : id = objs.length := by
      have := (List.getElem?_eq_some_iff.1 ho).1
      simp at this; omega
    subst hid
    simp at ho; subst ho
    unfold OR
    have hn : L.blk objs.length = none := g.out objs.length (Nat.le_refl _)
    rw [hn]

/-- A slice in a cell that is nil is one of the call's own, from now on. -/
theorem WkE.nilCell {n : Nat} {env : List (Nat × AV)} {objs : List AObj} (id gen sz el c size : Nat) (elem et : TypeId) (xs : List AV) (y : AV) (ho : objs[id]? = some (.arr gen sz et xs)) (hy : xs[el]? = some y) (hc : y.cells[c]? = some (.val (.slice none 0 0))) :
    WkE n ⟨env, objs⟩ ⟨env, objs.set id (.arr gen sz et (xs.set el (recell y (y.cells.set c (.own objs.length 0 0 0))))) ++ [.arr 0 size elem []]⟩ := by
  intro hk
  refine ⟨hk, fun F0 w0 a w hs => ?_⟩
  obtain ⟨hd, L, g, hs, ht⟩ := sim_slots hk hs
  obtain ⟨g', hl⟩ := good_empty g size elem
  have hid := (List.getElem?_eq_some_iff.1 ho).1
  have ho' : (objs ++ [AObj.arr 0 size elem []])[id]? = some (.arr gen sz et xs) := by rw [List.getElem?_append_left hid]; exact ho
  have hg := good_recell (x1 := .own objs.length 0 0 0) g g' hl ho ho' rfl hy hc (fun u _ hu => by rw [hu.val_inv]; exact .ownN _ _ _ _ size ⟨elem, [], by simp⟩) (fun ds => by simp)
  have e : (objs ++ [AObj.arr 0 size elem []]).set id (.arr gen sz et (xs.set el (recell y (y.cells.set c (.own objs.length 0 0 0))))) = objs.set id (.arr gen sz et (xs.set el (recell y (y.cells.set c (.own objs.length 0 0 0))))) ++ [.arr 0 size elem []] := List.set_append_left _ _ hid
  rw [e] at hg
  have hl2 : Later w L (objs ++ [AObj.arr 0 size elem []]) w L ((objs ++ [AObj.arr 0 size elem []]).set id (.arr gen sz et (xs.set el (recell y (y.cells.set c (.own objs.length 0 0 0)))))) := live_set_same ho'
  rw [e] at hl2
  exact sim_mk (s := ⟨env, _⟩) hd hg hs fun t h => (ht t h).stay (hl.trans hl2)

/-- A dead object's block is data. -/
theorem good_dead (g : Good F0 w0 w L objs) {id gen size : Nat} {elem : TypeId} {xs : List AV} (ho : objs[id]? = some (.arr gen size elem xs)) :
    ∃ L' : Lay, Good F0 w0 w L' (objs.set id .dead) ∧ Later w L objs w L' (objs.set id .dead) ∧ (∀ b, L.F b → L'.F b) ∧ (∀ b o n, L.blk id = some (b, o, n) → L'.F b) ∧ ∀ i, i ≠ id → L'.blk i = L.blk i := by
  have hid := (List.getElem?_eq_some_iff.1 ho).1
  let L' : Lay := ⟨fun b => L.F b ∨ ∃ o n, L.blk id = some (b, o, n), fun i => if i = id then none else L.blk i⟩
  have hlater : Later w L objs w L' (objs.set id .dead) := by
    refine ⟨fun b hF hb => ⟨rfl, .inl hF⟩, fun i g' hst => ?_, fun i g' s' hl => ?_⟩
    · by_cases e : id = i
      · subst e; exact .inl (List.getElem?_set_self hid)
      · unfold stale at hst ⊢; rwa [List.getElem?_set_ne e]
    · by_cases e : id = i
      · subst e; exact .inl (.inl (List.getElem?_set_self hid))
      · refine .inr ⟨?_, if_neg (Ne.symm e)⟩
        unfold live at hl ⊢; rwa [List.getElem?_set_ne e]
  refine ⟨L', ⟨fun i o ho' => ?_, fun i hi => ?_, fun i j b o n o' n' h1 h2 => ?_, fun i b o n h => ?_, fun b hb => ?_, g.ext, g.gl.stay hlater.wk⟩, hlater, fun b h => .inl h, fun b o n h => .inr ⟨o, n, h⟩, fun i h => if_neg h⟩
  · by_cases e : i = id
    · subst e
      rw [List.getElem?_set_self hid] at ho'
      simp only [Option.some.injEq] at ho'; subst ho'
      exact if_pos rfl
    · rw [List.getElem?_set_ne (Ne.symm e)] at ho'
      have := g.obj i o ho'
      have hbe : L'.blk i = L.blk i := if_neg e
      cases o with
      | void => unfold OR at this ⊢; rw [hbe]; exact this
      | dead => unfold OR at this ⊢; rw [hbe]; exact this
      | probe k st li bk ps => exact this.probe_stay hlater hbe
      | arr gen size elem xs =>
        unfold OR at this ⊢
        rw [hbe]
        cases hbk : L.blk i with
        | none => rw [hbk] at this; exact this
        | some q =>
          obtain ⟨b, o', n⟩ := q
          rw [hbk] at this
          obtain ⟨cur, hc, hn, hr⟩ := this
          exact ⟨cur, hc, hn, hr.stay hlater⟩
  · rw [List.length_set] at hi
    show (if i = id then none else L.blk i) = none
    split
    · rfl
    · exact g.out i hi
  · have h1' : (if i = id then none else L.blk i) = some (b, o, n) := h1
    have h2' : (if j = id then none else L.blk j) = some (b, o', n') := h2
    split at h1' <;> split at h2' <;> first | exact g.inj _ _ _ _ _ _ _ h1' h2' | cases h1' | cases h2'
  · have h' : (if i = id then none else L.blk i) = some (b, o, n) := h
    split at h'
    · cases h'
    · rename_i e
      have := g.own _ _ _ _ h'
      refine ⟨?_, this.2⟩
      rintro (hF | ⟨o2, n2, hF⟩)
      · exact this.1 hF
      · exact e (g.inj _ _ _ _ _ _ _ h' hF)
  · rcases hb with hb | ⟨o, n, hb⟩
    · exact g.old b hb
    · have := g.own _ _ _ _ hb
      exact ⟨.inr this.2.1, this.2.2⟩

/-- What an own slice of data reads as, once its object is dead. -/
theorem own_data (gd : Good F0 w0 w L objs) {id g off len size : Nat} {elem : TypeId} {xs : List AV} (ho : objs[id]? = some (.arr g size elem xs)) (hle : off + len ≤ xs.length) (hT : (xs.all AV.isT) = true) (hem : elem < mapT) {G : Nat → Prop} (hF : ∀ b, L.F b → G b) (hG : ∀ b o n, L.blk id = some (b, o, n) → G b)
    {v : Value} (h : VR w L objs (.own id g off len) v) : TR w G (.list size ((xs.drop off).take len)) v := by
  have hsn : Snap (List.replicate id .dead ++ [.arr g size elem xs]) (.own id g off len) (.list size ((xs.drop off).take len)) := by
    have hl : ((xs.drop off).take len).length = len := by simp; omega
    refine .own id g off len size elem xs _ (by rw [List.getElem?_append_right (by simp)]; simp) hle hl (fun i hi => ?_) hem
    rw [List.getElem_take, List.getElem_drop]
    exact .tree _ (List.all_eq_true.1 hT _ (List.getElem_mem _))
  have only : ∀ (i g' s' : Nat) (e' : TypeId) (xs' : List AV), (List.replicate id AObj.dead ++ [AObj.arr g size elem xs])[i]? = some (AObj.arr g' s' e' xs') → i = id ∧ AObj.arr g size elem xs = AObj.arr g' s' e' xs' := by
    intro i g' s' e' xs' hi
    by_cases hlt : i < id
    · rw [List.getElem?_append_left (by simpa using hlt), List.getElem?_replicate, if_pos hlt] at hi; simp at hi
    · have : i = id := by have := (List.getElem?_eq_some_iff.1 hi).1; simp at this; omega
      subst this
      rw [List.getElem?_append_right (by simp)] at hi
      simp only [List.length_replicate, Nat.sub_self, List.getElem?_cons_zero, Option.some.injEq] at hi
      exact ⟨rfl, hi⟩
  refine snap_ok gd ?_ hF ?_ hsn _ h
  · intro i g' s' e' xs' hi
    obtain ⟨rfl, e⟩ := only i g' s' e' xs' hi
    rw [← e]; exact ho
  · intro i g' s' e' xs' hi b o n hb
    obtain ⟨rfl, _⟩ := only i g' s' e' xs' hi
    exact hG b o n hb

/-- A slice of one's own that lies in a cell is data, from now on. -/
theorem WkE.freezeCell {n : Nat} {env : List (Nat × AV)} {objs : List AObj} (id gen sz el c id2 g2 off len size : Nat) (et elem : TypeId) (xs ys : List AV) (y : AV) (ho : objs[id]? = some (.arr gen sz et xs)) (hy : xs[el]? = some y) (hc : y.cells[c]? = some (.own id2 g2 off len))
    (ho2 : objs[id2]? = some (.arr g2 size elem ys)) (hne : id ≠ id2) (hle : off + len ≤ ys.length) (hT : (ys.all AV.isT) = true) (hem : elem < mapT := by decide) :
    WkE n ⟨env, objs⟩ ⟨env, (objs.set id2 .dead).set id (.arr gen sz et (xs.set el (recell y (y.cells.set c (.list size ((ys.drop off).take len))))))⟩ := by
  intro hk
  refine ⟨hk, fun F0 w0 a w hs => ?_⟩
  obtain ⟨hd, L, g, hs, ht⟩ := sim_slots hk hs
  obtain ⟨L', g', hl, h1, h2, h3⟩ := good_dead g ho2
  have ho' : (objs.set id2 .dead)[id]? = some (.arr gen sz et xs) := by rw [List.getElem?_set_ne (Ne.symm hne)]; exact ho
  have hg := good_recell (x1 := .list size ((ys.drop off).take len)) g g' hl ho ho' (h3 id hne) hy hc (fun u _ hu => .tree (own_data g ho2 hle hT hem h1 h2 hu)) (fun ds => by simp)
  exact sim_mk (s := ⟨env, _⟩) hd hg hs fun t h => (ht t h).stay (hl.trans (live_set_same ho'))
end Dak
namespace Dak
open Go Go.RowKit
variable [Globs]
theorem snaps_self : ∀ (args : List AV), (args.all AV.isT) = true → ∀ objs, Snaps objs args args
  | [], _, _ => .nil
  | x :: xs, h, objs => by
    simp only [List.all_cons, Bool.and_eq_true] at h
    exact .cons (.tree _ h.1) (snaps_self xs h.2 objs)
/-- A call with data. -/
theorem callT {P : Program} {m : Bool} {objs : List AObj} {f : FuncId} {args : List AV} {r : AV} {K : AV → List AObj → Prop} (h : Ctr P f args r) (hT : (args.all AV.isT) = true) (k : K r objs) : ∃ r objs', CallM P m objs (.clo (.func f) []) args r objs' ∧ K r objs' :=
  ⟨r, objs, .ok (.data f [] args (args ++ []) r (by rw [List.append_nil]; exact snaps_self args hT _) (by rw [List.append_nil]; exact h)), k⟩
/-- A call with slices that may be nil. -/
theorem callN {P : Program} {m : Bool} {objs : List AObj} {f : FuncId} {args xs : List AV} {r : AV} {K : AV → List AObj → Prop} (h : Ctr P f xs r) (hs : Snaps [] args xs) (k : K r objs) : ∃ r objs', CallM P m objs (.clo (.func f) []) args r objs' ∧ K r objs' :=
  ⟨r, objs, .ok (.data f [] args xs r (by rw [List.append_nil]; exact hs) h), k⟩
/-- A call that may look at what is the caller's own. -/
theorem callF {P : Program} {m : Bool} {objs : List AObj} {f : FuncId} {args xs : List AV} {r : AV} {K : AV → List AObj → Prop} (h : Ctr P f xs r) (hs : Snaps objs args xs) (hf : r.flat = true) (k : K r objs) : ∃ r objs', CallM P m objs (.clo (.func f) []) args r objs' ∧ K r objs' :=
  ⟨r, objs, .ok (.flat f [] args xs r (by rw [List.append_nil]; exact hs) h hf), k⟩
/-- The same of a function with what it has captured. -/
theorem callCN {P : Program} {m : Bool} {objs : List AObj} {f : FuncId} {cap args xs : List AV} {r : AV} {K : AV → List AObj → Prop} (h : Ctr P f xs r) (hs : Snaps [] (args ++ cap) xs) (k : K r objs) : ∃ r objs', CallM P m objs (.clo (.func f) cap) args r objs' ∧ K r objs' :=
  ⟨r, objs, .ok (.data f cap args xs r hs h), k⟩
theorem callCF {P : Program} {m : Bool} {objs : List AObj} {f : FuncId} {cap args xs : List AV} {r : AV} {K : AV → List AObj → Prop} (h : Ctr P f xs r) (hs : Snaps objs (args ++ cap) xs) (hf : r.flat = true) (k : K r objs) : ∃ r objs', CallM P m objs (.clo (.func f) cap) args r objs' ∧ K r objs' :=
  ⟨r, objs, .ok (.flat f cap args xs r hs h hf), k⟩
/-- A call that looks at the first objects, and leaves them. -/
theorem callR {P : Program} {m : Bool} {objs : List AObj} {f : FuncId} {cap args : List AV} {r : AV} {K : AV → List AObj → Prop} (base tail : List AObj) (h : CtrM P f (args ++ cap) base r base) (ho : objs = base ++ tail)
    (hb : (base.all fun o => o.innO base.length) = true) (ha : ((args ++ cap).all fun x => x.inn base.length) = true) (k : K r objs) : ∃ r objs', CallM P m objs (.clo (.func f) cap) args r objs' ∧ K r objs' :=
  ⟨r, objs, .ok (.read f cap args base tail r ho h hb ha), k⟩
/-- A call that makes objects. -/
theorem callNew {P : Program} {objs news : List AObj} {f : FuncId} {cap args xs : List AV} {r : AV} {K : AV → List AObj → Prop} (h : CtrN P f xs r news) (hs : Snaps [] (args ++ cap) xs) (k : K (r.shift objs.length) (objs ++ news.map (AObj.shiftO objs.length))) :
    ∃ r objs', CallM P true objs (.clo (.func f) cap) args r objs' ∧ K r objs' := ⟨_, _, .new f cap args xs objs news r hs h, k⟩
/-- A call that makes objects out of what is read. -/
theorem callNewF {P : Program} {objs news : List AObj} {f : FuncId} {cap args xs : List AV} {r : AV} {K : AV → List AObj → Prop} (h : CtrN P f xs r news) (hs : Snaps objs (args ++ cap) xs) (hf : (news.all AObj.flat) = true) (hr : r.flatO = true) (k : K (r.shift objs.length) (objs ++ news.map (AObj.shiftO objs.length))) :
    ∃ r objs', CallM P true objs (.clo (.func f) cap) args r objs' ∧ K r objs' := ⟨_, _, .newF f cap args xs objs news r hs h hf hr, k⟩
theorem nvO_ren (σ : Nat → Nat) : ∀ news : List AObj, nvO (news.map (AObj.renO σ)) = nvO news
  | [] => rfl
  | .void :: _ => rfl
  | .dead :: _ => rfl
  | .arr .. :: _ => rfl
  | .probe .. :: _ => rfl
/-- A call that makes one object, in a region that draws its order. -/
theorem callN1 {P : Program} {objs cr : List AObj} {o : AObj} {f : FuncId} {cap args xs : List AV} {r : AV} {K : AV → List AObj → Prop} (h : CtrN P f xs r [o]) (hs : Snaps [] (args ++ cap) xs) (hi : ([o].all fun x => x.inRO [o]) = true) (hr : r.inR [o] = true)
    (k : K (r.ren fun _ => objs.length + cr.length) (cr ++ [o.renO fun _ => objs.length + cr.length])) (hv : nvO [o] = true := by rfl) :
    ∃ r objs', CallM P false objs (.clo (.func f) cap) args r objs' ∧ callX objs objs' cr (K r) := ⟨_, _, .one cr.length (.data f cap args xs r o hs h hi hr) (by rw [← hv]; exact nvO_ren _ [o]), .inr ⟨_, by rw [← hv]; exact nvO_ren _ [o], rfl, k⟩⟩
theorem callN1F {P : Program} {objs cr : List AObj} {o : AObj} {f : FuncId} {cap args xs : List AV} {r : AV} {K : AV → List AObj → Prop} (h : CtrN P f xs r [o]) (hs : Snaps objs (args ++ cap) xs) (hi : ([o].all fun x => x.inRO [o]) = true) (hr : r.inR [o] = true) (hf : o.flat = true) (hrf : r.flatO = true)
    (k : K (r.ren fun _ => objs.length + cr.length) (cr ++ [o.renO fun _ => objs.length + cr.length])) (hv : nvO [o] = true := by rfl) :
    ∃ r objs', CallM P false objs (.clo (.func f) cap) args r objs' ∧ callX objs objs' cr (K r) := ⟨_, _, .one cr.length (.flat f cap args xs r o hs h hi hr hf hrf) (by rw [← hv]; exact nvO_ren _ [o]), .inr ⟨_, by rw [← hv]; exact nvO_ren _ [o], rfl, k⟩⟩
/-- A call that makes objects, in a region that draws its order. -/
theorem callNm {P : Program} {objs cr news : List AObj} {f : FuncId} {cap args xs : List AV} {r : AV} {K : AV → List AObj → Prop} (h : CtrN P f xs r news) (hs : Snaps [] (args ++ cap) xs) (hi : (news.all fun x => x.inRO news) = true) (hr : r.inR news = true) (hv : nvO news = true)
    (k : K (r.ren (objs.length + cr.length + ·)) (cr ++ news.map (AObj.renO (objs.length + cr.length + ·)))) :
    ∃ r objs', CallM P false objs (.clo (.func f) cap) args r objs' ∧ callX objs objs' cr (K r) := ⟨_, _, .one cr.length (.many f cap args xs r news hs h hi hr) (by rw [← hv]; exact nvO_ren _ _), .inr ⟨_, by rw [← hv]; exact nvO_ren _ _, rfl, k⟩⟩
/-- A call that changes the first objects. -/
theorem callM {P : Program} {objs : List AObj} {f : FuncId} {cap args : List AV} {r : AV} {K : AV → List AObj → Prop} (base tail base' : List AObj) (h : CtrM P f (args ++ cap) base r base') (ho : objs = base ++ tail)
    (hb : (base.all fun o => o.innO base.length) = true) (ha : ((args ++ cap).all fun x => x.inn base.length) = true) (k : K r (base' ++ tail)) : ∃ r objs', CallM P true objs (.clo (.func f) cap) args r objs' ∧ K r objs' := by
  subst ho
  exact ⟨r, _, .mod f cap args base tail r base' h hb ha, k⟩
end Dak
namespace Dak
open Go Go.RowKit
variable [Globs]
variable {P : Program} {F0 : FD} {w0 : World}

theorem CwpE.wk {n : Nat} {c : CCode} {Q : Exit → Est → Prop} {s s' : Est} (h : WkE n s s') (k : CwpE P F0 w0 n c Q s') : CwpE P F0 w0 n c Q s := fun hk => Cwp.wk (h hk).2 (k (h hk).1)
/-- What holds behind a loop may say less. -/
theorem CwpE.post {n : Nat} {c : CCode} {Q Q' : Exit → Est → Prop} {s : Est} (h : CwpE P F0 w0 n c Q s) (k : ∀ e s, Q e s → ∃ s', WkE n s s' ∧ Q' e s') : CwpE P F0 w0 n c Q' s := by
  intro hk F1 w1 m r rn code hc hro a w hs
  refine wpIn_mono (h hk F1 w1 m r rn code hc hro a w hs) ?_
  rintro e a w ⟨F2, w2, hm, _, ⟨s1, hq, hk1, rfl⟩, hs1⟩
  obtain ⟨s2, hwk, hq2⟩ := k e s1 hq
  exact ⟨F2, w2, hm, s2.toSt n, ⟨s2, hq2, (hwk hk1).1, rfl⟩, (hwk hk1).2 _ _ _ _ hs1⟩

def RoundX (n : Nat) (I : Nat → Est → Prop) (k : Nat) (x : Nat) (J : Est → Prop) (Q : Exit → Est → Prop) : Exit → Est → Prop
  | .normal, s => ∃ m s', m < k ∧ WkE n s s' ∧ I m s'
  | .exit i, s => if i = x then ∃ s', WkE n s s' ∧ J s' else Q (.exit i) s
  | e, s => Q e s

/-- A loop that is left at one place: in a state of J. -/
theorem loopX {n : Nat} {b : CCode} {Q : Exit → Est → Prop} {s : Est} (x : Nat) (I : Nat → Est → Prop) (J : Est → Prop) (k : Nat) (s0 : Est) (hw : WkE n s s0) (h0 : I k s0) (round : ∀ k s, I k s → vcE P F0 w0 n b (RoundX n I k x J Q) s) (post : ∀ s, J s → Q (.exit x) s) : CwpE P F0 w0 n (.loop b) Q s := by
  refine CwpE.post (Q := fun e s => match e with | .exit i => if i = x then ∃ s', WkE n s s' ∧ J s' else Q (.exit i) s | e => Q e s) ?_ ?_
  · refine loopE I k s0 hw h0 fun k s hI => ?_
    have := round k s hI
    have e : RoundX n I k x J Q = RoundE n I k (fun e s => match e with | .exit i => if i = x then ∃ s', WkE n s s' ∧ J s' else Q (.exit i) s | e => Q e s) := by
      funext e s; cases e <;> rfl
    rw [e] at this; exact this
  · intro e s hq
    cases e with
    | exit i =>
      simp only at hq
      split at hq
      · rename_i hi; subst hi
        obtain ⟨s', h1, h2⟩ := hq
        exact ⟨s', h1, post s' h2⟩
      · exact ⟨s, .refl _ _, hq⟩
    | _ => exact ⟨s, .refl _ _, hq⟩
end Dak
set_option linter.unusedSimpArgs false
set_option linter.unusedVariables false
set_option linter.unusedSectionVars false
namespace Dak
open Go Go.RowKit
variable [Globs]
variable {P : Program} {F0 : FD} {w0 : World} {n : Nat} {Q : Exit → Est → Prop} {s : Est}
/-- An equation that a simplifier does not take to hold by computation: the kernel is then not asked to compute it. -/
theorem nrfl.{u} {α : Sort u} {a b : α} (h : a = b) : a = b := h
def condE (o : Option Bool) (p q : Prop) : Prop := match o with
  | some t => (t = true → p) ∧ (t = false → q)
  | none => False
theorem condE_congr {o o' : Option Bool} {p q : Prop} (h : o = o') : condE o p q = condE o' p q := by rw [h]
theorem condE_t {p q : Prop} : condE (some true) p q = p := by simp [condE]
theorem condE_f {p q : Prop} : condE (some false) p q = q := by simp [condE]
theorem condE_i {t : Bool} {p q : Prop} (h1 : t = true → p) (h2 : t = false → q) : condE (some t) p q := ⟨h1, h2⟩
theorem vc_skip : vcE P F0 w0 n .skip Q s = Q .normal s := nrfl rfl
theorem vc_region {cs} : vcE P F0 w0 n (.region cs) Q s = RopsE P n cs (Q .normal) s := nrfl rfl
theorem vc_drawn {pre post} : vcE P F0 w0 n (.drawn pre post) Q s = QopsE P n s.objs pre (fun env cr => RopsLE P n post (Q .normal) ⟨env, s.objs ++ cr⟩) s.env [] := nrfl rfl
theorem vc_seq {a b} : vcE P F0 w0 n (.seq a b) Q s = vcE P F0 w0 n a (thenE (vcE P F0 w0 n b Q) Q) s := nrfl rfl
theorem vc_cond {c a b} : vcE P F0 w0 n (.cond c a b) Q s = condE (asB (evE s.env c)) (vcE P F0 w0 n a Q s) (vcE P F0 w0 n b Q s) := nrfl rfl
theorem vc_block {id b} : vcE P F0 w0 n (.block id b) Q s = vcE P F0 w0 n b (inBlockE id Q) s := nrfl rfl
theorem vc_loop {b} : vcE P F0 w0 n (.loop b) Q s = CwpE P F0 w0 n (.loop b) Q s := nrfl rfl
theorem vc_exit {id} : vcE P F0 w0 n (.exit id) Q s = Q (.exit id) s := nrfl rfl
theorem vc_scope {b} : vcE P F0 w0 n (.scope b) Q s = vcE P F0 w0 n b (noGotoE Q) s := nrfl rfl
theorem vc_ret : vcE P F0 w0 n .ret Q s = Q .ret s := nrfl rfl
-- U2
def guardE (o : Option (Option Bool)) (want : Bool) (A B : Prop) : Prop := match o with
  | some b => (b = some want → A) ∧ (b ≠ some want → B)
  | none => False
theorem guardE_congr {o o' : Option (Option Bool)} {w : Bool} {A B : Prop} (h : o = o') : guardE o w A B = guardE o' w A B := by rw [h]
theorem guardE_tt {A B : Prop} : guardE (some (some true)) true A B = A := by simp [guardE]
theorem guardE_ff {A B : Prop} : guardE (some (some false)) false A B = A := by simp [guardE]
theorem guardE_tf {A B : Prop} : guardE (some (some true)) false A B = B := by simp [guardE]
theorem guardE_ft {A B : Prop} : guardE (some (some false)) true A B = B := by simp [guardE]
theorem guardE_n {w : Bool} {A B : Prop} : guardE (some none) w A B = B := by simp [guardE]
/-- No proofs by rfl: a congruence's hypothesis takes none. -/
theorem gdB_b {b : Bool} : gdB (.val (.bool b)) = some (some b) := by cases b <;> rfl
theorem gdB_n : gdB nov = some none := by unfold nov; simp [gdB, undef]
def optK (o : Option (AV × List AObj)) (n : Nat) (d : Option Nat) (env : List (Nat × AV)) (K : Est → Prop) : Prop := match o with
  | some (r, objs) => okD n d ∧ K ⟨putE env d r, objs⟩
  | none => False
theorem optK_some {r : AV} {objs : List AObj} {d : Option Nat} {env : List (Nat × AV)} {K : Est → Prop} : optK (some (r, objs)) n d env K = (okD n d ∧ K ⟨putE env d r, objs⟩) := nrfl rfl
def qK (o : Option (AV × Option AObj)) (n : Nat) (d : Option Nat) (env : List (Nat × AV)) (cr : List AObj) (K : List (Nat × AV) → List AObj → Prop) : Prop := match o with
  | some (r, none) => okD n d ∧ K (putE env d r) cr
  | some (r, some o) => okD n d ∧ K (putE env d r) (cr ++ [o])
  | none => False
theorem qK_none {r : AV} {d : Option Nat} {env : List (Nat × AV)} {cr : List AObj} {K : List (Nat × AV) → List AObj → Prop} : qK (some (r, none)) n d env cr K = (okD n d ∧ K (putE env d r) cr) := nrfl rfl
theorem qK_some {r : AV} {o : AObj} {d : Option Nat} {env : List (Nat × AV)} {cr : List AObj} {K : List (Nat × AV) → List AObj → Prop} : qK (some (r, some o)) n d env cr K = (okD n d ∧ K (putE env d r) (cr ++ [o])) := nrfl rfl
def callK (P : Program) (objs : List AObj) (f : AV) (args : List AV) (d : Option Nat) (env : List (Nat × AV)) (K : Est → Prop) : Prop := ∃ r objs', CallM P true objs f args r objs' ∧ K ⟨putE env d r, objs'⟩
def callQ (P : Program) (objs : List AObj) (f : AV) (args : List AV) (d : Option Nat) (env : List (Nat × AV)) (cr : List AObj) (K : List (Nat × AV) → List AObj → Prop) : Prop := ∃ r objs', CallM P false objs f args r objs' ∧ callX objs objs' cr (K (putE env d r))
theorem callX_same {objs cr : List AObj} {K : List AObj → Prop} : callX objs objs cr K = K cr := propext ⟨fun h => h.elim (·.2) fun ⟨os, hv, he, _⟩ => by
  have := congrArg List.length he
  cases os with
  | nil => cases hv
  | cons o os => simp at this, fun h => .inl ⟨rfl, h⟩⟩
attribute [go_sem] callX_same
def lateK (P : Program) (n : Nat) (ls : List COper) (rest : List (COper × List COper)) (K : Est → Prop) (s : Est) : Prop := LatesE s ls ∧ RopsLE P n rest K s
def drawnK (P : Program) (n : Nat) (post : List (COper × List COper)) (K : Est → Prop) (objs : List AObj) (env : List (Nat × AV)) (cr : List AObj) : Prop := RopsLE P n post K ⟨env, objs ++ cr⟩
theorem vd_drawn {pre post} : vcE P F0 w0 n (.drawn pre post) Q s = QopsE P n s.objs pre (drawnK P n post (Q .normal) s.objs) s.env [] := nrfl rfl
attribute [congr] condE_congr guardE_congr
variable {K : Est → Prop} {rest : List COper} {d : Option Nat} {g : Option (Nat × Bool)}
theorem R_nil : RopsE P n [] K s = K s := nrfl rfl
theorem R_cons {op : COp} : RopsE P n (⟨d, none, op⟩ :: rest) K s = RstepE P n ⟨d, none, op⟩ (RopsE P n rest K) s := nrfl rfl
theorem R_guard {op : COp} {t : Nat} {w : Bool} : RopsE P n (⟨d, some (t, w), op⟩ :: rest) K s = guardE (gdB (lk s.env t)) w (RstepE P n ⟨d, some (t, w), op⟩ (RopsE P n rest K) s) (okD n d ∧ RopsE P n rest K ⟨putE s.env d nov, s.objs⟩) := nrfl rfl
theorem R_call {f : Operand} {args : List Operand} : RstepE P n ⟨d, g, .call f args⟩ K s = (okD n d ∧ callK P s.objs (evE s.env f) (args.map (evE s.env)) d s.env K) := nrfl rfl
theorem RL_nil : RopsLE P n [] K s = K s := nrfl rfl
theorem RL_cons {op : COp} {ls : List COper} {rest : List (COper × List COper)} : RopsLE P n ((⟨d, none, op⟩, ls) :: rest) K s = RstepE P n ⟨d, none, op⟩ (lateK P n ls rest K) s := nrfl rfl
theorem RL_guard {op : COp} {t : Nat} {w : Bool} {ls : List COper} {rest : List (COper × List COper)} : RopsLE P n ((⟨d, some (t, w), op⟩, ls) :: rest) K s = guardE (gdB (lk s.env t)) w (RstepE P n ⟨d, some (t, w), op⟩ (lateK P n ls rest K) s) (okD n d ∧ LatesE ⟨putE s.env d nov, s.objs⟩ ls ∧ RopsLE P n rest K ⟨putE s.env d nov, s.objs⟩) := nrfl rfl
variable {objs0 : List AObj} {KQ : List (Nat × AV) → List AObj → Prop} {env : List (Nat × AV)} {cr : List AObj}
theorem Q_nil : QopsE P n objs0 [] KQ env cr = KQ env cr := nrfl rfl
theorem Q_call {f : Operand} {args : List Operand} : QopsE P n objs0 (⟨d, none, .call f args⟩ :: rest) KQ env cr = (okD n d ∧ callQ P objs0 (evE env f) (args.map (evE env)) d env cr (QopsE P n objs0 rest KQ)) := nrfl rfl
theorem Q_gcall {f : Operand} {args : List Operand} {t : Nat} {w : Bool} : QopsE P n objs0 (⟨d, some (t, w), .call f args⟩ :: rest) KQ env cr = guardE (gdB (lk env t)) w (okD n d ∧ callQ P objs0 (evE env f) (args.map (evE env)) d env cr (QopsE P n objs0 rest KQ)) (okD n d ∧ QopsE P n objs0 rest KQ (putE env d nov) cr) := nrfl rfl
theorem R_mov {x : Operand} : RstepE P n ⟨d, g, .mov x⟩ K s = optK (step1 s.objs (evE s.env) (.mov x)) n d s.env K := nrfl rfl
theorem Q_mov {x : Operand} : QopsE P n objs0 (⟨d, none, .mov x⟩ :: rest) KQ env cr = (qK (qstepK (objs0 ++ cr) objs0 (evE env) (objs0.length + cr.length) (.mov x)) n d env cr (QopsE P n objs0 rest KQ)) := nrfl rfl
theorem Q_gmov {x : Operand} {t : Nat} {w : Bool} : QopsE P n objs0 (⟨d, some (t, w), .mov x⟩ :: rest) KQ env cr = guardE (gdB (lk env t)) w (qK (qstepK (objs0 ++ cr) objs0 (evE env) (objs0.length + cr.length) (.mov x)) n d env cr (QopsE P n objs0 rest KQ)) (okD n d ∧ QopsE P n objs0 rest KQ (putE env d nov) cr) := nrfl rfl
theorem R_pick {c a b : Operand} : RstepE P n ⟨d, g, .pick c a b⟩ K s = optK (step1 s.objs (evE s.env) (.pick c a b)) n d s.env K := nrfl rfl
theorem Q_pick {c a b : Operand} : QopsE P n objs0 (⟨d, none, .pick c a b⟩ :: rest) KQ env cr = (qK (qstepK (objs0 ++ cr) objs0 (evE env) (objs0.length + cr.length) (.pick c a b)) n d env cr (QopsE P n objs0 rest KQ)) := nrfl rfl
theorem Q_gpick {c a b : Operand} {t : Nat} {w : Bool} : QopsE P n objs0 (⟨d, some (t, w), .pick c a b⟩ :: rest) KQ env cr = guardE (gdB (lk env t)) w (qK (qstepK (objs0 ++ cr) objs0 (evE env) (objs0.length + cr.length) (.pick c a b)) n d env cr (QopsE P n objs0 rest KQ)) (okD n d ∧ QopsE P n objs0 rest KQ (putE env d nov) cr) := nrfl rfl
theorem R_alloc {elem : TypeId} {z : AV} : RstepE P n ⟨d, g, .alloc elem z⟩ K s = optK (step1 s.objs (evE s.env) (.alloc elem z)) n d s.env K := nrfl rfl
theorem Q_alloc {elem : TypeId} {z : AV} : QopsE P n objs0 (⟨d, none, .alloc elem z⟩ :: rest) KQ env cr = (qK (qstepK (objs0 ++ cr) objs0 (evE env) (objs0.length + cr.length) (.alloc elem z)) n d env cr (QopsE P n objs0 rest KQ)) := nrfl rfl
theorem Q_galloc {elem : TypeId} {z : AV} {t : Nat} {w : Bool} : QopsE P n objs0 (⟨d, some (t, w), .alloc elem z⟩ :: rest) KQ env cr = guardE (gdB (lk env t)) w (qK (qstepK (objs0 ++ cr) objs0 (evE env) (objs0.length + cr.length) (.alloc elem z)) n d env cr (QopsE P n objs0 rest KQ)) (okD n d ∧ QopsE P n objs0 rest KQ (putE env d nov) cr) := nrfl rfl
theorem R_box {elem : TypeId} {x : Operand} : RstepE P n ⟨d, g, .box elem x⟩ K s = optK (step1 s.objs (evE s.env) (.box elem x)) n d s.env K := nrfl rfl
theorem Q_box {elem : TypeId} {x : Operand} : QopsE P n objs0 (⟨d, none, .box elem x⟩ :: rest) KQ env cr = (qK (qstepK (objs0 ++ cr) objs0 (evE env) (objs0.length + cr.length) (.box elem x)) n d env cr (QopsE P n objs0 rest KQ)) := nrfl rfl
theorem Q_gbox {elem : TypeId} {x : Operand} {t : Nat} {w : Bool} : QopsE P n objs0 (⟨d, some (t, w), .box elem x⟩ :: rest) KQ env cr = guardE (gdB (lk env t)) w (qK (qstepK (objs0 ++ cr) objs0 (evE env) (objs0.length + cr.length) (.box elem x)) n d env cr (QopsE P n objs0 rest KQ)) (okD n d ∧ QopsE P n objs0 rest KQ (putE env d nov) cr) := nrfl rfl
theorem R_load {agg : Bool} {m : Nat} {x : Operand} : RstepE P n ⟨d, g, .load agg m x⟩ K s = optK (step1 s.objs (evE s.env) (.load agg m x)) n d s.env K := nrfl rfl
theorem Q_load {agg : Bool} {m : Nat} {x : Operand} : QopsE P n objs0 (⟨d, none, .load agg m x⟩ :: rest) KQ env cr = (qK (qstepK (objs0 ++ cr) objs0 (evE env) (objs0.length + cr.length) (.load agg m x)) n d env cr (QopsE P n objs0 rest KQ)) := nrfl rfl
theorem Q_gload {agg : Bool} {m : Nat} {x : Operand} {t : Nat} {w : Bool} : QopsE P n objs0 (⟨d, some (t, w), .load agg m x⟩ :: rest) KQ env cr = guardE (gdB (lk env t)) w (qK (qstepK (objs0 ++ cr) objs0 (evE env) (objs0.length + cr.length) (.load agg m x)) n d env cr (QopsE P n objs0 rest KQ)) (okD n d ∧ QopsE P n objs0 rest KQ (putE env d nov) cr) := nrfl rfl
theorem R_nilCheck {x : Operand} : RstepE P n ⟨d, g, .nilCheck x⟩ K s = optK (step1 s.objs (evE s.env) (.nilCheck x)) n d s.env K := nrfl rfl
theorem Q_nilCheck {x : Operand} : QopsE P n objs0 (⟨d, none, .nilCheck x⟩ :: rest) KQ env cr = (qK (qstepK (objs0 ++ cr) objs0 (evE env) (objs0.length + cr.length) (.nilCheck x)) n d env cr (QopsE P n objs0 rest KQ)) := nrfl rfl
theorem Q_gnilCheck {x : Operand} {t : Nat} {w : Bool} : QopsE P n objs0 (⟨d, some (t, w), .nilCheck x⟩ :: rest) KQ env cr = guardE (gdB (lk env t)) w (qK (qstepK (objs0 ++ cr) objs0 (evE env) (objs0.length + cr.length) (.nilCheck x)) n d env cr (QopsE P n objs0 rest KQ)) (okD n d ∧ QopsE P n objs0 rest KQ (putE env d nov) cr) := nrfl rfl
theorem R_ibin {op : BinOp} {x y : Operand} : RstepE P n ⟨d, g, .ibin op x y⟩ K s = optK (step1 s.objs (evE s.env) (.ibin op x y)) n d s.env K := nrfl rfl
theorem Q_ibin {op : BinOp} {x y : Operand} : QopsE P n objs0 (⟨d, none, .ibin op x y⟩ :: rest) KQ env cr = (qK (qstepK (objs0 ++ cr) objs0 (evE env) (objs0.length + cr.length) (.ibin op x y)) n d env cr (QopsE P n objs0 rest KQ)) := nrfl rfl
theorem Q_gibin {op : BinOp} {x y : Operand} {t : Nat} {w : Bool} : QopsE P n objs0 (⟨d, some (t, w), .ibin op x y⟩ :: rest) KQ env cr = guardE (gdB (lk env t)) w (qK (qstepK (objs0 ++ cr) objs0 (evE env) (objs0.length + cr.length) (.ibin op x y)) n d env cr (QopsE P n objs0 rest KQ)) (okD n d ∧ QopsE P n objs0 rest KQ (putE env d nov) cr) := nrfl rfl
theorem R_bbin {op : BinOp} {x y : Operand} : RstepE P n ⟨d, g, .bbin op x y⟩ K s = optK (step1 s.objs (evE s.env) (.bbin op x y)) n d s.env K := nrfl rfl
theorem Q_bbin {op : BinOp} {x y : Operand} : QopsE P n objs0 (⟨d, none, .bbin op x y⟩ :: rest) KQ env cr = (qK (qstepK (objs0 ++ cr) objs0 (evE env) (objs0.length + cr.length) (.bbin op x y)) n d env cr (QopsE P n objs0 rest KQ)) := nrfl rfl
theorem Q_gbbin {op : BinOp} {x y : Operand} {t : Nat} {w : Bool} : QopsE P n objs0 (⟨d, some (t, w), .bbin op x y⟩ :: rest) KQ env cr = guardE (gdB (lk env t)) w (qK (qstepK (objs0 ++ cr) objs0 (evE env) (objs0.length + cr.length) (.bbin op x y)) n d env cr (QopsE P n objs0 rest KQ)) (okD n d ∧ QopsE P n objs0 rest KQ (putE env d nov) cr) := nrfl rfl
theorem R_aeq {neg : Bool} {m : Nat} {x y : Operand} : RstepE P n ⟨d, g, .aeq neg m x y⟩ K s = optK (step1 s.objs (evE s.env) (.aeq neg m x y)) n d s.env K := nrfl rfl
theorem Q_aeq {neg : Bool} {m : Nat} {x y : Operand} : QopsE P n objs0 (⟨d, none, .aeq neg m x y⟩ :: rest) KQ env cr = (qK (qstepK (objs0 ++ cr) objs0 (evE env) (objs0.length + cr.length) (.aeq neg m x y)) n d env cr (QopsE P n objs0 rest KQ)) := nrfl rfl
theorem Q_gaeq {neg : Bool} {m : Nat} {x y : Operand} {t : Nat} {w : Bool} : QopsE P n objs0 (⟨d, some (t, w), .aeq neg m x y⟩ :: rest) KQ env cr = guardE (gdB (lk env t)) w (qK (qstepK (objs0 ++ cr) objs0 (evE env) (objs0.length + cr.length) (.aeq neg m x y)) n d env cr (QopsE P n objs0 rest KQ)) (okD n d ∧ QopsE P n objs0 rest KQ (putE env d nov) cr) := nrfl rfl
theorem R_neg {x : Operand} : RstepE P n ⟨d, g, .neg x⟩ K s = optK (step1 s.objs (evE s.env) (.neg x)) n d s.env K := nrfl rfl
theorem Q_neg {x : Operand} : QopsE P n objs0 (⟨d, none, .neg x⟩ :: rest) KQ env cr = (qK (qstepK (objs0 ++ cr) objs0 (evE env) (objs0.length + cr.length) (.neg x)) n d env cr (QopsE P n objs0 rest KQ)) := nrfl rfl
theorem Q_gneg {x : Operand} {t : Nat} {w : Bool} : QopsE P n objs0 (⟨d, some (t, w), .neg x⟩ :: rest) KQ env cr = guardE (gdB (lk env t)) w (qK (qstepK (objs0 ++ cr) objs0 (evE env) (objs0.length + cr.length) (.neg x)) n d env cr (QopsE P n objs0 rest KQ)) (okD n d ∧ QopsE P n objs0 rest KQ (putE env d nov) cr) := nrfl rfl
theorem R_lnot {x : Operand} : RstepE P n ⟨d, g, .lnot x⟩ K s = optK (step1 s.objs (evE s.env) (.lnot x)) n d s.env K := nrfl rfl
theorem Q_lnot {x : Operand} : QopsE P n objs0 (⟨d, none, .lnot x⟩ :: rest) KQ env cr = (qK (qstepK (objs0 ++ cr) objs0 (evE env) (objs0.length + cr.length) (.lnot x)) n d env cr (QopsE P n objs0 rest KQ)) := nrfl rfl
theorem Q_glnot {x : Operand} {t : Nat} {w : Bool} : QopsE P n objs0 (⟨d, some (t, w), .lnot x⟩ :: rest) KQ env cr = guardE (gdB (lk env t)) w (qK (qstepK (objs0 ++ cr) objs0 (evE env) (objs0.length + cr.length) (.lnot x)) n d env cr (QopsE P n objs0 rest KQ)) (okD n d ∧ QopsE P n objs0 rest KQ (putE env d nov) cr) := nrfl rfl
theorem R_conv {k : IntKind} {x : Operand} : RstepE P n ⟨d, g, .conv k x⟩ K s = optK (step1 s.objs (evE s.env) (.conv k x)) n d s.env K := nrfl rfl
theorem Q_conv {k : IntKind} {x : Operand} : QopsE P n objs0 (⟨d, none, .conv k x⟩ :: rest) KQ env cr = (qK (qstepK (objs0 ++ cr) objs0 (evE env) (objs0.length + cr.length) (.conv k x)) n d env cr (QopsE P n objs0 rest KQ)) := nrfl rfl
theorem Q_gconv {k : IntKind} {x : Operand} {t : Nat} {w : Bool} : QopsE P n objs0 (⟨d, some (t, w), .conv k x⟩ :: rest) KQ env cr = guardE (gdB (lk env t)) w (qK (qstepK (objs0 ++ cr) objs0 (evE env) (objs0.length + cr.length) (.conv k x)) n d env cr (QopsE P n objs0 rest KQ)) (okD n d ∧ QopsE P n objs0 rest KQ (putE env d nov) cr) := nrfl rfl
theorem R_fieldAddr {off : Nat} {x : Operand} : RstepE P n ⟨d, g, .fieldAddr off x⟩ K s = optK (step1 s.objs (evE s.env) (.fieldAddr off x)) n d s.env K := nrfl rfl
theorem Q_fieldAddr {off : Nat} {x : Operand} : QopsE P n objs0 (⟨d, none, .fieldAddr off x⟩ :: rest) KQ env cr = (qK (qstepK (objs0 ++ cr) objs0 (evE env) (objs0.length + cr.length) (.fieldAddr off x)) n d env cr (QopsE P n objs0 rest KQ)) := nrfl rfl
theorem Q_gfieldAddr {off : Nat} {x : Operand} {t : Nat} {w : Bool} : QopsE P n objs0 (⟨d, some (t, w), .fieldAddr off x⟩ :: rest) KQ env cr = guardE (gdB (lk env t)) w (qK (qstepK (objs0 ++ cr) objs0 (evE env) (objs0.length + cr.length) (.fieldAddr off x)) n d env cr (QopsE P n objs0 rest KQ)) (okD n d ∧ QopsE P n objs0 rest KQ (putE env d nov) cr) := nrfl rfl
theorem R_field {agg : Bool} {off m : Nat} {x : Operand} : RstepE P n ⟨d, g, .field agg off m x⟩ K s = optK (step1 s.objs (evE s.env) (.field agg off m x)) n d s.env K := nrfl rfl
theorem Q_field {agg : Bool} {off m : Nat} {x : Operand} : QopsE P n objs0 (⟨d, none, .field agg off m x⟩ :: rest) KQ env cr = (qK (qstepK (objs0 ++ cr) objs0 (evE env) (objs0.length + cr.length) (.field agg off m x)) n d env cr (QopsE P n objs0 rest KQ)) := nrfl rfl
theorem Q_gfield {agg : Bool} {off m : Nat} {x : Operand} {t : Nat} {w : Bool} : QopsE P n objs0 (⟨d, some (t, w), .field agg off m x⟩ :: rest) KQ env cr = guardE (gdB (lk env t)) w (qK (qstepK (objs0 ++ cr) objs0 (evE env) (objs0.length + cr.length) (.field agg off m x)) n d env cr (QopsE P n objs0 rest KQ)) (okD n d ∧ QopsE P n objs0 rest KQ (putE env d nov) cr) := nrfl rfl
theorem R_idxS {size : Nat} {x i : Operand} : RstepE P n ⟨d, g, .idxS size x i⟩ K s = optK (step1 s.objs (evE s.env) (.idxS size x i)) n d s.env K := nrfl rfl
theorem Q_idxS {size : Nat} {x i : Operand} : QopsE P n objs0 (⟨d, none, .idxS size x i⟩ :: rest) KQ env cr = (qK (qstepK (objs0 ++ cr) objs0 (evE env) (objs0.length + cr.length) (.idxS size x i)) n d env cr (QopsE P n objs0 rest KQ)) := nrfl rfl
theorem Q_gidxS {size : Nat} {x i : Operand} {t : Nat} {w : Bool} : QopsE P n objs0 (⟨d, some (t, w), .idxS size x i⟩ :: rest) KQ env cr = guardE (gdB (lk env t)) w (qK (qstepK (objs0 ++ cr) objs0 (evE env) (objs0.length + cr.length) (.idxS size x i)) n d env cr (QopsE P n objs0 rest KQ)) (okD n d ∧ QopsE P n objs0 rest KQ (putE env d nov) cr) := nrfl rfl
theorem R_idxA {len size : Nat} {x i : Operand} : RstepE P n ⟨d, g, .idxA len size x i⟩ K s = optK (step1 s.objs (evE s.env) (.idxA len size x i)) n d s.env K := nrfl rfl
theorem Q_idxA {len size : Nat} {x i : Operand} : QopsE P n objs0 (⟨d, none, .idxA len size x i⟩ :: rest) KQ env cr = (qK (qstepK (objs0 ++ cr) objs0 (evE env) (objs0.length + cr.length) (.idxA len size x i)) n d env cr (QopsE P n objs0 rest KQ)) := nrfl rfl
theorem Q_gidxA {len size : Nat} {x i : Operand} {t : Nat} {w : Bool} : QopsE P n objs0 (⟨d, some (t, w), .idxA len size x i⟩ :: rest) KQ env cr = guardE (gdB (lk env t)) w (qK (qstepK (objs0 ++ cr) objs0 (evE env) (objs0.length + cr.length) (.idxA len size x i)) n d env cr (QopsE P n objs0 rest KQ)) (okD n d ∧ QopsE P n objs0 rest KQ (putE env d nov) cr) := nrfl rfl
theorem R_idxV {agg : Bool} {len size : Nat} {x i : Operand} : RstepE P n ⟨d, g, .idxV agg len size x i⟩ K s = optK (step1 s.objs (evE s.env) (.idxV agg len size x i)) n d s.env K := nrfl rfl
theorem Q_idxV {agg : Bool} {len size : Nat} {x i : Operand} : QopsE P n objs0 (⟨d, none, .idxV agg len size x i⟩ :: rest) KQ env cr = (qK (qstepK (objs0 ++ cr) objs0 (evE env) (objs0.length + cr.length) (.idxV agg len size x i)) n d env cr (QopsE P n objs0 rest KQ)) := nrfl rfl
theorem Q_gidxV {agg : Bool} {len size : Nat} {x i : Operand} {t : Nat} {w : Bool} : QopsE P n objs0 (⟨d, some (t, w), .idxV agg len size x i⟩ :: rest) KQ env cr = guardE (gdB (lk env t)) w (qK (qstepK (objs0 ++ cr) objs0 (evE env) (objs0.length + cr.length) (.idxV agg len size x i)) n d env cr (QopsE P n objs0 rest KQ)) (okD n d ∧ QopsE P n objs0 rest KQ (putE env d nov) cr) := nrfl rfl
theorem R_extract {x : Operand} {i : Nat} : RstepE P n ⟨d, g, .extract x i⟩ K s = optK (step1 s.objs (evE s.env) (.extract x i)) n d s.env K := nrfl rfl
theorem Q_extract {x : Operand} {i : Nat} : QopsE P n objs0 (⟨d, none, .extract x i⟩ :: rest) KQ env cr = (qK (qstepK (objs0 ++ cr) objs0 (evE env) (objs0.length + cr.length) (.extract x i)) n d env cr (QopsE P n objs0 rest KQ)) := nrfl rfl
theorem Q_gextract {x : Operand} {i : Nat} {t : Nat} {w : Bool} : QopsE P n objs0 (⟨d, some (t, w), .extract x i⟩ :: rest) KQ env cr = guardE (gdB (lk env t)) w (qK (qstepK (objs0 ++ cr) objs0 (evE env) (objs0.length + cr.length) (.extract x i)) n d env cr (QopsE P n objs0 rest KQ)) (okD n d ∧ QopsE P n objs0 rest KQ (putE env d nov) cr) := nrfl rfl
theorem R_slice {size : Nat} {x : Operand} {lo hi : Option Operand} : RstepE P n ⟨d, g, .slice size x lo hi⟩ K s = optK (step1 s.objs (evE s.env) (.slice size x lo hi)) n d s.env K := nrfl rfl
theorem Q_slice {size : Nat} {x : Operand} {lo hi : Option Operand} : QopsE P n objs0 (⟨d, none, .slice size x lo hi⟩ :: rest) KQ env cr = (qK (qstepK (objs0 ++ cr) objs0 (evE env) (objs0.length + cr.length) (.slice size x lo hi)) n d env cr (QopsE P n objs0 rest KQ)) := nrfl rfl
theorem Q_gslice {size : Nat} {x : Operand} {lo hi : Option Operand} {t : Nat} {w : Bool} : QopsE P n objs0 (⟨d, some (t, w), .slice size x lo hi⟩ :: rest) KQ env cr = guardE (gdB (lk env t)) w (qK (qstepK (objs0 ++ cr) objs0 (evE env) (objs0.length + cr.length) (.slice size x lo hi)) n d env cr (QopsE P n objs0 rest KQ)) (okD n d ∧ QopsE P n objs0 rest KQ (putE env d nov) cr) := nrfl rfl
theorem R_slice3 {size : Nat} {x : Operand} {lo : Option Operand} {hi mx : Operand} : RstepE P n ⟨d, g, .slice3 size x lo hi mx⟩ K s = optK (step1 s.objs (evE s.env) (.slice3 size x lo hi mx)) n d s.env K := nrfl rfl
theorem Q_slice3 {size : Nat} {x : Operand} {lo : Option Operand} {hi mx : Operand} : QopsE P n objs0 (⟨d, none, .slice3 size x lo hi mx⟩ :: rest) KQ env cr = (qK (qstepK (objs0 ++ cr) objs0 (evE env) (objs0.length + cr.length) (.slice3 size x lo hi mx)) n d env cr (QopsE P n objs0 rest KQ)) := nrfl rfl
theorem Q_gslice3 {size : Nat} {x : Operand} {lo : Option Operand} {hi mx : Operand} {t : Nat} {w : Bool} : QopsE P n objs0 (⟨d, some (t, w), .slice3 size x lo hi mx⟩ :: rest) KQ env cr = guardE (gdB (lk env t)) w (qK (qstepK (objs0 ++ cr) objs0 (evE env) (objs0.length + cr.length) (.slice3 size x lo hi mx)) n d env cr (QopsE P n objs0 rest KQ)) (okD n d ∧ QopsE P n objs0 rest KQ (putE env d nov) cr) := nrfl rfl
theorem R_mkslice {elem : TypeId} {size bytes : Nat} {z : AV} {len cap : Operand} : RstepE P n ⟨d, g, .mkslice elem size bytes z len cap⟩ K s = optK (step1 s.objs (evE s.env) (.mkslice elem size bytes z len cap)) n d s.env K := nrfl rfl
theorem Q_mkslice {elem : TypeId} {size bytes : Nat} {z : AV} {len cap : Operand} : QopsE P n objs0 (⟨d, none, .mkslice elem size bytes z len cap⟩ :: rest) KQ env cr = (qK (qstepK (objs0 ++ cr) objs0 (evE env) (objs0.length + cr.length) (.mkslice elem size bytes z len cap)) n d env cr (QopsE P n objs0 rest KQ)) := nrfl rfl
theorem Q_gmkslice {elem : TypeId} {size bytes : Nat} {z : AV} {len cap : Operand} {t : Nat} {w : Bool} : QopsE P n objs0 (⟨d, some (t, w), .mkslice elem size bytes z len cap⟩ :: rest) KQ env cr = guardE (gdB (lk env t)) w (qK (qstepK (objs0 ++ cr) objs0 (evE env) (objs0.length + cr.length) (.mkslice elem size bytes z len cap)) n d env cr (QopsE P n objs0 rest KQ)) (okD n d ∧ QopsE P n objs0 rest KQ (putE env d nov) cr) := nrfl rfl
theorem R_build {z : List AV} {parts : List (Nat × Nat × Operand)} : RstepE P n ⟨d, g, .build z parts⟩ K s = optK (step1 s.objs (evE s.env) (.build z parts)) n d s.env K := nrfl rfl
theorem Q_build {z : List AV} {parts : List (Nat × Nat × Operand)} : QopsE P n objs0 (⟨d, none, .build z parts⟩ :: rest) KQ env cr = (qK (qstepK (objs0 ++ cr) objs0 (evE env) (objs0.length + cr.length) (.build z parts)) n d env cr (QopsE P n objs0 rest KQ)) := nrfl rfl
theorem Q_gbuild {z : List AV} {parts : List (Nat × Nat × Operand)} {t : Nat} {w : Bool} : QopsE P n objs0 (⟨d, some (t, w), .build z parts⟩ :: rest) KQ env cr = guardE (gdB (lk env t)) w (qK (qstepK (objs0 ++ cr) objs0 (evE env) (objs0.length + cr.length) (.build z parts)) n d env cr (QopsE P n objs0 rest KQ)) (okD n d ∧ QopsE P n objs0 rest KQ (putE env d nov) cr) := nrfl rfl
theorem R_bslice {elem : TypeId} {size : Nat} {parts : List Operand} : RstepE P n ⟨d, g, .bslice elem size parts⟩ K s = optK (step1 s.objs (evE s.env) (.bslice elem size parts)) n d s.env K := nrfl rfl
theorem Q_bslice {elem : TypeId} {size : Nat} {parts : List Operand} : QopsE P n objs0 (⟨d, none, .bslice elem size parts⟩ :: rest) KQ env cr = (qK (qstepK (objs0 ++ cr) objs0 (evE env) (objs0.length + cr.length) (.bslice elem size parts)) n d env cr (QopsE P n objs0 rest KQ)) := nrfl rfl
theorem Q_gbslice {elem : TypeId} {size : Nat} {parts : List Operand} {t : Nat} {w : Bool} : QopsE P n objs0 (⟨d, some (t, w), .bslice elem size parts⟩ :: rest) KQ env cr = guardE (gdB (lk env t)) w (qK (qstepK (objs0 ++ cr) objs0 (evE env) (objs0.length + cr.length) (.bslice elem size parts)) n d env cr (QopsE P n objs0 rest KQ)) (okD n d ∧ QopsE P n objs0 rest KQ (putE env d nov) cr) := nrfl rfl
theorem R_len {x : Operand} : RstepE P n ⟨d, g, .len x⟩ K s = optK (step1 s.objs (evE s.env) (.len x)) n d s.env K := nrfl rfl
theorem Q_len {x : Operand} : QopsE P n objs0 (⟨d, none, .len x⟩ :: rest) KQ env cr = (qK (qstepK (objs0 ++ cr) objs0 (evE env) (objs0.length + cr.length) (.len x)) n d env cr (QopsE P n objs0 rest KQ)) := nrfl rfl
theorem Q_glen {x : Operand} {t : Nat} {w : Bool} : QopsE P n objs0 (⟨d, some (t, w), .len x⟩ :: rest) KQ env cr = guardE (gdB (lk env t)) w (qK (qstepK (objs0 ++ cr) objs0 (evE env) (objs0.length + cr.length) (.len x)) n d env cr (QopsE P n objs0 rest KQ)) (okD n d ∧ QopsE P n objs0 rest KQ (putE env d nov) cr) := nrfl rfl
theorem R_lenA {m : Nat} : RstepE P n ⟨d, g, .lenA m⟩ K s = optK (step1 s.objs (evE s.env) (.lenA m)) n d s.env K := nrfl rfl
theorem Q_lenA {m : Nat} : QopsE P n objs0 (⟨d, none, .lenA m⟩ :: rest) KQ env cr = (qK (qstepK (objs0 ++ cr) objs0 (evE env) (objs0.length + cr.length) (.lenA m)) n d env cr (QopsE P n objs0 rest KQ)) := nrfl rfl
theorem Q_glenA {m : Nat} {t : Nat} {w : Bool} : QopsE P n objs0 (⟨d, some (t, w), .lenA m⟩ :: rest) KQ env cr = guardE (gdB (lk env t)) w (qK (qstepK (objs0 ++ cr) objs0 (evE env) (objs0.length + cr.length) (.lenA m)) n d env cr (QopsE P n objs0 rest KQ)) (okD n d ∧ QopsE P n objs0 rest KQ (putE env d nov) cr) := nrfl rfl
theorem R_imin {x y : Operand} : RstepE P n ⟨d, g, .imin x y⟩ K s = optK (step1 s.objs (evE s.env) (.imin x y)) n d s.env K := nrfl rfl
theorem Q_imin {x y : Operand} : QopsE P n objs0 (⟨d, none, .imin x y⟩ :: rest) KQ env cr = (qK (qstepK (objs0 ++ cr) objs0 (evE env) (objs0.length + cr.length) (.imin x y)) n d env cr (QopsE P n objs0 rest KQ)) := nrfl rfl
theorem Q_gimin {x y : Operand} {t : Nat} {w : Bool} : QopsE P n objs0 (⟨d, some (t, w), .imin x y⟩ :: rest) KQ env cr = guardE (gdB (lk env t)) w (qK (qstepK (objs0 ++ cr) objs0 (evE env) (objs0.length + cr.length) (.imin x y)) n d env cr (QopsE P n objs0 rest KQ)) (okD n d ∧ QopsE P n objs0 rest KQ (putE env d nov) cr) := nrfl rfl
theorem R_imax {x y : Operand} : RstepE P n ⟨d, g, .imax x y⟩ K s = optK (step1 s.objs (evE s.env) (.imax x y)) n d s.env K := nrfl rfl
theorem Q_imax {x y : Operand} : QopsE P n objs0 (⟨d, none, .imax x y⟩ :: rest) KQ env cr = (qK (qstepK (objs0 ++ cr) objs0 (evE env) (objs0.length + cr.length) (.imax x y)) n d env cr (QopsE P n objs0 rest KQ)) := nrfl rfl
theorem Q_gimax {x y : Operand} {t : Nat} {w : Bool} : QopsE P n objs0 (⟨d, some (t, w), .imax x y⟩ :: rest) KQ env cr = guardE (gdB (lk env t)) w (qK (qstepK (objs0 ++ cr) objs0 (evE env) (objs0.length + cr.length) (.imax x y)) n d env cr (QopsE P n objs0 rest KQ)) (okD n d ∧ QopsE P n objs0 rest KQ (putE env d nov) cr) := nrfl rfl
theorem R_mkfunc {fn : Fn} {cap : List Operand} : RstepE P n ⟨d, g, .mkfunc fn cap⟩ K s = optK (step1 s.objs (evE s.env) (.mkfunc fn cap)) n d s.env K := nrfl rfl
theorem Q_mkfunc {fn : Fn} {cap : List Operand} : QopsE P n objs0 (⟨d, none, .mkfunc fn cap⟩ :: rest) KQ env cr = (qK (qstepK (objs0 ++ cr) objs0 (evE env) (objs0.length + cr.length) (.mkfunc fn cap)) n d env cr (QopsE P n objs0 rest KQ)) := nrfl rfl
theorem Q_gmkfunc {fn : Fn} {cap : List Operand} {t : Nat} {w : Bool} : QopsE P n objs0 (⟨d, some (t, w), .mkfunc fn cap⟩ :: rest) KQ env cr = guardE (gdB (lk env t)) w (qK (qstepK (objs0 ++ cr) objs0 (evE env) (objs0.length + cr.length) (.mkfunc fn cap)) n d env cr (QopsE P n objs0 rest KQ)) (okD n d ∧ QopsE P n objs0 rest KQ (putE env d nov) cr) := nrfl rfl
theorem R_store {m : Nat} {x v : Operand} : RstepE P n ⟨d, g, .store m x v⟩ K s = optK (step1 s.objs (evE s.env) (.store m x v)) n d s.env K := nrfl rfl
theorem Q_store {m : Nat} {x v : Operand} : QopsE P n objs0 (⟨d, none, .store m x v⟩ :: rest) KQ env cr = (qK (qstepK (objs0 ++ cr) objs0 (evE env) (objs0.length + cr.length) (.store m x v)) n d env cr (QopsE P n objs0 rest KQ)) := nrfl rfl
theorem Q_gstore {m : Nat} {x v : Operand} {t : Nat} {w : Bool} : QopsE P n objs0 (⟨d, some (t, w), .store m x v⟩ :: rest) KQ env cr = guardE (gdB (lk env t)) w (qK (qstepK (objs0 ++ cr) objs0 (evE env) (objs0.length + cr.length) (.store m x v)) n d env cr (QopsE P n objs0 rest KQ)) (okD n d ∧ QopsE P n objs0 rest KQ (putE env d nov) cr) := nrfl rfl
theorem R_append {elem : TypeId} {size bytes : Nat} {sl x : Operand} : RstepE P n ⟨d, g, .append elem size bytes sl x⟩ K s = optK (step1 s.objs (evE s.env) (.append elem size bytes sl x)) n d s.env K := nrfl rfl
theorem Q_append {elem : TypeId} {size bytes : Nat} {sl x : Operand} : QopsE P n objs0 (⟨d, none, .append elem size bytes sl x⟩ :: rest) KQ env cr = (qK (qstepK (objs0 ++ cr) objs0 (evE env) (objs0.length + cr.length) (.append elem size bytes sl x)) n d env cr (QopsE P n objs0 rest KQ)) := nrfl rfl
theorem Q_gappend {elem : TypeId} {size bytes : Nat} {sl x : Operand} {t : Nat} {w : Bool} : QopsE P n objs0 (⟨d, some (t, w), .append elem size bytes sl x⟩ :: rest) KQ env cr = guardE (gdB (lk env t)) w (qK (qstepK (objs0 ++ cr) objs0 (evE env) (objs0.length + cr.length) (.append elem size bytes sl x)) n d env cr (QopsE P n objs0 rest KQ)) (okD n d ∧ QopsE P n objs0 rest KQ (putE env d nov) cr) := nrfl rfl
theorem R_isNil {sl neg : Bool} {x y : Operand} : RstepE P n ⟨d, g, .isNil sl neg x y⟩ K s = optK (step1 s.objs (evE s.env) (.isNil sl neg x y)) n d s.env K := nrfl rfl
theorem Q_isNil {sl neg : Bool} {x y : Operand} : QopsE P n objs0 (⟨d, none, .isNil sl neg x y⟩ :: rest) KQ env cr = (qK (qstepK (objs0 ++ cr) objs0 (evE env) (objs0.length + cr.length) (.isNil sl neg x y)) n d env cr (QopsE P n objs0 rest KQ)) := nrfl rfl
theorem Q_gisNil {sl neg : Bool} {x y : Operand} {t : Nat} {w : Bool} : QopsE P n objs0 (⟨d, some (t, w), .isNil sl neg x y⟩ :: rest) KQ env cr = guardE (gdB (lk env t)) w (qK (qstepK (objs0 ++ cr) objs0 (evE env) (objs0.length + cr.length) (.isNil sl neg x y)) n d env cr (QopsE P n objs0 rest KQ)) (okD n d ∧ QopsE P n objs0 rest KQ (putE env d nov) cr) := nrfl rfl
theorem R_copy {m : Nat} {x y : Operand} : RstepE P n ⟨d, g, .copy m x y⟩ K s = optK (step1 s.objs (evE s.env) (.copy m x y)) n d s.env K := nrfl rfl
theorem Q_copy {m : Nat} {x y : Operand} : QopsE P n objs0 (⟨d, none, .copy m x y⟩ :: rest) KQ env cr = (qK (qstepK (objs0 ++ cr) objs0 (evE env) (objs0.length + cr.length) (.copy m x y)) n d env cr (QopsE P n objs0 rest KQ)) := nrfl rfl
theorem Q_gcopy {m : Nat} {x y : Operand} {t : Nat} {w : Bool} : QopsE P n objs0 (⟨d, some (t, w), .copy m x y⟩ :: rest) KQ env cr = guardE (gdB (lk env t)) w (qK (qstepK (objs0 ++ cr) objs0 (evE env) (objs0.length + cr.length) (.copy m x y)) n d env cr (QopsE P n objs0 rest KQ)) (okD n d ∧ QopsE P n objs0 rest KQ (putE env d nov) cr) := nrfl rfl
theorem R_appendZ {elem : TypeId} {size bytes : Nat} {z : AV} {sl x : Operand} : RstepE P n ⟨d, g, .appendZ elem size bytes z sl x⟩ K s = optK (step1 s.objs (evE s.env) (.appendZ elem size bytes z sl x)) n d s.env K := nrfl rfl
theorem Q_appendZ {elem : TypeId} {size bytes : Nat} {z : AV} {sl x : Operand} : QopsE P n objs0 (⟨d, none, .appendZ elem size bytes z sl x⟩ :: rest) KQ env cr = (qK (qstepK (objs0 ++ cr) objs0 (evE env) (objs0.length + cr.length) (.appendZ elem size bytes z sl x)) n d env cr (QopsE P n objs0 rest KQ)) := nrfl rfl
theorem Q_gappendZ {elem : TypeId} {size bytes : Nat} {z : AV} {sl x : Operand} {t : Nat} {w : Bool} : QopsE P n objs0 (⟨d, some (t, w), .appendZ elem size bytes z sl x⟩ :: rest) KQ env cr = guardE (gdB (lk env t)) w (qK (qstepK (objs0 ++ cr) objs0 (evE env) (objs0.length + cr.length) (.appendZ elem size bytes z sl x)) n d env cr (QopsE P n objs0 rest KQ)) (okD n d ∧ QopsE P n objs0 rest KQ (putE env d nov) cr) := nrfl rfl
theorem R_sliceA {len : Nat} {x : Operand} {lo hi : Option Operand} : RstepE P n ⟨d, g, .sliceA len x lo hi⟩ K s = optK (step1 s.objs (evE s.env) (.sliceA len x lo hi)) n d s.env K := nrfl rfl
theorem Q_sliceA {len : Nat} {x : Operand} {lo hi : Option Operand} : QopsE P n objs0 (⟨d, none, .sliceA len x lo hi⟩ :: rest) KQ env cr = (qK (qstepK (objs0 ++ cr) objs0 (evE env) (objs0.length + cr.length) (.sliceA len x lo hi)) n d env cr (QopsE P n objs0 rest KQ)) := nrfl rfl
theorem Q_gsliceA {len : Nat} {x : Operand} {lo hi : Option Operand} {t : Nat} {w : Bool} : QopsE P n objs0 (⟨d, some (t, w), .sliceA len x lo hi⟩ :: rest) KQ env cr = guardE (gdB (lk env t)) w (qK (qstepK (objs0 ++ cr) objs0 (evE env) (objs0.length + cr.length) (.sliceA len x lo hi)) n d env cr (QopsE P n objs0 rest KQ)) (okD n d ∧ QopsE P n objs0 rest KQ (putE env d nov) cr) := nrfl rfl
theorem R_bad : RstepE P n ⟨d, g, .bad⟩ K s = optK (step1 s.objs (evE s.env) (.bad)) n d s.env K := nrfl rfl
theorem Q_bad : QopsE P n objs0 (⟨d, none, .bad⟩ :: rest) KQ env cr = (qK (qstepK (objs0 ++ cr) objs0 (evE env) (objs0.length + cr.length) (.bad)) n d env cr (QopsE P n objs0 rest KQ)) := nrfl rfl
theorem Q_gbad {t : Nat} {w : Bool} : QopsE P n objs0 (⟨d, some (t, w), .bad⟩ :: rest) KQ env cr = guardE (gdB (lk env t)) w (qK (qstepK (objs0 ++ cr) objs0 (evE env) (objs0.length + cr.length) (.bad)) n d env cr (QopsE P n objs0 rest KQ)) (okD n d ∧ QopsE P n objs0 rest KQ (putE env d nov) cr) := nrfl rfl
theorem R_empS : RstepE P n ⟨d, g, .empS⟩ K s = optK (step1 s.objs (evE s.env) .empS) n d s.env K := nrfl rfl
theorem Q_empS : QopsE P n objs0 (⟨d, none, .empS⟩ :: rest) KQ env cr = (qK (qstepK (objs0 ++ cr) objs0 (evE env) (objs0.length + cr.length) .empS) n d env cr (QopsE P n objs0 rest KQ)) := nrfl rfl
theorem Q_gempS {t : Nat} {w : Bool} : QopsE P n objs0 (⟨d, some (t, w), .empS⟩ :: rest) KQ env cr = guardE (gdB (lk env t)) w (qK (qstepK (objs0 ++ cr) objs0 (evE env) (objs0.length + cr.length) .empS) n d env cr (QopsE P n objs0 rest KQ)) (okD n d ∧ QopsE P n objs0 rest KQ (putE env d nov) cr) := nrfl rfl
theorem R_appE {elem : TypeId} {size bytes : Nat} {sl x : Operand} : RstepE P n ⟨d, g, .appE elem size bytes sl x⟩ K s = optK (step1 s.objs (evE s.env) (.appE elem size bytes sl x)) n d s.env K := nrfl rfl
theorem Q_appE {elem : TypeId} {size bytes : Nat} {sl x : Operand} : QopsE P n objs0 (⟨d, none, .appE elem size bytes sl x⟩ :: rest) KQ env cr = (qK (qstepK (objs0 ++ cr) objs0 (evE env) (objs0.length + cr.length) (.appE elem size bytes sl x)) n d env cr (QopsE P n objs0 rest KQ)) := nrfl rfl
theorem Q_gappE {elem : TypeId} {size bytes : Nat} {sl x : Operand} {t : Nat} {w : Bool} : QopsE P n objs0 (⟨d, some (t, w), .appE elem size bytes sl x⟩ :: rest) KQ env cr = guardE (gdB (lk env t)) w (qK (qstepK (objs0 ++ cr) objs0 (evE env) (objs0.length + cr.length) (.appE elem size bytes sl x)) n d env cr (QopsE P n objs0 rest KQ)) (okD n d ∧ QopsE P n objs0 rest KQ (putE env d nov) cr) := nrfl rfl
theorem evE_t {env : List (Nat × AV)} {t : Nat} : evE env (.tmp t) = lk env t := nrfl rfl
theorem evE_c {env : List (Nat × AV)} {v : Value} : evE env (.const v) = ofV v := nrfl rfl
theorem evE_g {env : List (Nat × AV)} {g : Nat} : evE env (.global g) = gAV g := nrfl rfl
theorem evE_f {env : List (Nat × AV)} {f : FuncId} : evE env (.func f) = .clo (.func f) [] := nrfl rfl
/-- No proof by rfl: a congruence's hypothesis takes none. -/
theorem asB_b {b : Bool} : asB (.val (.bool b)) = some b := by cases b <;> rfl
theorem thenE_n {A : Est → Prop} : thenE A Q .normal s = A s := nrfl rfl
theorem thenE_x {A : Est → Prop} {i : Nat} : thenE A Q (.exit i) s = Q (.exit i) s := nrfl rfl
theorem thenE_r {A : Est → Prop} : thenE A Q .ret s = Q .ret s := nrfl rfl
theorem thenE_g {A : Est → Prop} {l : Nat} : thenE A Q (.goto l) s = Q (.goto l) s := nrfl rfl
theorem inBlockE_n {id : Nat} : inBlockE id Q .normal s = Q .normal s := nrfl rfl
theorem inBlockE_x {id i : Nat} : inBlockE id Q (.exit i) s = if i = id then Q .normal s else Q (.exit i) s := nrfl rfl
theorem inBlockE_r {id : Nat} : inBlockE id Q .ret s = Q .ret s := nrfl rfl
theorem noGotoE_n : noGotoE Q .normal s = Q .normal s := nrfl rfl
theorem noGotoE_x {i : Nat} : noGotoE Q (.exit i) s = Q (.exit i) s := nrfl rfl
theorem noGotoE_r : noGotoE Q .ret s = Q .ret s := nrfl rfl
theorem retE_n {rs : List CRes} {r : AV} : retE rs r .normal s = ∃ y, resAllE s rs = some y ∧ Snap s.objs y r := nrfl rfl
theorem retE_r {rs : List CRes} {r : AV} : retE rs r .ret s = ∃ y, resAllE s rs = some y ∧ Snap s.objs y r := nrfl rfl
theorem RoundX_n {I : Nat → Est → Prop} {k x : Nat} {J : Est → Prop} : RoundX n I k x J Q .normal s = ∃ m s', m < k ∧ WkE n s s' ∧ I m s' := nrfl rfl
theorem RoundX_x {I : Nat → Est → Prop} {k x i : Nat} {J : Est → Prop} : RoundX n I k x J Q (.exit i) s = if i = x then ∃ s', WkE n s s' ∧ J s' else Q (.exit i) s := nrfl rfl
theorem RoundX_r {I : Nat → Est → Prop} {k x : Nat} {J : Est → Prop} : RoundX n I k x J Q .ret s = Q .ret s := nrfl rfl
theorem RoundE_n {I : Nat → Est → Prop} {k : Nat} : RoundE n I k Q .normal s = ∃ m s', m < k ∧ WkE n s s' ∧ I m s' := nrfl rfl
theorem RoundE_x {I : Nat → Est → Prop} {k i : Nat} : RoundE n I k Q (.exit i) s = Q (.exit i) s := nrfl rfl
theorem RoundE_r {I : Nat → Est → Prop} {k : Nat} : RoundE n I k Q .ret s = Q .ret s := nrfl rfl
theorem resE_t {t : Nat} : resE s (.tmp t) = some (lk s.env t) := nrfl rfl
theorem lk_cons {k t : Nat} {v : AV} {r : List (Nat × AV)} : lk ((k, v) :: r) t = if k = t then v else lk r t := nrfl rfl
theorem lk_nil {t : Nat} : lk [] t = .junk := nrfl rfl
theorem R_mnew {elem : TypeId} : RstepE P n ⟨d, g, .mnew elem⟩ K s = optK (step1 s.objs (evE s.env) (.mnew elem)) n d s.env K := nrfl rfl
theorem Q_mnew {elem : TypeId} : QopsE P n objs0 (⟨d, none, .mnew elem⟩ :: rest) KQ env cr = (qK (qstepK (objs0 ++ cr) objs0 (evE env) (objs0.length + cr.length) (.mnew elem)) n d env cr (QopsE P n objs0 rest KQ)) := nrfl rfl
theorem Q_gmnew {elem : TypeId} {t : Nat} {w : Bool} : QopsE P n objs0 (⟨d, some (t, w), .mnew elem⟩ :: rest) KQ env cr = guardE (gdB (lk env t)) w (qK (qstepK (objs0 ++ cr) objs0 (evE env) (objs0.length + cr.length) (.mnew elem)) n d env cr (QopsE P n objs0 rest KQ)) (okD n d ∧ QopsE P n objs0 rest KQ (putE env d nov) cr) := nrfl rfl
theorem R_mget {mc : Nat} {mok : Bool} {mz : Value} {x y : Operand} : RstepE P n ⟨d, g, .mget mc mok mz x y⟩ K s = optK (step1 s.objs (evE s.env) (.mget mc mok mz x y)) n d s.env K := nrfl rfl
theorem Q_mget {mc : Nat} {mok : Bool} {mz : Value} {x y : Operand} : QopsE P n objs0 (⟨d, none, .mget mc mok mz x y⟩ :: rest) KQ env cr = (qK (qstepK (objs0 ++ cr) objs0 (evE env) (objs0.length + cr.length) (.mget mc mok mz x y)) n d env cr (QopsE P n objs0 rest KQ)) := nrfl rfl
theorem Q_gmget {mc : Nat} {mok : Bool} {mz : Value} {x y : Operand} {t : Nat} {w : Bool} : QopsE P n objs0 (⟨d, some (t, w), .mget mc mok mz x y⟩ :: rest) KQ env cr = guardE (gdB (lk env t)) w (qK (qstepK (objs0 ++ cr) objs0 (evE env) (objs0.length + cr.length) (.mget mc mok mz x y)) n d env cr (QopsE P n objs0 rest KQ)) (okD n d ∧ QopsE P n objs0 rest KQ (putE env d nov) cr) := nrfl rfl
theorem R_mlen {mc : Nat} {x : Operand} : RstepE P n ⟨d, g, .mlen mc x⟩ K s = optK (step1 s.objs (evE s.env) (.mlen mc x)) n d s.env K := nrfl rfl
theorem Q_mlen {mc : Nat} {x : Operand} : QopsE P n objs0 (⟨d, none, .mlen mc x⟩ :: rest) KQ env cr = (qK (qstepK (objs0 ++ cr) objs0 (evE env) (objs0.length + cr.length) (.mlen mc x)) n d env cr (QopsE P n objs0 rest KQ)) := nrfl rfl
theorem Q_gmlen {mc : Nat} {x : Operand} {t : Nat} {w : Bool} : QopsE P n objs0 (⟨d, some (t, w), .mlen mc x⟩ :: rest) KQ env cr = guardE (gdB (lk env t)) w (qK (qstepK (objs0 ++ cr) objs0 (evE env) (objs0.length + cr.length) (.mlen mc x)) n d env cr (QopsE P n objs0 rest KQ)) (okD n d ∧ QopsE P n objs0 rest KQ (putE env d nov) cr) := nrfl rfl
theorem R_mset {mc : Nat} {x y z : Operand} : RstepE P n ⟨d, g, .mset mc x y z⟩ K s = optK (step1 s.objs (evE s.env) (.mset mc x y z)) n d s.env K := nrfl rfl
theorem Q_mset {mc : Nat} {x y z : Operand} : QopsE P n objs0 (⟨d, none, .mset mc x y z⟩ :: rest) KQ env cr = (qK (qstepK (objs0 ++ cr) objs0 (evE env) (objs0.length + cr.length) (.mset mc x y z)) n d env cr (QopsE P n objs0 rest KQ)) := nrfl rfl
theorem Q_gmset {mc : Nat} {x y z : Operand} {t : Nat} {w : Bool} : QopsE P n objs0 (⟨d, some (t, w), .mset mc x y z⟩ :: rest) KQ env cr = guardE (gdB (lk env t)) w (qK (qstepK (objs0 ++ cr) objs0 (evE env) (objs0.length + cr.length) (.mset mc x y z)) n d env cr (QopsE P n objs0 rest KQ)) (okD n d ∧ QopsE P n objs0 rest KQ (putE env d nov) cr) := nrfl rfl
theorem R_str {x : Operand} : RstepE P n ⟨d, g, .str x⟩ K s = optK (step1 s.objs (evE s.env) (.str x)) n d s.env K := nrfl rfl
theorem Q_str {x : Operand} : QopsE P n objs0 (⟨d, none, .str x⟩ :: rest) KQ env cr = (qK (qstepK (objs0 ++ cr) objs0 (evE env) (objs0.length + cr.length) (.str x)) n d env cr (QopsE P n objs0 rest KQ)) := nrfl rfl
theorem Q_gstr {x : Operand} {t : Nat} {w : Bool} : QopsE P n objs0 (⟨d, some (t, w), .str x⟩ :: rest) KQ env cr = guardE (gdB (lk env t)) w (qK (qstepK (objs0 ++ cr) objs0 (evE env) (objs0.length + cr.length) (.str x)) n d env cr (QopsE P n objs0 rest KQ)) (okD n d ∧ QopsE P n objs0 rest KQ (putE env d nov) cr) := nrfl rfl
theorem keyOf_i {m : Int} : keyOf 0 (.val (.int .i64 m)) = some (.i m) := by simp [keyOf]
theorem keyOf_s {b : ByteArray} : keyOf 1 (.val (.string b)) = some (.s b) := by simp [keyOf]
theorem keyOf_2 {a b : Int} : keyOf 6 (.agg [.val (.int .i64 a), .val (.int .i64 b)]) = some (.a [a, b]) := by simp [keyOf, asI, keyK, List.replicate_succ]
theorem keyOf_u4 {a b c d : Int} : keyOf 11 (.agg [.val (.int .u64 a), .val (.int .u64 b), .val (.int .u64 c), .val (.int .u64 d)]) = some (.a [a, b, c, d]) := by simp [keyOf, asI, keyK, List.replicate_succ]
theorem keyOf_u4l {l : List Int} (h : l.length = 4) : keyOf 11 (.agg (l.map fun x => .val (.int .u64 x))) = some (.a l) := by
  match l, h with
  | [a, b, c, d], _ => exact keyOf_u4
attribute [go_sem] R_mnew Q_mnew Q_gmnew R_mget Q_mget Q_gmget R_mlen Q_mlen Q_gmlen R_mset Q_mset Q_gmset R_str Q_str Q_gstr keyOf_i keyOf_s keyOf_2 keyOf_u4 mapOwn mapOf msetA mapT unV_mapV
def cutK (P : Program) (n : Nat) (post : List (COper × List COper)) (t : PT) (K : Est → Prop) (objs : List AObj) (env : List (Nat × AV)) (cr : List AObj) : Prop := RopsLE P n post (RTE P n t K) ⟨env, objs ++ cr⟩
theorem cutK_r {P : Program} {n : Nat} {post : List (COper × List COper)} {t : PT} {K : Est → Prop} {objs : List AObj} {env : List (Nat × AV)} {cr : List AObj} : cutK P n post t K objs env cr = RopsLE P n post (RTE P n t K) ⟨env, objs ++ cr⟩ := nrfl rfl
theorem vd_cut {pre post t} : vcE P F0 w0 n (.cut pre post t) Q s = QopsE P n s.objs pre (cutK P n post t (Q .normal) s.objs) s.env [] := nrfl rfl
theorem RT_done : RTE P n .done K s = K s := nrfl rfl
theorem RT_stop : RTE P n .stop K s = True := nrfl rfl
theorem RT_alt {op : COp} {sub next : PT} : RTE P n (.alt ⟨d, none, op⟩ sub next) K s = (RstepE P n ⟨d, none, op⟩ (RTE P n sub K) s ∧ RTE P n next K s) := nrfl rfl
theorem RT_altg {op : COp} {t : Nat} {w : Bool} {sub next : PT} : RTE P n (.alt ⟨d, some (t, w), op⟩ sub next) K s = (guardE (gdB (lk s.env t)) w (RstepE P n ⟨d, some (t, w), op⟩ (RTE P n sub K) s) (okD n d ∧ RTE P n sub K ⟨putE s.env d nov, s.objs⟩) ∧ RTE P n next K s) := nrfl rfl
attribute [go_sem] cutK_r vd_cut RT_done RT_stop RT_alt RT_altg and_true
attribute [go_sem] guardE_n gdB_b gdB_n condE_t condE_f vc_skip vc_region vd_drawn vc_seq vc_cond vc_block vc_loop vc_exit vc_scope vc_ret guardE_tt guardE_ff guardE_tf guardE_ft optK_some qK_none qK_some lateK drawnK R_nil R_cons R_guard R_call RL_nil RL_cons
  RL_guard Q_nil Q_call Q_gcall R_mov Q_mov Q_gmov R_pick Q_pick Q_gpick R_alloc Q_alloc Q_galloc R_box Q_box Q_gbox R_load Q_load Q_gload R_nilCheck Q_nilCheck Q_gnilCheck R_ibin Q_ibin Q_gibin R_bbin Q_bbin Q_gbbin R_aeq
  Q_aeq Q_gaeq R_neg Q_neg Q_gneg R_lnot Q_lnot Q_glnot R_conv Q_conv Q_gconv R_fieldAddr Q_fieldAddr Q_gfieldAddr R_field Q_field Q_gfield R_idxS Q_idxS Q_gidxS R_idxA Q_idxA Q_gidxA R_idxV Q_idxV Q_gidxV R_extract
  Q_extract Q_gextract R_slice Q_slice Q_gslice R_slice3 Q_slice3 Q_gslice3 R_mkslice Q_mkslice Q_gmkslice R_build Q_build Q_gbuild R_bslice Q_bslice Q_gbslice R_len Q_len Q_glen R_lenA Q_lenA Q_glenA R_imin Q_imin Q_gimin R_imax Q_imax Q_gimax
  R_mkfunc Q_mkfunc Q_gmkfunc R_store Q_store Q_gstore R_append Q_append Q_gappend R_isNil Q_isNil Q_gisNil R_copy Q_copy Q_gcopy R_appendZ Q_appendZ Q_gappendZ R_sliceA Q_sliceA Q_gsliceA R_bad Q_bad Q_gbad R_empS Q_empS Q_gempS R_appE Q_appE Q_gappE LatesE evE_t evE_c evE_f evE_g putE lk_cons lk_nil okD step1 qstep qstepK qop ofV COp.stores AV.kn AV.fits AV.one AV.isT AV.isT1 AV.cells asI asB_b ibinV bnd bnd1
  cellsAt fillA Dak.upd storeA appendA appendY appendZA copyA srcOf recell resAllE resE envOf Nat.le_refl List.mapM_cons List.mapM_nil List.map_cons List.map_nil List.all_cons List.all_nil List.length_cons List.length_nil List.length_append
  List.append_nil List.nil_append List.cons_append Option.bind_some Option.bind_none Option.map_some Option.map_none Option.pure_def Option.some.injEq exists_eq_left' true_and and_true if_true if_false ite_true ite_false
  Bool.false_eq_true Bool.true_eq_false Bool.and_true Bool.true_and Bool.and_false Bool.false_and ne_eq not_true_eq_false not_false_eq_true forall_const false_implies true_implies implies_true Bool.not_eq_false
  Bool.not_eq_true List.getElem?_cons_zero List.getElem?_cons_succ List.set_cons_zero List.set_cons_succ Value.oneCell' beq_self_eq_true decide_true decide_false Nat.add_zero Nat.zero_add AV.val.injEq Value.int.injEq
  Value.bool.injEq Bool.not_true Bool.not_false bne_self_eq_false IntKind.bits Nat.lt_add_one Nat.zero_lt_succ Nat.one_ne_zero List.length_map List.drop_zero List.take_length List.take_succ_cons List.take_zero
  List.drop_succ_cons Agree List.head?_cons or_true true_or or_false false_or and_self Int.toNat_natCast List.set_nil List.replicate_zero List.drop_nil List.take_nil List.length_range
  List.take_of_length_le thenE_n thenE_x thenE_r thenE_g inBlockE_n inBlockE_x inBlockE_r noGotoE_n noGotoE_x noGotoE_r retE_n retE_r RoundX_n RoundX_x RoundX_r RoundE_n RoundE_x RoundE_r Option.bind_eq_bind
end Dak
