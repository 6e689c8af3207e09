/- The equations of vcE one by one, so that a test is settled before its branches are looked at. -/
import Derived.Test.YtjpknjicfoiheaaDs
set_option linter.unusedSimpArgs false
set_option linter.unusedVariables false
set_option linter.unusedSectionVars false
namespace Dak
open Go Go.RowKit
variable {P : Program} {F0 : FD} {w0 : World} {n : Nat} {Q : Exit → Est → Prop} {s : Est}
/-- An equation that a simplifier does not take to hold by computation: the kernel is then not asked to compute it. -/
theorem nrfl.{u} {α : Sort u} {a b : α} (h : a = b) : a = b := h
def condE (o : Option Bool) (p q : Prop) : Prop := match o with
  | some t => (t = true → p) ∧ (t = false → q)
  | none => False
theorem condE_congr {o o' : Option Bool} {p q : Prop} (h : o = o') : condE o p q = condE o' p q := by rw [h]
theorem condE_t {p q : Prop} : condE (some true) p q = p := by simp [condE]
theorem condE_f {p q : Prop} : condE (some false) p q = q := by simp [condE]
theorem condE_i {t : Bool} {p q : Prop} (h1 : t = true → p) (h2 : t = false → q) : condE (some t) p q := ⟨h1, h2⟩
theorem vc_skip : vcE P F0 w0 n .skip Q s = Q .normal s := nrfl rfl
theorem vc_region {cs} : vcE P F0 w0 n (.region cs) Q s = RopsE P n cs (Q .normal) s := nrfl rfl
theorem vc_drawn {pre post} : vcE P F0 w0 n (.drawn pre post) Q s = QopsE P n s.objs pre (fun env cr => RopsLE P n post (Q .normal) ⟨env, s.objs ++ cr⟩) s.env [] := nrfl rfl
theorem vc_seq {a b} : vcE P F0 w0 n (.seq a b) Q s = vcE P F0 w0 n a (thenE (vcE P F0 w0 n b Q) Q) s := nrfl rfl
theorem vc_cond {c a b} : vcE P F0 w0 n (.cond c a b) Q s = condE (asB (evE s.env c)) (vcE P F0 w0 n a Q s) (vcE P F0 w0 n b Q s) := nrfl rfl
theorem vc_block {id b} : vcE P F0 w0 n (.block id b) Q s = vcE P F0 w0 n b (inBlockE id Q) s := nrfl rfl
theorem vc_loop {b} : vcE P F0 w0 n (.loop b) Q s = CwpE P F0 w0 n (.loop b) Q s := nrfl rfl
theorem vc_exit {id} : vcE P F0 w0 n (.exit id) Q s = Q (.exit id) s := nrfl rfl
theorem vc_scope {b} : vcE P F0 w0 n (.scope b) Q s = vcE P F0 w0 n b (noGotoE Q) s := nrfl rfl
theorem vc_ret : vcE P F0 w0 n .ret Q s = Q .ret s := nrfl rfl
-- U2
def guardE (o : Option (Option Bool)) (want : Bool) (A B : Prop) : Prop := match o with
  | some b => (b = some want → A) ∧ (b ≠ some want → B)
  | none => False
theorem guardE_congr {o o' : Option (Option Bool)} {w : Bool} {A B : Prop} (h : o = o') : guardE o w A B = guardE o' w A B := by rw [h]
theorem guardE_tt {A B : Prop} : guardE (some (some true)) true A B = A := by simp [guardE]
theorem guardE_ff {A B : Prop} : guardE (some (some false)) false A B = A := by simp [guardE]
theorem guardE_tf {A B : Prop} : guardE (some (some true)) false A B = B := by simp [guardE]
theorem guardE_ft {A B : Prop} : guardE (some (some false)) true A B = B := by simp [guardE]
theorem guardE_n {w : Bool} {A B : Prop} : guardE (some none) w A B = B := by simp [guardE]
/-- No proofs by rfl: a congruence's hypothesis takes none. -/
theorem gdB_b {b : Bool} : gdB (.val (.bool b)) = some (some b) := by cases b <;> rfl
theorem gdB_n : gdB nov = some none := by unfold nov; simp [gdB, undef]
def optK (o : Option (AV × List AObj)) (n : Nat) (d : Option Nat) (env : List (Nat × AV)) (K : Est → Prop) : Prop := match o with
  | some (r, objs) => okD n d ∧ K ⟨putE env d r, objs⟩
  | none => False
theorem optK_some {r : AV} {objs : List AObj} {d : Option Nat} {env : List (Nat × AV)} {K : Est → Prop} : optK (some (r, objs)) n d env K = (okD n d ∧ K ⟨putE env d r, objs⟩) := nrfl rfl
def qK (o : Option (AV × Option AObj)) (n : Nat) (d : Option Nat) (env : List (Nat × AV)) (cr : List AObj) (K : List (Nat × AV) → List AObj → Prop) : Prop := match o with
  | some (r, none) => okD n d ∧ K (putE env d r) cr
  | some (r, some o) => okD n d ∧ K (putE env d r) (cr ++ [o])
  | none => False
theorem qK_none {r : AV} {d : Option Nat} {env : List (Nat × AV)} {cr : List AObj} {K : List (Nat × AV) → List AObj → Prop} : qK (some (r, none)) n d env cr K = (okD n d ∧ K (putE env d r) cr) := nrfl rfl
theorem qK_some {r : AV} {o : AObj} {d : Option Nat} {env : List (Nat × AV)} {cr : List AObj} {K : List (Nat × AV) → List AObj → Prop} : qK (some (r, some o)) n d env cr K = (okD n d ∧ K (putE env d r) (cr ++ [o])) := nrfl rfl
def callK (P : Program) (objs : List AObj) (f : AV) (args : List AV) (d : Option Nat) (env : List (Nat × AV)) (K : Est → Prop) : Prop := ∃ r objs', CallM P true objs f args r objs' ∧ K ⟨putE env d r, objs'⟩
def callQ (P : Program) (objs : List AObj) (f : AV) (args : List AV) (d : Option Nat) (env : List (Nat × AV)) (cr : List AObj) (K : List (Nat × AV) → List AObj → Prop) : Prop := ∃ r objs', CallM P false objs f args r objs' ∧ callX objs objs' cr (K (putE env d r))
theorem callX_same {objs cr : List AObj} {K : List AObj → Prop} : callX objs objs cr K = K cr := propext ⟨fun h => h.elim (·.2) fun ⟨o, he, _⟩ => by have := congrArg List.length he; simp at this, fun h => .inl ⟨rfl, h⟩⟩
attribute [go_sem] callX_same
def lateK (P : Program) (n : Nat) (ls : List COper) (rest : List (COper × List COper)) (K : Est → Prop) (s : Est) : Prop := LatesE s ls ∧ RopsLE P n rest K s
def drawnK (P : Program) (n : Nat) (post : List (COper × List COper)) (K : Est → Prop) (objs : List AObj) (env : List (Nat × AV)) (cr : List AObj) : Prop := RopsLE P n post K ⟨env, objs ++ cr⟩
theorem vd_drawn {pre post} : vcE P F0 w0 n (.drawn pre post) Q s = QopsE P n s.objs pre (drawnK P n post (Q .normal) s.objs) s.env [] := nrfl rfl
attribute [congr] condE_congr guardE_congr
variable {K : Est → Prop} {rest : List COper} {d : Option Nat} {g : Option (Nat × Bool)}
theorem R_nil : RopsE P n [] K s = K s := nrfl rfl
theorem R_cons {op : COp} : RopsE P n (⟨d, none, op⟩ :: rest) K s = RstepE P n ⟨d, none, op⟩ (RopsE P n rest K) s := nrfl rfl
theorem R_guard {op : COp} {t : Nat} {w : Bool} : RopsE P n (⟨d, some (t, w), op⟩ :: rest) K s = guardE (gdB (lk s.env t)) w (RstepE P n ⟨d, some (t, w), op⟩ (RopsE P n rest K) s) (okD n d ∧ RopsE P n rest K ⟨putE s.env d nov, s.objs⟩) := nrfl rfl
theorem R_call {f : Operand} {args : List Operand} : RstepE P n ⟨d, g, .call f args⟩ K s = (okD n d ∧ callK P s.objs (evE s.env f) (args.map (evE s.env)) d s.env K) := nrfl rfl
theorem RL_nil : RopsLE P n [] K s = K s := nrfl rfl
theorem RL_cons {op : COp} {ls : List COper} {rest : List (COper × List COper)} : RopsLE P n ((⟨d, none, op⟩, ls) :: rest) K s = RstepE P n ⟨d, none, op⟩ (lateK P n ls rest K) s := nrfl rfl
theorem RL_guard {op : COp} {t : Nat} {w : Bool} {ls : List COper} {rest : List (COper × List COper)} : RopsLE P n ((⟨d, some (t, w), op⟩, ls) :: rest) K s = guardE (gdB (lk s.env t)) w (RstepE P n ⟨d, some (t, w), op⟩ (lateK P n ls rest K) s) (okD n d ∧ LatesE ⟨putE s.env d nov, s.objs⟩ ls ∧ RopsLE P n rest K ⟨putE s.env d nov, s.objs⟩) := nrfl rfl
variable {objs0 : List AObj} {KQ : List (Nat × AV) → List AObj → Prop} {env : List (Nat × AV)} {cr : List AObj}
theorem Q_nil : QopsE P n objs0 [] KQ env cr = KQ env cr := nrfl rfl
theorem Q_call {f : Operand} {args : List Operand} : QopsE P n objs0 (⟨d, none, .call f args⟩ :: rest) KQ env cr = (okD n d ∧ callQ P objs0 (evE env f) (args.map (evE env)) d env cr (QopsE P n objs0 rest KQ)) := nrfl rfl
theorem Q_gcall {f : Operand} {args : List Operand} {t : Nat} {w : Bool} : QopsE P n objs0 (⟨d, some (t, w), .call f args⟩ :: rest) KQ env cr = guardE (gdB (lk env t)) w (okD n d ∧ callQ P objs0 (evE env f) (args.map (evE env)) d env cr (QopsE P n objs0 rest KQ)) (okD n d ∧ QopsE P n objs0 rest KQ (putE env d nov) cr) := nrfl rfl
theorem R_mov {x : Operand} : RstepE P n ⟨d, g, .mov x⟩ K s = optK (step1 s.objs (evE s.env) (.mov x)) n d s.env K := nrfl rfl
theorem Q_mov {x : Operand} : QopsE P n objs0 (⟨d, none, .mov x⟩ :: rest) KQ env cr = (qK (qstepK (objs0 ++ cr) objs0 (evE env) (objs0.length + cr.length) (.mov x)) n d env cr (QopsE P n objs0 rest KQ)) := nrfl rfl
theorem Q_gmov {x : Operand} {t : Nat} {w : Bool} : QopsE P n objs0 (⟨d, some (t, w), .mov x⟩ :: rest) KQ env cr = guardE (gdB (lk env t)) w (qK (qstepK (objs0 ++ cr) objs0 (evE env) (objs0.length + cr.length) (.mov x)) n d env cr (QopsE P n objs0 rest KQ)) (okD n d ∧ QopsE P n objs0 rest KQ (putE env d nov) cr) := nrfl rfl
theorem R_pick {c a b : Operand} : RstepE P n ⟨d, g, .pick c a b⟩ K s = optK (step1 s.objs (evE s.env) (.pick c a b)) n d s.env K := nrfl rfl
theorem Q_pick {c a b : Operand} : QopsE P n objs0 (⟨d, none, .pick c a b⟩ :: rest) KQ env cr = (qK (qstepK (objs0 ++ cr) objs0 (evE env) (objs0.length + cr.length) (.pick c a b)) n d env cr (QopsE P n objs0 rest KQ)) := nrfl rfl
theorem Q_gpick {c a b : Operand} {t : Nat} {w : Bool} : QopsE P n objs0 (⟨d, some (t, w), .pick c a b⟩ :: rest) KQ env cr = guardE (gdB (lk env t)) w (qK (qstepK (objs0 ++ cr) objs0 (evE env) (objs0.length + cr.length) (.pick c a b)) n d env cr (QopsE P n objs0 rest KQ)) (okD n d ∧ QopsE P n objs0 rest KQ (putE env d nov) cr) := nrfl rfl
theorem R_alloc {elem : TypeId} {z : AV} : RstepE P n ⟨d, g, .alloc elem z⟩ K s = optK (step1 s.objs (evE s.env) (.alloc elem z)) n d s.env K := nrfl rfl
theorem Q_alloc {elem : TypeId} {z : AV} : QopsE P n objs0 (⟨d, none, .alloc elem z⟩ :: rest) KQ env cr = (qK (qstepK (objs0 ++ cr) objs0 (evE env) (objs0.length + cr.length) (.alloc elem z)) n d env cr (QopsE P n objs0 rest KQ)) := nrfl rfl
theorem Q_galloc {elem : TypeId} {z : AV} {t : Nat} {w : Bool} : QopsE P n objs0 (⟨d, some (t, w), .alloc elem z⟩ :: rest) KQ env cr = guardE (gdB (lk env t)) w (qK (qstepK (objs0 ++ cr) objs0 (evE env) (objs0.length + cr.length) (.alloc elem z)) n d env cr (QopsE P n objs0 rest KQ)) (okD n d ∧ QopsE P n objs0 rest KQ (putE env d nov) cr) := nrfl rfl
theorem R_box {elem : TypeId} {x : Operand} : RstepE P n ⟨d, g, .box elem x⟩ K s = optK (step1 s.objs (evE s.env) (.box elem x)) n d s.env K := nrfl rfl
theorem Q_box {elem : TypeId} {x : Operand} : QopsE P n objs0 (⟨d, none, .box elem x⟩ :: rest) KQ env cr = (qK (qstepK (objs0 ++ cr) objs0 (evE env) (objs0.length + cr.length) (.box elem x)) n d env cr (QopsE P n objs0 rest KQ)) := nrfl rfl
theorem Q_gbox {elem : TypeId} {x : Operand} {t : Nat} {w : Bool} : QopsE P n objs0 (⟨d, some (t, w), .box elem x⟩ :: rest) KQ env cr = guardE (gdB (lk env t)) w (qK (qstepK (objs0 ++ cr) objs0 (evE env) (objs0.length + cr.length) (.box elem x)) n d env cr (QopsE P n objs0 rest KQ)) (okD n d ∧ QopsE P n objs0 rest KQ (putE env d nov) cr) := nrfl rfl
theorem R_load {agg : Bool} {m : Nat} {x : Operand} : RstepE P n ⟨d, g, .load agg m x⟩ K s = optK (step1 s.objs (evE s.env) (.load agg m x)) n d s.env K := nrfl rfl
theorem Q_load {agg : Bool} {m : Nat} {x : Operand} : QopsE P n objs0 (⟨d, none, .load agg m x⟩ :: rest) KQ env cr = (qK (qstepK (objs0 ++ cr) objs0 (evE env) (objs0.length + cr.length) (.load agg m x)) n d env cr (QopsE P n objs0 rest KQ)) := nrfl rfl
theorem Q_gload {agg : Bool} {m : Nat} {x : Operand} {t : Nat} {w : Bool} : QopsE P n objs0 (⟨d, some (t, w), .load agg m x⟩ :: rest) KQ env cr = guardE (gdB (lk env t)) w (qK (qstepK (objs0 ++ cr) objs0 (evE env) (objs0.length + cr.length) (.load agg m x)) n d env cr (QopsE P n objs0 rest KQ)) (okD n d ∧ QopsE P n objs0 rest KQ (putE env d nov) cr) := nrfl rfl
theorem R_nilCheck {x : Operand} : RstepE P n ⟨d, g, .nilCheck x⟩ K s = optK (step1 s.objs (evE s.env) (.nilCheck x)) n d s.env K := nrfl rfl
theorem Q_nilCheck {x : Operand} : QopsE P n objs0 (⟨d, none, .nilCheck x⟩ :: rest) KQ env cr = (qK (qstepK (objs0 ++ cr) objs0 (evE env) (objs0.length + cr.length) (.nilCheck x)) n d env cr (QopsE P n objs0 rest KQ)) := nrfl rfl
theorem Q_gnilCheck {x : Operand} {t : Nat} {w : Bool} : QopsE P n objs0 (⟨d, some (t, w), .nilCheck x⟩ :: rest) KQ env cr = guardE (gdB (lk env t)) w (qK (qstepK (objs0 ++ cr) objs0 (evE env) (objs0.length + cr.length) (.nilCheck x)) n d env cr (QopsE P n objs0 rest KQ)) (okD n d ∧ QopsE P n objs0 rest KQ (putE env d nov) cr) := nrfl rfl
theorem R_ibin {op : BinOp} {x y : Operand} : RstepE P n ⟨d, g, .ibin op x y⟩ K s = optK (step1 s.objs (evE s.env) (.ibin op x y)) n d s.env K := nrfl rfl
theorem Q_ibin {op : BinOp} {x y : Operand} : QopsE P n objs0 (⟨d, none, .ibin op x y⟩ :: rest) KQ env cr = (qK (qstepK (objs0 ++ cr) objs0 (evE env) (objs0.length + cr.length) (.ibin op x y)) n d env cr (QopsE P n objs0 rest KQ)) := nrfl rfl
theorem Q_gibin {op : BinOp} {x y : Operand} {t : Nat} {w : Bool} : QopsE P n objs0 (⟨d, some (t, w), .ibin op x y⟩ :: rest) KQ env cr = guardE (gdB (lk env t)) w (qK (qstepK (objs0 ++ cr) objs0 (evE env) (objs0.length + cr.length) (.ibin op x y)) n d env cr (QopsE P n objs0 rest KQ)) (okD n d ∧ QopsE P n objs0 rest KQ (putE env d nov) cr) := nrfl rfl
theorem R_bbin {op : BinOp} {x y : Operand} : RstepE P n ⟨d, g, .bbin op x y⟩ K s = optK (step1 s.objs (evE s.env) (.bbin op x y)) n d s.env K := nrfl rfl
theorem Q_bbin {op : BinOp} {x y : Operand} : QopsE P n objs0 (⟨d, none, .bbin op x y⟩ :: rest) KQ env cr = (qK (qstepK (objs0 ++ cr) objs0 (evE env) (objs0.length + cr.length) (.bbin op x y)) n d env cr (QopsE P n objs0 rest KQ)) := nrfl rfl
theorem Q_gbbin {op : BinOp} {x y : Operand} {t : Nat} {w : Bool} : QopsE P n objs0 (⟨d, some (t, w), .bbin op x y⟩ :: rest) KQ env cr = guardE (gdB (lk env t)) w (qK (qstepK (objs0 ++ cr) objs0 (evE env) (objs0.length + cr.length) (.bbin op x y)) n d env cr (QopsE P n objs0 rest KQ)) (okD n d ∧ QopsE P n objs0 rest KQ (putE env d nov) cr) := nrfl rfl
theorem R_aeq {neg : Bool} {m : Nat} {x y : Operand} : RstepE P n ⟨d, g, .aeq neg m x y⟩ K s = optK (step1 s.objs (evE s.env) (.aeq neg m x y)) n d s.env K := nrfl rfl
theorem Q_aeq {neg : Bool} {m : Nat} {x y : Operand} : QopsE P n objs0 (⟨d, none, .aeq neg m x y⟩ :: rest) KQ env cr = (qK (qstepK (objs0 ++ cr) objs0 (evE env) (objs0.length + cr.length) (.aeq neg m x y)) n d env cr (QopsE P n objs0 rest KQ)) := nrfl rfl
theorem Q_gaeq {neg : Bool} {m : Nat} {x y : Operand} {t : Nat} {w : Bool} : QopsE P n objs0 (⟨d, some (t, w), .aeq neg m x y⟩ :: rest) KQ env cr = guardE (gdB (lk env t)) w (qK (qstepK (objs0 ++ cr) objs0 (evE env) (objs0.length + cr.length) (.aeq neg m x y)) n d env cr (QopsE P n objs0 rest KQ)) (okD n d ∧ QopsE P n objs0 rest KQ (putE env d nov) cr) := nrfl rfl
theorem R_neg {x : Operand} : RstepE P n ⟨d, g, .neg x⟩ K s = optK (step1 s.objs (evE s.env) (.neg x)) n d s.env K := nrfl rfl
theorem Q_neg {x : Operand} : QopsE P n objs0 (⟨d, none, .neg x⟩ :: rest) KQ env cr = (qK (qstepK (objs0 ++ cr) objs0 (evE env) (objs0.length + cr.length) (.neg x)) n d env cr (QopsE P n objs0 rest KQ)) := nrfl rfl
theorem Q_gneg {x : Operand} {t : Nat} {w : Bool} : QopsE P n objs0 (⟨d, some (t, w), .neg x⟩ :: rest) KQ env cr = guardE (gdB (lk env t)) w (qK (qstepK (objs0 ++ cr) objs0 (evE env) (objs0.length + cr.length) (.neg x)) n d env cr (QopsE P n objs0 rest KQ)) (okD n d ∧ QopsE P n objs0 rest KQ (putE env d nov) cr) := nrfl rfl
theorem R_lnot {x : Operand} : RstepE P n ⟨d, g, .lnot x⟩ K s = optK (step1 s.objs (evE s.env) (.lnot x)) n d s.env K := nrfl rfl
theorem Q_lnot {x : Operand} : QopsE P n objs0 (⟨d, none, .lnot x⟩ :: rest) KQ env cr = (qK (qstepK (objs0 ++ cr) objs0 (evE env) (objs0.length + cr.length) (.lnot x)) n d env cr (QopsE P n objs0 rest KQ)) := nrfl rfl
theorem Q_glnot {x : Operand} {t : Nat} {w : Bool} : QopsE P n objs0 (⟨d, some (t, w), .lnot x⟩ :: rest) KQ env cr = guardE (gdB (lk env t)) w (qK (qstepK (objs0 ++ cr) objs0 (evE env) (objs0.length + cr.length) (.lnot x)) n d env cr (QopsE P n objs0 rest KQ)) (okD n d ∧ QopsE P n objs0 rest KQ (putE env d nov) cr) := nrfl rfl
theorem R_conv {k : IntKind} {x : Operand} : RstepE P n ⟨d, g, .conv k x⟩ K s = optK (step1 s.objs (evE s.env) (.conv k x)) n d s.env K := nrfl rfl
theorem Q_conv {k : IntKind} {x : Operand} : QopsE P n objs0 (⟨d, none, .conv k x⟩ :: rest) KQ env cr = (qK (qstepK (objs0 ++ cr) objs0 (evE env) (objs0.length + cr.length) (.conv k x)) n d env cr (QopsE P n objs0 rest KQ)) := nrfl rfl
theorem Q_gconv {k : IntKind} {x : Operand} {t : Nat} {w : Bool} : QopsE P n objs0 (⟨d, some (t, w), .conv k x⟩ :: rest) KQ env cr = guardE (gdB (lk env t)) w (qK (qstepK (objs0 ++ cr) objs0 (evE env) (objs0.length + cr.length) (.conv k x)) n d env cr (QopsE P n objs0 rest KQ)) (okD n d ∧ QopsE P n objs0 rest KQ (putE env d nov) cr) := nrfl rfl
theorem R_fieldAddr {off : Nat} {x : Operand} : RstepE P n ⟨d, g, .fieldAddr off x⟩ K s = optK (step1 s.objs (evE s.env) (.fieldAddr off x)) n d s.env K := nrfl rfl
theorem Q_fieldAddr {off : Nat} {x : Operand} : QopsE P n objs0 (⟨d, none, .fieldAddr off x⟩ :: rest) KQ env cr = (qK (qstepK (objs0 ++ cr) objs0 (evE env) (objs0.length + cr.length) (.fieldAddr off x)) n d env cr (QopsE P n objs0 rest KQ)) := nrfl rfl
theorem Q_gfieldAddr {off : Nat} {x : Operand} {t : Nat} {w : Bool} : QopsE P n objs0 (⟨d, some (t, w), .fieldAddr off x⟩ :: rest) KQ env cr = guardE (gdB (lk env t)) w (qK (qstepK (objs0 ++ cr) objs0 (evE env) (objs0.length + cr.length) (.fieldAddr off x)) n d env cr (QopsE P n objs0 rest KQ)) (okD n d ∧ QopsE P n objs0 rest KQ (putE env d nov) cr) := nrfl rfl
theorem R_field {agg : Bool} {off m : Nat} {x : Operand} : RstepE P n ⟨d, g, .field agg off m x⟩ K s = optK (step1 s.objs (evE s.env) (.field agg off m x)) n d s.env K := nrfl rfl
theorem Q_field {agg : Bool} {off m : Nat} {x : Operand} : QopsE P n objs0 (⟨d, none, .field agg off m x⟩ :: rest) KQ env cr = (qK (qstepK (objs0 ++ cr) objs0 (evE env) (objs0.length + cr.length) (.field agg off m x)) n d env cr (QopsE P n objs0 rest KQ)) := nrfl rfl
theorem Q_gfield {agg : Bool} {off m : Nat} {x : Operand} {t : Nat} {w : Bool} : QopsE P n objs0 (⟨d, some (t, w), .field agg off m x⟩ :: rest) KQ env cr = guardE (gdB (lk env t)) w (qK (qstepK (objs0 ++ cr) objs0 (evE env) (objs0.length + cr.length) (.field agg off m x)) n d env cr (QopsE P n objs0 rest KQ)) (okD n d ∧ QopsE P n objs0 rest KQ (putE env d nov) cr) := nrfl rfl
theorem R_idxS {size : Nat} {x i : Operand} : RstepE P n ⟨d, g, .idxS size x i⟩ K s = optK (step1 s.objs (evE s.env) (.idxS size x i)) n d s.env K := nrfl rfl
theorem Q_idxS {size : Nat} {x i : Operand} : QopsE P n objs0 (⟨d, none, .idxS size x i⟩ :: rest) KQ env cr = (qK (qstepK (objs0 ++ cr) objs0 (evE env) (objs0.length + cr.length) (.idxS size x i)) n d env cr (QopsE P n objs0 rest KQ)) := nrfl rfl
theorem Q_gidxS {size : Nat} {x i : Operand} {t : Nat} {w : Bool} : QopsE P n objs0 (⟨d, some (t, w), .idxS size x i⟩ :: rest) KQ env cr = guardE (gdB (lk env t)) w (qK (qstepK (objs0 ++ cr) objs0 (evE env) (objs0.length + cr.length) (.idxS size x i)) n d env cr (QopsE P n objs0 rest KQ)) (okD n d ∧ QopsE P n objs0 rest KQ (putE env d nov) cr) := nrfl rfl
theorem R_idxA {len size : Nat} {x i : Operand} : RstepE P n ⟨d, g, .idxA len size x i⟩ K s = optK (step1 s.objs (evE s.env) (.idxA len size x i)) n d s.env K := nrfl rfl
theorem Q_idxA {len size : Nat} {x i : Operand} : QopsE P n objs0 (⟨d, none, .idxA len size x i⟩ :: rest) KQ env cr = (qK (qstepK (objs0 ++ cr) objs0 (evE env) (objs0.length + cr.length) (.idxA len size x i)) n d env cr (QopsE P n objs0 rest KQ)) := nrfl rfl
theorem Q_gidxA {len size : Nat} {x i : Operand} {t : Nat} {w : Bool} : QopsE P n objs0 (⟨d, some (t, w), .idxA len size x i⟩ :: rest) KQ env cr = guardE (gdB (lk env t)) w (qK (qstepK (objs0 ++ cr) objs0 (evE env) (objs0.length + cr.length) (.idxA len size x i)) n d env cr (QopsE P n objs0 rest KQ)) (okD n d ∧ QopsE P n objs0 rest KQ (putE env d nov) cr) := nrfl rfl
theorem R_idxV {agg : Bool} {len size : Nat} {x i : Operand} : RstepE P n ⟨d, g, .idxV agg len size x i⟩ K s = optK (step1 s.objs (evE s.env) (.idxV agg len size x i)) n d s.env K := nrfl rfl
theorem Q_idxV {agg : Bool} {len size : Nat} {x i : Operand} : QopsE P n objs0 (⟨d, none, .idxV agg len size x i⟩ :: rest) KQ env cr = (qK (qstepK (objs0 ++ cr) objs0 (evE env) (objs0.length + cr.length) (.idxV agg len size x i)) n d env cr (QopsE P n objs0 rest KQ)) := nrfl rfl
theorem Q_gidxV {agg : Bool} {len size : Nat} {x i : Operand} {t : Nat} {w : Bool} : QopsE P n objs0 (⟨d, some (t, w), .idxV agg len size x i⟩ :: rest) KQ env cr = guardE (gdB (lk env t)) w (qK (qstepK (objs0 ++ cr) objs0 (evE env) (objs0.length + cr.length) (.idxV agg len size x i)) n d env cr (QopsE P n objs0 rest KQ)) (okD n d ∧ QopsE P n objs0 rest KQ (putE env d nov) cr) := nrfl rfl
theorem R_extract {x : Operand} {i : Nat} : RstepE P n ⟨d, g, .extract x i⟩ K s = optK (step1 s.objs (evE s.env) (.extract x i)) n d s.env K := nrfl rfl
theorem Q_extract {x : Operand} {i : Nat} : QopsE P n objs0 (⟨d, none, .extract x i⟩ :: rest) KQ env cr = (qK (qstepK (objs0 ++ cr) objs0 (evE env) (objs0.length + cr.length) (.extract x i)) n d env cr (QopsE P n objs0 rest KQ)) := nrfl rfl
theorem Q_gextract {x : Operand} {i : Nat} {t : Nat} {w : Bool} : QopsE P n objs0 (⟨d, some (t, w), .extract x i⟩ :: rest) KQ env cr = guardE (gdB (lk env t)) w (qK (qstepK (objs0 ++ cr) objs0 (evE env) (objs0.length + cr.length) (.extract x i)) n d env cr (QopsE P n objs0 rest KQ)) (okD n d ∧ QopsE P n objs0 rest KQ (putE env d nov) cr) := nrfl rfl
theorem R_slice {size : Nat} {x : Operand} {lo hi : Option Operand} : RstepE P n ⟨d, g, .slice size x lo hi⟩ K s = optK (step1 s.objs (evE s.env) (.slice size x lo hi)) n d s.env K := nrfl rfl
theorem Q_slice {size : Nat} {x : Operand} {lo hi : Option Operand} : QopsE P n objs0 (⟨d, none, .slice size x lo hi⟩ :: rest) KQ env cr = (qK (qstepK (objs0 ++ cr) objs0 (evE env) (objs0.length + cr.length) (.slice size x lo hi)) n d env cr (QopsE P n objs0 rest KQ)) := nrfl rfl
theorem Q_gslice {size : Nat} {x : Operand} {lo hi : Option Operand} {t : Nat} {w : Bool} : QopsE P n objs0 (⟨d, some (t, w), .slice size x lo hi⟩ :: rest) KQ env cr = guardE (gdB (lk env t)) w (qK (qstepK (objs0 ++ cr) objs0 (evE env) (objs0.length + cr.length) (.slice size x lo hi)) n d env cr (QopsE P n objs0 rest KQ)) (okD n d ∧ QopsE P n objs0 rest KQ (putE env d nov) cr) := nrfl rfl
theorem R_slice3 {size : Nat} {x : Operand} {lo : Option Operand} {hi mx : Operand} : RstepE P n ⟨d, g, .slice3 size x lo hi mx⟩ K s = optK (step1 s.objs (evE s.env) (.slice3 size x lo hi mx)) n d s.env K := nrfl rfl
theorem Q_slice3 {size : Nat} {x : Operand} {lo : Option Operand} {hi mx : Operand} : QopsE P n objs0 (⟨d, none, .slice3 size x lo hi mx⟩ :: rest) KQ env cr = (qK (qstepK (objs0 ++ cr) objs0 (evE env) (objs0.length + cr.length) (.slice3 size x lo hi mx)) n d env cr (QopsE P n objs0 rest KQ)) := nrfl rfl
theorem Q_gslice3 {size : Nat} {x : Operand} {lo : Option Operand} {hi mx : Operand} {t : Nat} {w : Bool} : QopsE P n objs0 (⟨d, some (t, w), .slice3 size x lo hi mx⟩ :: rest) KQ env cr = guardE (gdB (lk env t)) w (qK (qstepK (objs0 ++ cr) objs0 (evE env) (objs0.length + cr.length) (.slice3 size x lo hi mx)) n d env cr (QopsE P n objs0 rest KQ)) (okD n d ∧ QopsE P n objs0 rest KQ (putE env d nov) cr) := nrfl rfl
theorem R_mkslice {elem : TypeId} {size bytes : Nat} {z : AV} {len cap : Operand} : RstepE P n ⟨d, g, .mkslice elem size bytes z len cap⟩ K s = optK (step1 s.objs (evE s.env) (.mkslice elem size bytes z len cap)) n d s.env K := nrfl rfl
theorem Q_mkslice {elem : TypeId} {size bytes : Nat} {z : AV} {len cap : Operand} : QopsE P n objs0 (⟨d, none, .mkslice elem size bytes z len cap⟩ :: rest) KQ env cr = (qK (qstepK (objs0 ++ cr) objs0 (evE env) (objs0.length + cr.length) (.mkslice elem size bytes z len cap)) n d env cr (QopsE P n objs0 rest KQ)) := nrfl rfl
theorem Q_gmkslice {elem : TypeId} {size bytes : Nat} {z : AV} {len cap : Operand} {t : Nat} {w : Bool} : QopsE P n objs0 (⟨d, some (t, w), .mkslice elem size bytes z len cap⟩ :: rest) KQ env cr = guardE (gdB (lk env t)) w (qK (qstepK (objs0 ++ cr) objs0 (evE env) (objs0.length + cr.length) (.mkslice elem size bytes z len cap)) n d env cr (QopsE P n objs0 rest KQ)) (okD n d ∧ QopsE P n objs0 rest KQ (putE env d nov) cr) := nrfl rfl
theorem R_build {z : List AV} {parts : List (Nat × Nat × Operand)} : RstepE P n ⟨d, g, .build z parts⟩ K s = optK (step1 s.objs (evE s.env) (.build z parts)) n d s.env K := nrfl rfl
theorem Q_build {z : List AV} {parts : List (Nat × Nat × Operand)} : QopsE P n objs0 (⟨d, none, .build z parts⟩ :: rest) KQ env cr = (qK (qstepK (objs0 ++ cr) objs0 (evE env) (objs0.length + cr.length) (.build z parts)) n d env cr (QopsE P n objs0 rest KQ)) := nrfl rfl
theorem Q_gbuild {z : List AV} {parts : List (Nat × Nat × Operand)} {t : Nat} {w : Bool} : QopsE P n objs0 (⟨d, some (t, w), .build z parts⟩ :: rest) KQ env cr = guardE (gdB (lk env t)) w (qK (qstepK (objs0 ++ cr) objs0 (evE env) (objs0.length + cr.length) (.build z parts)) n d env cr (QopsE P n objs0 rest KQ)) (okD n d ∧ QopsE P n objs0 rest KQ (putE env d nov) cr) := nrfl rfl
theorem R_bslice {elem : TypeId} {size : Nat} {parts : List Operand} : RstepE P n ⟨d, g, .bslice elem size parts⟩ K s = optK (step1 s.objs (evE s.env) (.bslice elem size parts)) n d s.env K := nrfl rfl
theorem Q_bslice {elem : TypeId} {size : Nat} {parts : List Operand} : QopsE P n objs0 (⟨d, none, .bslice elem size parts⟩ :: rest) KQ env cr = (qK (qstepK (objs0 ++ cr) objs0 (evE env) (objs0.length + cr.length) (.bslice elem size parts)) n d env cr (QopsE P n objs0 rest KQ)) := nrfl rfl
theorem Q_gbslice {elem : TypeId} {size : Nat} {parts : List Operand} {t : Nat} {w : Bool} : QopsE P n objs0 (⟨d, some (t, w), .bslice elem size parts⟩ :: rest) KQ env cr = guardE (gdB (lk env t)) w (qK (qstepK (objs0 ++ cr) objs0 (evE env) (objs0.length + cr.length) (.bslice elem size parts)) n d env cr (QopsE P n objs0 rest KQ)) (okD n d ∧ QopsE P n objs0 rest KQ (putE env d nov) cr) := nrfl rfl
theorem R_len {x : Operand} : RstepE P n ⟨d, g, .len x⟩ K s = optK (step1 s.objs (evE s.env) (.len x)) n d s.env K := nrfl rfl
theorem Q_len {x : Operand} : QopsE P n objs0 (⟨d, none, .len x⟩ :: rest) KQ env cr = (qK (qstepK (objs0 ++ cr) objs0 (evE env) (objs0.length + cr.length) (.len x)) n d env cr (QopsE P n objs0 rest KQ)) := nrfl rfl
theorem Q_glen {x : Operand} {t : Nat} {w : Bool} : QopsE P n objs0 (⟨d, some (t, w), .len x⟩ :: rest) KQ env cr = guardE (gdB (lk env t)) w (qK (qstepK (objs0 ++ cr) objs0 (evE env) (objs0.length + cr.length) (.len x)) n d env cr (QopsE P n objs0 rest KQ)) (okD n d ∧ QopsE P n objs0 rest KQ (putE env d nov) cr) := nrfl rfl
theorem R_lenA {m : Nat} : RstepE P n ⟨d, g, .lenA m⟩ K s = optK (step1 s.objs (evE s.env) (.lenA m)) n d s.env K := nrfl rfl
theorem Q_lenA {m : Nat} : QopsE P n objs0 (⟨d, none, .lenA m⟩ :: rest) KQ env cr = (qK (qstepK (objs0 ++ cr) objs0 (evE env) (objs0.length + cr.length) (.lenA m)) n d env cr (QopsE P n objs0 rest KQ)) := nrfl rfl
theorem Q_glenA {m : Nat} {t : Nat} {w : Bool} : QopsE P n objs0 (⟨d, some (t, w), .lenA m⟩ :: rest) KQ env cr = guardE (gdB (lk env t)) w (qK (qstepK (objs0 ++ cr) objs0 (evE env) (objs0.length + cr.length) (.lenA m)) n d env cr (QopsE P n objs0 rest KQ)) (okD n d ∧ QopsE P n objs0 rest KQ (putE env d nov) cr) := nrfl rfl
theorem R_imin {x y : Operand} : RstepE P n ⟨d, g, .imin x y⟩ K s = optK (step1 s.objs (evE s.env) (.imin x y)) n d s.env K := nrfl rfl
theorem Q_imin {x y : Operand} : QopsE P n objs0 (⟨d, none, .imin x y⟩ :: rest) KQ env cr = (qK (qstepK (objs0 ++ cr) objs0 (evE env) (objs0.length + cr.length) (.imin x y)) n d env cr (QopsE P n objs0 rest KQ)) := nrfl rfl
theorem Q_gimin {x y : Operand} {t : Nat} {w : Bool} : QopsE P n objs0 (⟨d, some (t, w), .imin x y⟩ :: rest) KQ env cr = guardE (gdB (lk env t)) w (qK (qstepK (objs0 ++ cr) objs0 (evE env) (objs0.length + cr.length) (.imin x y)) n d env cr (QopsE P n objs0 rest KQ)) (okD n d ∧ QopsE P n objs0 rest KQ (putE env d nov) cr) := nrfl rfl
theorem R_imax {x y : Operand} : RstepE P n ⟨d, g, .imax x y⟩ K s = optK (step1 s.objs (evE s.env) (.imax x y)) n d s.env K := nrfl rfl
theorem Q_imax {x y : Operand} : QopsE P n objs0 (⟨d, none, .imax x y⟩ :: rest) KQ env cr = (qK (qstepK (objs0 ++ cr) objs0 (evE env) (objs0.length + cr.length) (.imax x y)) n d env cr (QopsE P n objs0 rest KQ)) := nrfl rfl
theorem Q_gimax {x y : Operand} {t : Nat} {w : Bool} : QopsE P n objs0 (⟨d, some (t, w), .imax x y⟩ :: rest) KQ env cr = guardE (gdB (lk env t)) w (qK (qstepK (objs0 ++ cr) objs0 (evE env) (objs0.length + cr.length) (.imax x y)) n d env cr (QopsE P n objs0 rest KQ)) (okD n d ∧ QopsE P n objs0 rest KQ (putE env d nov) cr) := nrfl rfl
theorem R_mkfunc {fn : Fn} {cap : List Operand} : RstepE P n ⟨d, g, .mkfunc fn cap⟩ K s = optK (step1 s.objs (evE s.env) (.mkfunc fn cap)) n d s.env K := nrfl rfl
theorem Q_mkfunc {fn : Fn} {cap : List Operand} : QopsE P n objs0 (⟨d, none, .mkfunc fn cap⟩ :: rest) KQ env cr = (qK (qstepK (objs0 ++ cr) objs0 (evE env) (objs0.length + cr.length) (.mkfunc fn cap)) n d env cr (QopsE P n objs0 rest KQ)) := nrfl rfl
theorem Q_gmkfunc {fn : Fn} {cap : List Operand} {t : Nat} {w : Bool} : QopsE P n objs0 (⟨d, some (t, w), .mkfunc fn cap⟩ :: rest) KQ env cr = guardE (gdB (lk env t)) w (qK (qstepK (objs0 ++ cr) objs0 (evE env) (objs0.length + cr.length) (.mkfunc fn cap)) n d env cr (QopsE P n objs0 rest KQ)) (okD n d ∧ QopsE P n objs0 rest KQ (putE env d nov) cr) := nrfl rfl
theorem R_store {m : Nat} {x v : Operand} : RstepE P n ⟨d, g, .store m x v⟩ K s = optK (step1 s.objs (evE s.env) (.store m x v)) n d s.env K := nrfl rfl
theorem Q_store {m : Nat} {x v : Operand} : QopsE P n objs0 (⟨d, none, .store m x v⟩ :: rest) KQ env cr = (qK (qstepK (objs0 ++ cr) objs0 (evE env) (objs0.length + cr.length) (.store m x v)) n d env cr (QopsE P n objs0 rest KQ)) := nrfl rfl
theorem Q_gstore {m : Nat} {x v : Operand} {t : Nat} {w : Bool} : QopsE P n objs0 (⟨d, some (t, w), .store m x v⟩ :: rest) KQ env cr = guardE (gdB (lk env t)) w (qK (qstepK (objs0 ++ cr) objs0 (evE env) (objs0.length + cr.length) (.store m x v)) n d env cr (QopsE P n objs0 rest KQ)) (okD n d ∧ QopsE P n objs0 rest KQ (putE env d nov) cr) := nrfl rfl
theorem R_append {elem : TypeId} {size bytes : Nat} {sl x : Operand} : RstepE P n ⟨d, g, .append elem size bytes sl x⟩ K s = optK (step1 s.objs (evE s.env) (.append elem size bytes sl x)) n d s.env K := nrfl rfl
theorem Q_append {elem : TypeId} {size bytes : Nat} {sl x : Operand} : QopsE P n objs0 (⟨d, none, .append elem size bytes sl x⟩ :: rest) KQ env cr = (qK (qstepK (objs0 ++ cr) objs0 (evE env) (objs0.length + cr.length) (.append elem size bytes sl x)) n d env cr (QopsE P n objs0 rest KQ)) := nrfl rfl
theorem Q_gappend {elem : TypeId} {size bytes : Nat} {sl x : Operand} {t : Nat} {w : Bool} : QopsE P n objs0 (⟨d, some (t, w), .append elem size bytes sl x⟩ :: rest) KQ env cr = guardE (gdB (lk env t)) w (qK (qstepK (objs0 ++ cr) objs0 (evE env) (objs0.length + cr.length) (.append elem size bytes sl x)) n d env cr (QopsE P n objs0 rest KQ)) (okD n d ∧ QopsE P n objs0 rest KQ (putE env d nov) cr) := nrfl rfl
theorem R_isNil {sl neg : Bool} {x y : Operand} : RstepE P n ⟨d, g, .isNil sl neg x y⟩ K s = optK (step1 s.objs (evE s.env) (.isNil sl neg x y)) n d s.env K := nrfl rfl
theorem Q_isNil {sl neg : Bool} {x y : Operand} : QopsE P n objs0 (⟨d, none, .isNil sl neg x y⟩ :: rest) KQ env cr = (qK (qstepK (objs0 ++ cr) objs0 (evE env) (objs0.length + cr.length) (.isNil sl neg x y)) n d env cr (QopsE P n objs0 rest KQ)) := nrfl rfl
theorem Q_gisNil {sl neg : Bool} {x y : Operand} {t : Nat} {w : Bool} : QopsE P n objs0 (⟨d, some (t, w), .isNil sl neg x y⟩ :: rest) KQ env cr = guardE (gdB (lk env t)) w (qK (qstepK (objs0 ++ cr) objs0 (evE env) (objs0.length + cr.length) (.isNil sl neg x y)) n d env cr (QopsE P n objs0 rest KQ)) (okD n d ∧ QopsE P n objs0 rest KQ (putE env d nov) cr) := nrfl rfl
theorem R_copy {m : Nat} {x y : Operand} : RstepE P n ⟨d, g, .copy m x y⟩ K s = optK (step1 s.objs (evE s.env) (.copy m x y)) n d s.env K := nrfl rfl
theorem Q_copy {m : Nat} {x y : Operand} : QopsE P n objs0 (⟨d, none, .copy m x y⟩ :: rest) KQ env cr = (qK (qstepK (objs0 ++ cr) objs0 (evE env) (objs0.length + cr.length) (.copy m x y)) n d env cr (QopsE P n objs0 rest KQ)) := nrfl rfl
theorem Q_gcopy {m : Nat} {x y : Operand} {t : Nat} {w : Bool} : QopsE P n objs0 (⟨d, some (t, w), .copy m x y⟩ :: rest) KQ env cr = guardE (gdB (lk env t)) w (qK (qstepK (objs0 ++ cr) objs0 (evE env) (objs0.length + cr.length) (.copy m x y)) n d env cr (QopsE P n objs0 rest KQ)) (okD n d ∧ QopsE P n objs0 rest KQ (putE env d nov) cr) := nrfl rfl
theorem R_bad : RstepE P n ⟨d, g, .bad⟩ K s = optK (step1 s.objs (evE s.env) (.bad)) n d s.env K := nrfl rfl
theorem Q_bad : QopsE P n objs0 (⟨d, none, .bad⟩ :: rest) KQ env cr = (qK (qstepK (objs0 ++ cr) objs0 (evE env) (objs0.length + cr.length) (.bad)) n d env cr (QopsE P n objs0 rest KQ)) := nrfl rfl
theorem Q_gbad {t : Nat} {w : Bool} : QopsE P n objs0 (⟨d, some (t, w), .bad⟩ :: rest) KQ env cr = guardE (gdB (lk env t)) w (qK (qstepK (objs0 ++ cr) objs0 (evE env) (objs0.length + cr.length) (.bad)) n d env cr (QopsE P n objs0 rest KQ)) (okD n d ∧ QopsE P n objs0 rest KQ (putE env d nov) cr) := nrfl rfl
theorem R_empS : RstepE P n ⟨d, g, .empS⟩ K s = optK (step1 s.objs (evE s.env) .empS) n d s.env K := nrfl rfl
theorem Q_empS : QopsE P n objs0 (⟨d, none, .empS⟩ :: rest) KQ env cr = (qK (qstepK (objs0 ++ cr) objs0 (evE env) (objs0.length + cr.length) .empS) n d env cr (QopsE P n objs0 rest KQ)) := nrfl rfl
theorem Q_gempS {t : Nat} {w : Bool} : QopsE P n objs0 (⟨d, some (t, w), .empS⟩ :: rest) KQ env cr = guardE (gdB (lk env t)) w (qK (qstepK (objs0 ++ cr) objs0 (evE env) (objs0.length + cr.length) .empS) n d env cr (QopsE P n objs0 rest KQ)) (okD n d ∧ QopsE P n objs0 rest KQ (putE env d nov) cr) := nrfl rfl
theorem R_appE {elem : TypeId} {size bytes : Nat} {sl x : Operand} : RstepE P n ⟨d, g, .appE elem size bytes sl x⟩ K s = optK (step1 s.objs (evE s.env) (.appE elem size bytes sl x)) n d s.env K := nrfl rfl
theorem Q_appE {elem : TypeId} {size bytes : Nat} {sl x : Operand} : QopsE P n objs0 (⟨d, none, .appE elem size bytes sl x⟩ :: rest) KQ env cr = (qK (qstepK (objs0 ++ cr) objs0 (evE env) (objs0.length + cr.length) (.appE elem size bytes sl x)) n d env cr (QopsE P n objs0 rest KQ)) := nrfl rfl
theorem Q_gappE {elem : TypeId} {size bytes : Nat} {sl x : Operand} {t : Nat} {w : Bool} : QopsE P n objs0 (⟨d, some (t, w), .appE elem size bytes sl x⟩ :: rest) KQ env cr = guardE (gdB (lk env t)) w (qK (qstepK (objs0 ++ cr) objs0 (evE env) (objs0.length + cr.length) (.appE elem size bytes sl x)) n d env cr (QopsE P n objs0 rest KQ)) (okD n d ∧ QopsE P n objs0 rest KQ (putE env d nov) cr) := nrfl rfl
theorem evE_t {env : List (Nat × AV)} {t : Nat} : evE env (.tmp t) = lk env t := nrfl rfl
theorem evE_c {env : List (Nat × AV)} {v : Value} : evE env (.const v) = ofV v := nrfl rfl
theorem evE_f {env : List (Nat × AV)} {f : FuncId} : evE env (.func f) = .clo (.func f) [] := nrfl rfl
/-- No proof by rfl: a congruence's hypothesis takes none. -/
theorem asB_b {b : Bool} : asB (.val (.bool b)) = some b := by cases b <;> rfl
theorem thenE_n {A : Est → Prop} : thenE A Q .normal s = A s := nrfl rfl
theorem thenE_x {A : Est → Prop} {i : Nat} : thenE A Q (.exit i) s = Q (.exit i) s := nrfl rfl
theorem thenE_r {A : Est → Prop} : thenE A Q .ret s = Q .ret s := nrfl rfl
theorem thenE_g {A : Est → Prop} {l : Nat} : thenE A Q (.goto l) s = Q (.goto l) s := nrfl rfl
theorem inBlockE_n {id : Nat} : inBlockE id Q .normal s = Q .normal s := nrfl rfl
theorem inBlockE_x {id i : Nat} : inBlockE id Q (.exit i) s = if i = id then Q .normal s else Q (.exit i) s := nrfl rfl
theorem inBlockE_r {id : Nat} : inBlockE id Q .ret s = Q .ret s := nrfl rfl
theorem noGotoE_n : noGotoE Q .normal s = Q .normal s := nrfl rfl
theorem noGotoE_x {i : Nat} : noGotoE Q (.exit i) s = Q (.exit i) s := nrfl rfl
theorem noGotoE_r : noGotoE Q .ret s = Q .ret s := nrfl rfl
theorem retE_n {rs : List CRes} {r : AV} : retE rs r .normal s = ∃ y, resAllE s rs = some y ∧ Snap s.objs y r := nrfl rfl
theorem retE_r {rs : List CRes} {r : AV} : retE rs r .ret s = ∃ y, resAllE s rs = some y ∧ Snap s.objs y r := nrfl rfl
theorem RoundX_n {I : Nat → Est → Prop} {k x : Nat} {J : Est → Prop} : RoundX n I k x J Q .normal s = ∃ m s', m < k ∧ WkE n s s' ∧ I m s' := nrfl rfl
theorem RoundX_x {I : Nat → Est → Prop} {k x i : Nat} {J : Est → Prop} : RoundX n I k x J Q (.exit i) s = if i = x then ∃ s', WkE n s s' ∧ J s' else Q (.exit i) s := nrfl rfl
theorem RoundX_r {I : Nat → Est → Prop} {k x : Nat} {J : Est → Prop} : RoundX n I k x J Q .ret s = Q .ret s := nrfl rfl
theorem RoundE_n {I : Nat → Est → Prop} {k : Nat} : RoundE n I k Q .normal s = ∃ m s', m < k ∧ WkE n s s' ∧ I m s' := nrfl rfl
theorem RoundE_x {I : Nat → Est → Prop} {k i : Nat} : RoundE n I k Q (.exit i) s = Q (.exit i) s := nrfl rfl
theorem RoundE_r {I : Nat → Est → Prop} {k : Nat} : RoundE n I k Q .ret s = Q .ret s := nrfl rfl
theorem resE_t {t : Nat} : resE s (.tmp t) = some (lk s.env t) := nrfl rfl
theorem lk_cons {k t : Nat} {v : AV} {r : List (Nat × AV)} : lk ((k, v) :: r) t = if k = t then v else lk r t := nrfl rfl
theorem lk_nil {t : Nat} : lk [] t = .junk := nrfl rfl
def cutK (P : Program) (n : Nat) (post : List (COper × List COper)) (t : PT) (K : Est → Prop) (objs : List AObj) (env : List (Nat × AV)) (cr : List AObj) : Prop := RopsLE P n post (RTE P n t K) ⟨env, objs ++ cr⟩
theorem cutK_r {P : Program} {n : Nat} {post : List (COper × List COper)} {t : PT} {K : Est → Prop} {objs : List AObj} {env : List (Nat × AV)} {cr : List AObj} : cutK P n post t K objs env cr = RopsLE P n post (RTE P n t K) ⟨env, objs ++ cr⟩ := nrfl rfl
theorem vd_cut {pre post t} : vcE P F0 w0 n (.cut pre post t) Q s = QopsE P n s.objs pre (cutK P n post t (Q .normal) s.objs) s.env [] := nrfl rfl
theorem RT_done : RTE P n .done K s = K s := nrfl rfl
theorem RT_stop : RTE P n .stop K s = True := nrfl rfl
theorem RT_alt {op : COp} {sub next : PT} : RTE P n (.alt ⟨d, none, op⟩ sub next) K s = (RstepE P n ⟨d, none, op⟩ (RTE P n sub K) s ∧ RTE P n next K s) := nrfl rfl
theorem RT_altg {op : COp} {t : Nat} {w : Bool} {sub next : PT} : RTE P n (.alt ⟨d, some (t, w), op⟩ sub next) K s = (guardE (gdB (lk s.env t)) w (RstepE P n ⟨d, some (t, w), op⟩ (RTE P n sub K) s) (okD n d ∧ RTE P n sub K ⟨putE s.env d nov, s.objs⟩) ∧ RTE P n next K s) := nrfl rfl
attribute [go_sem] cutK_r vd_cut RT_done RT_stop RT_alt RT_altg and_true
attribute [go_sem] guardE_n gdB_b gdB_n condE_t condE_f vc_skip vc_region vd_drawn vc_seq vc_cond vc_block vc_loop vc_exit vc_scope vc_ret guardE_tt guardE_ff guardE_tf guardE_ft optK_some qK_none qK_some lateK drawnK R_nil R_cons R_guard R_call RL_nil RL_cons
  RL_guard Q_nil Q_call Q_gcall R_mov Q_mov Q_gmov R_pick Q_pick Q_gpick R_alloc Q_alloc Q_galloc R_box Q_box Q_gbox R_load Q_load Q_gload R_nilCheck Q_nilCheck Q_gnilCheck R_ibin Q_ibin Q_gibin R_bbin Q_bbin Q_gbbin R_aeq
  Q_aeq Q_gaeq R_neg Q_neg Q_gneg R_lnot Q_lnot Q_glnot R_conv Q_conv Q_gconv R_fieldAddr Q_fieldAddr Q_gfieldAddr R_field Q_field Q_gfield R_idxS Q_idxS Q_gidxS R_idxA Q_idxA Q_gidxA R_idxV Q_idxV Q_gidxV R_extract
  Q_extract Q_gextract R_slice Q_slice Q_gslice R_slice3 Q_slice3 Q_gslice3 R_mkslice Q_mkslice Q_gmkslice R_build Q_build Q_gbuild R_bslice Q_bslice Q_gbslice R_len Q_len Q_glen R_lenA Q_lenA Q_glenA R_imin Q_imin Q_gimin R_imax Q_imax Q_gimax
  R_mkfunc Q_mkfunc Q_gmkfunc R_store Q_store Q_gstore R_append Q_append Q_gappend R_isNil Q_isNil Q_gisNil R_copy Q_copy Q_gcopy R_bad Q_bad Q_gbad R_empS Q_empS Q_gempS R_appE Q_appE Q_gappE LatesE evE_t evE_c evE_f putE lk_cons lk_nil okD step1 qstep qstepK qop ofV COp.stores AV.kn AV.fits AV.one AV.isT AV.isT1 AV.cells asI asB_b ibinV bnd bnd1
  cellsAt fillA Dak.upd storeA appendA copyA srcOf recell resAllE resE envOf Nat.le_refl List.mapM_cons List.mapM_nil List.map_cons List.map_nil List.all_cons List.all_nil List.length_cons List.length_nil List.length_append
  List.append_nil List.nil_append List.cons_append Option.bind_some Option.bind_none Option.map_some Option.map_none Option.pure_def Option.some.injEq exists_eq_left' true_and and_true if_true if_false ite_true ite_false
  Bool.false_eq_true Bool.true_eq_false Bool.and_true Bool.true_and Bool.and_false Bool.false_and ne_eq not_true_eq_false not_false_eq_true forall_const false_implies true_implies implies_true Bool.not_eq_false
  Bool.not_eq_true List.getElem?_cons_zero List.getElem?_cons_succ List.set_cons_zero List.set_cons_succ Value.oneCell' beq_self_eq_true decide_true decide_false Nat.add_zero Nat.zero_add AV.val.injEq Value.int.injEq
  Value.bool.injEq Bool.not_true Bool.not_false bne_self_eq_false IntKind.bits Nat.lt_add_one Nat.zero_lt_succ Nat.one_ne_zero List.length_map List.drop_zero List.take_length List.take_succ_cons List.take_zero
  List.drop_succ_cons Agree List.head?_cons or_true true_or or_false false_or and_self Int.toNat_natCast List.set_nil List.replicate_zero List.drop_nil List.take_nil List.length_range
  List.take_of_length_le thenE_n thenE_x thenE_r thenE_g inBlockE_n inBlockE_x inBlockE_r noGotoE_n noGotoE_x noGotoE_r retE_n retE_r RoundX_n RoundX_x RoundX_r RoundE_n RoundE_x RoundE_r Option.bind_eq_bind
end Dak
