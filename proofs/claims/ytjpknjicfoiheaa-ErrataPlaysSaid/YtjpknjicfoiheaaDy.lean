/- A test whose outcome is known. -/
import Derived.Test.YtjpknjicfoiheaaDx
set_option linter.unusedSimpArgs false
set_option linter.unusedVariables false
set_option linter.unusedSectionVars false
namespace Dak
open Go Go.RowKit
variable {P : Program} {F0 : FD} {w0 : World} {n : Nat}
theorem CwpE.cond_b {c : Operand} {a b : CCode} {Q : Exit → Est → Prop} {s : Est} (t : Bool) (hc : asB (evE s.env c) = some t) (h : CwpE P F0 w0 n (if t then a else b) Q s) : CwpE P F0 w0 n (.cond c a b) Q s := by
  intro hk code hcode a' w hs
  cases code with
  | cond c' a'' b'' =>
    simp only [compC, Option.bind_eq_some_iff, Option.map_eq_some_iff, CCode.cond.injEq] at hcode
    obtain ⟨x', hx, y', hy, rfl, rfl, rfl⟩ := hcode
    have hv : a'.eval c' = .bool t := by
      obtain ⟨hd, L, g, hs1, ht1⟩ := hs
      refine asB_ok (ev_ok (objs := s.objs) hs1 ht1 c') ?_
      show asB (St.ev (toT n s.env) c') = some t
      rw [ev_toT hk]; exact hc
    refine wp_cond hv ?_
    cases t with
    | true => exact h hk _ hx a' w hs
    | false => exact h hk _ hy a' w hs
  | region id ops d => rcases compC_reg hcode with ⟨_, _, h⟩ | ⟨_, _, h⟩ | ⟨_, _, _, h⟩ <;> cases h
  | _ => simp [compC, Option.bind_eq_some_iff] at hcode
theorem CwpE.cond_t {c : Operand} {a b : CCode} {Q : Exit → Est → Prop} {s : Est} (hc : asB (evE s.env c) = some true) (h : CwpE P F0 w0 n a Q s) : CwpE P F0 w0 n (.cond c a b) Q s := CwpE.cond_b true hc h
theorem CwpE.cond_f {c : Operand} {a b : CCode} {Q : Exit → Est → Prop} {s : Est} (hc : asB (evE s.env c) = some false) (h : CwpE P F0 w0 n b Q s) : CwpE P F0 w0 n (.cond c a b) Q s := CwpE.cond_b false hc h
theorem CwpE.skip {Q : Exit → Est → Prop} {s : Est} (h : Q .normal s) : CwpE P F0 w0 n .skip Q s := CwpE.vc h
end Dak
