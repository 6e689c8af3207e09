/- The table of greatest times: the plain law. -/
import Derived.Test.YtphcaelkpgdbcaaPc
set_option linter.unusedSimpArgs false
set_option linter.unusedVariables false
set_option linter.unusedSectionVars false
namespace Go.Proofs.Ytphcaelkpgdbcaa
open Go.RowKit Dak
/-- A row out of the one behind it. -/
def nextR (a b : Int) (R : List Int) : List Int := (List.range R.length).map fun c : Nat => if a ≤ c then max (R.getD c 0) (b + R.getD (c - a.toNat) 0) else R.getD c 0
/-- The table, from the last row on. -/
def tabA : List Int → List Int → Nat → List (List Int)
  | a :: p, b :: o, m => nextR a b ((tabA p o m).headD []) :: tabA p o m
  | _, _, m => [List.replicate (m + 1) 0]
def rowQ (p o : List Int) (m q : Nat) : List Int := (tabA (p.drop q) (o.drop q) m).headD []
theorem tabA_ne (p o : List Int) (m : Nat) : ∃ r T, tabA p o m = r :: T := by
  cases p with
  | nil => exact ⟨_, _, rfl⟩
  | cons a p => cases o with
    | nil => exact ⟨_, _, rfl⟩
    | cons b o => exact ⟨_, _, rfl⟩
theorem rowQ_last {p o : List Int} (m : Nat) : rowQ p o m p.length = List.replicate (m + 1) 0 := by
  unfold rowQ
  rw [List.drop_length]
  cases o.drop p.length <;> rfl
theorem rowQ_step {p o : List Int} (m : Nat) {q : Nat} (hp : q < p.length) (ho : q < o.length) : rowQ p o m q = nextR p[q] o[q] (rowQ p o m (q + 1)) := by
  unfold rowQ
  rw [List.drop_eq_getElem_cons hp, List.drop_eq_getElem_cons ho]; rfl
theorem tabA_rows {p o : List Int} (h : p.length = o.length) (m : Nat) : tabA p o m = (List.range (p.length + 1)).map (rowQ p o m) := by
  induction p generalizing o with
  | nil => cases o <;> first | rfl | simp at h
  | cons a p ih =>
    cases o with
    | nil => simp at h
    | cons b o =>
      have ih := ih (o := o) (by simpa using h)
      rw [List.length_cons, List.range_succ_eq_map, List.map_cons, List.map_map]
      have e1 : rowQ (a :: p) (b :: o) m ∘ Nat.succ = rowQ p o m := rfl
      have e2 : rowQ (a :: p) (b :: o) m 0 = nextR a b ((tabA p o m).headD []) := rfl
      rw [e1, e2, ← ih]
      rfl
theorem rowQ_bd {p o : List Int} {lim : Int} (h : OkQ p o lim) (m : Nat) : ∀ d q, q + d = p.length → (rowQ p o m q).length = m + 1 ∧ ∀ x ∈ rowQ p o m q, 0 ≤ x ∧ x ≤ d * 1000000
  | 0, q, hq => by
    obtain rfl : q = p.length := by omega
    rw [rowQ_last]
    refine ⟨by simp, fun x hx => ?_⟩
    rw [(List.mem_replicate.1 hx).2]; omega
  | d + 1, q, hq => by
    have hl := h.len
    obtain ⟨i1, i2⟩ := rowQ_bd h m d (q + 1) (by omega)
    rw [rowQ_step m (by omega) (by omega)]
    refine ⟨by simp [nextR, i1], fun x hx => ?_⟩
    unfold nextR at hx
    obtain ⟨c, hc, rfl⟩ := List.mem_map.1 hx
    have get : ∀ c, 0 ≤ (rowQ p o m (q + 1)).getD c 0 ∧ (rowQ p o m (q + 1)).getD c 0 ≤ d * 1000000 := fun c => by
      rw [List.getD_eq_getElem?_getD]
      cases e : (rowQ p o m (q + 1))[c]? with
      | none => simp; omega
      | some y => exact i2 y (List.mem_of_getElem? e)
    have g1 := get c
    have g2 := get (c - p[q].toNat)
    have ob := h.o _ (List.getElem_mem (show q < o.length by omega))
    split <;> omega
end Go.Proofs.Ytphcaelkpgdbcaa
