/- From the reading of a law's arguments to data. -/
import Derived.Test.YtjpknjicfoiheaaDu
import Derived.DataReads
set_option linter.unusedSimpArgs false
set_option linter.unusedVariables false
set_option linter.unusedSectionVars false
namespace Dak
open Go Go.RowKit
theorem tr_ofRow {k : IntKind} {w : World} {a : Option Addr} {len cap : Nat} {zs : List Int} (h : (a = none ∧ len = 0 ∧ cap = 0 ∧ zs = []) ∨
    ∃ x, a = some x ∧ len ≤ cap ∧ cap ≤ maxLen ∧ zs.length = cap ∧ (∀ i, i < zs.length → w.cell? (x.add i) = some (.int k (zs.getD i 0))) ∧ ∀ n ∈ zs, (Lit.int k n).wf = true) :
    TR w (fun _ => True) (.list 1 ((zs.take len).map fun n => .val (.int k n))) (.slice a len cap) := by
  rcases h with ⟨rfl, rfl, rfl, rfl⟩ | ⟨⟨b, o, sp⟩, rfl, hl, hm, hz, hc, _⟩
  · exact .nolist _ _ _ (Nat.zero_le _)
  · by_cases h0 : len = 0
    · subst h0; exact .nolist _ _ _ hm
    · have hsp : sp = none := World.cell?_spot (hc 0 (by omega))
      subst hsp
      have hlen : ((zs.take len).map fun n => AV.val (.int k n)).length = len := by simp; omega
      have := TR.list (w := w) (F := fun _ => True) 1 ((zs.take len).map fun n => AV.val (.int k n)) b o cap (fun i _ => .int k (zs.getD i 0)) trivial (World.block_lt_of_cell? w _ (hc 0 (by omega))) (by omega) hm
        (fun i hi => by simp [AV.cells]) (fun i j hi hj => by
          have : j = 0 := by omega
          subst this
          have := hc i (by omega)
          rw [Nat.mul_one, Nat.add_zero]
          by_cases hi0 : i = 0
          · subst hi0; simpa [Addr.add] using this
          · simpa [Addr.add, hi0] using this) (fun i j hi hj => rfl) (fun i hi j hj => by
          simp only [List.getElem_map, AV.cells, List.length_singleton] at hj ⊢
          have : j = 0 := by omega
          subst this
          have h1 : i < zs.length := by omega
          simp only [List.getElem_cons_zero, List.getElem_take, List.getD_eq_getElem?_getD, List.getElem?_eq_getElem h1, Option.getD_some]
          exact .val _)
      rw [hlen] at this
      exact this
theorem wf_i64 {n : Int} (h : (Lit.int .i64 n).wf = true) : -9223372036854775808 ≤ n ∧ n ≤ 9223372036854775807 := by
  simp [Lit.wf] at h
  have : IntKind.i64.min = -9223372036854775808 := by decide
  omega
end Dak
