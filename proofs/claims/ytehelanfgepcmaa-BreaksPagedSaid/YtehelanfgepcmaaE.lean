import Derived.Test.YtehelanfgepcmaaD
set_option linter.unusedSimpArgs false
set_option linter.unusedVariables false
set_option linter.unusedSectionVars false
namespace Go.Proofs.Ytehelanfgepcmaa
open Go.RowKit Dac

/-- The cells of element (w, i) of words: what a walk reads on its way to row i of word w. -/
theorem word_row {w : World} {F : Nat → Prop} {v : Value} {X : List (List (List Int))} (h : wordsR.rd w F [v] X) {p : Nat} (hp : p < X.length) {i : Nat} (hi : i < X[p].length) :
    ∃ ad cap b o a2 c2 b2 o2 a3 c3, v = .slice ad X.length cap ∧ ad = some ⟨b, o, none⟩ ∧ w.cell? ⟨b, o + p, none⟩ = some (.slice a2 X[p].length c2) ∧ a2 = some ⟨b2, o2, none⟩ ∧
      w.cell? ⟨b2, o2 + i, none⟩ = some (.slice a3 X[p][i].length c3) ∧ intR.slice.rd w F [.slice a3 X[p][i].length c3] X[p][i] ∧ X[p].length ≤ maxLen ∧ X[p][i].length ≤ maxLen := by
  obtain ⟨ad, cap, rfl, _, _, e1⟩ := rows h
  obtain ⟨b, o, a2, c2, rfl, r2, hc, h2⟩ := e1 p hp
  obtain ⟨ad', cap', hv, _, _, e2⟩ := rows r2
  obtain ⟨b2, o2, a3, c3, rfl, r3, hc3, h3⟩ := e2 i hi
  simp only [Value.slice.injEq] at hv
  obtain ⟨rfl, -, rfl⟩ := hv
  exact ⟨_, cap, b, o, _, c2, b2, o2, a3, c3, rfl, rfl, hc, rfl, hc3, r3, h2, h3⟩

/-- dactylref11.Next on places of words: the place after another one. -/
def next (X : List (List (List Int))) (p : Nat × Nat) : Nat × Nat := if p.2 + 1 < (X.getD p.1 []).length then (p.1, p.2 + 1) else (p.1 + 1, 0)

def pairA (p : Nat × Nat) : Value := .agg #[.int .i64 p.1, .int .i64 p.2]

set_option maxHeartbeats 400000 in
theorem Next_ok (v : Value) (X : List (List (List Int))) (p i : Nat) (w : World) (hX : wordsR.rd w Any [v] X) (hp : p < X.length) (hi : i < X[p].length) :
    Calls Try.prog 33 #[v, .agg #[.int .i64 p, .int .i64 i]] w (Ret w (pairA (next X (p, i)))) := by
  obtain ⟨ad, cap, rfl, l1, l2, e1⟩ := rows hX
  obtain ⟨b, o, a2, c2, rfl, r2, hc, h2⟩ := e1 p hp
  unfold maxLen at h2 l2
  clear e1 hX r2
  have hgd : X.getD p [] = X[p] := by simp [hp]
  have hc1 := (Ext.alloc w (.cells #[.int .i64 p, .int .i64 i] 64)).cell hc
  have hc2 := (Ext.alloc _ (.cells #[.int .i64 0, .int .i64 0] 64)).cell hc1
  clear hc hc1
  by_cases hlt : i + 1 < X[p].length
  · have hn : next X (p, i) = (p, i + 1) := by simp only [next, hgd, if_pos hlt]
    rw [hn]
    clear hn hgd
    have hlt' : ((i : Int) + 1 < X[p].length) := by omega
    go_enter Try.func33, Try.ntmps33
    go_wp2
    go_quiet (fail)
    go_wp2
    refine bodyPost_ret (v := pairA (p, i + 1)) (by simp [results, Try.results33, go_sem, pairA]) rfl ⟨rfl, ?_⟩
    repeat (first | exact Below.refl _ _ | refine Below.setCell ?_ (by simp) _ | refine below_dn ?_ _ | refine Below.alloc ?_ (by simp) _)
  · have hn : next X (p, i) = (p + 1, 0) := by simp only [next, hgd, if_neg hlt]
    rw [hn]
    clear hn hgd
    have hlt' : ¬ ((i : Int) + 1 < X[p].length) := by omega
    go_enter Try.func33, Try.ntmps33
    go_wp2
    go_quiet (fail)
    go_wp2
    refine bodyPost_ret (v := pairA (p + 1, 0)) (by simp [results, Try.results33, go_sem, pairA]) rfl ⟨rfl, ?_⟩
    repeat (first | exact Below.refl _ _ | refine Below.setCell ?_ (by simp) _ | refine below_dn ?_ _ | refine Below.alloc ?_ (by simp) _)

end Go.Proofs.Ytehelanfgepcmaa
