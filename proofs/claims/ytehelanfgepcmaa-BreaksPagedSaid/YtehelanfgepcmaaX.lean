import Derived.Test.YtehelanfgepcmaaW
set_option linter.unusedSimpArgs false
set_option linter.unusedVariables false
set_option linter.unusedSectionVars false
namespace Go.Proofs.Ytehelanfgepcmaa
open Go.RowKit Dac
attribute [local go_sem] Oper.semAt_some

def rowT (T : Place → Option Int) (p n : Nat) : List Int := (List.range n).map fun j => (T (p, j)).getD (-1)
def tabT (T : Place → Option Int) (X : List (List (List Int))) (k : Nat) : List (List Int) := (List.range k).map fun p => rowT T p (X.getD p []).length
def rowI (T : Place → Option Int) (p m n : Nat) : List Int := rowT T p n ++ List.replicate (m - n) 0
theorem rowI_len {T : Place → Option Int} {p m n : Nat} (h : n ≤ m) : (rowI T p m n).length = m := by simp [rowI, rowT]; omega
theorem rowI_set {T : Place → Option Int} {p m n : Nat} (h : n < m) : (rowI T p m n).set n ((T (p, n)).getD (-1)) = rowI T p m (n + 1) := by
  have hl : (rowT T p n).length = n := by simp [rowT]
  have h1 : rowT T p (n + 1) = rowT T p n ++ [(T (p, n)).getD (-1)] := by simp [rowT, List.range_succ]
  rw [rowI, rowI, h1, List.set_append_right _ _ (by rw [hl]; exact Nat.le_refl _), hl, Nat.sub_self, show m - n = (m - (n + 1)) + 1 from by omega, List.replicate_succ]
  simp
theorem tabT_len (T : Place → Option Int) (X : List (List (List Int))) (k : Nat) : (tabT T X k).length = k := by simp [tabT]
theorem tabT_eq {X : List (List (List Int))} {width : Int} {K : List (List Int)} {T : Place → Option Int} (hV : VW X) (hw : 1 ≤ width ∧ width ≤ 512) (hT : IsTab X width K) (hD : Dict X K (0, 0) T) : tabT T X X.length = K := by
  have hl := hT.1.1
  apply List.ext_getElem (by rw [tabT_len, hl])
  intro p h1 h2
  rw [tabT_len] at h1
  have hp : X.getD p [] = X[p] := by simp [h1]
  simp only [tabT, List.getElem_map, List.getElem_range, rowT, hp]
  have hr := hT.1.2 p h1 h2
  apply List.ext_getElem (by simp [hr])
  intro j h3 h4
  simp only [List.getElem_map, List.getElem_range]
  have hpl : Pl X (p, j) := ⟨h1, by show j < X[p].length; rw [← hr]; exact h4⟩
  rw [hD.1 (p, j) (.inr ⟨hpl, by rintro (h | ⟨_, h⟩) <;> dsimp only at h <;> omega⟩), tOf, if_neg (pl_end hpl)]
  have hb := hT.bd hV hw _ (p, j) hpl (Nat.le_refl _)
  have hk : kAt K (p, j) = K[p][j] := by simp [kAt, h2, h4]
  rw [hk] at hb ⊢
  split
  · show (-1 : Int) = _; omega
  · rfl
theorem T_I64 {X : List (List (List Int))} {width : Int} {K : List (List Int)} {T : Place → Option Int} (hV : VW X) (hw : 1 ≤ width ∧ width ≤ 512) (hT : IsTab X width K) (hD : Dict X K (0, 0) T) (p : Place) : I64 ((T p).getD (-1)) ∧ ∀ c, T p = some c → 0 ≤ c ∧ c ≤ 100000000000000000 := by
  have key : ∀ c, T p = some c → 0 ≤ c ∧ c ≤ 100000000000000000 := by
    intro c hc
    by_cases hi : In X (0, 0) p
    · rw [hD.1 p hi] at hc
      refine tOf_bd hV hw hT ?_ hc
      rcases hi with rfl | h
      · exact .inl ⟨rfl, rfl⟩
      · exact .inr h.1
    · rw [hD.2 p hi] at hc; cases hc
  refine ⟨?_, key⟩
  cases h : T p with
  | none => unfold I64; simp
  | some c => have := key c h; unfold I64; simp; omega

theorem row_cell {W : World} {g : Nat} {L : List Int} {e : TypeId} (h : W.heap[g]? = some (.cells (intCells L) e (0, 0))) {n : Nat} (hn : n < L.length) : W.cell? ⟨g, n, none⟩ = some (.int .i64 L[n]) ∧ W.frozen? ⟨g, n, none⟩ = false := by
  constructor
  · simp only [World.cell?, h, Option.isSome_none, Bool.false_eq_true, if_false]
    exact intCells_get _ _ hn
  · simp [World.frozen?, h]
theorem row_set {W : World} {g : Nat} {L : List Int} {e : TypeId} (h : W.heap[g]? = some (.cells (intCells L) e (0, 0))) (n : Nat) (x : Int) : (W.setCell ⟨g, n, none⟩ (.int .i64 x)).heap[g]? = some (.cells (intCells (L.set n x)) e (0, 0)) := by
  rw [heap_setCell_same W g n _ e _ h, intCells_set]
theorem tabT_succ {T : Place → Option Int} {X : List (List (List Int))} {k : Nat} (h : k < X.length) : tabT T X (k + 1) = tabT T X k ++ [rowT T k X[k].length] := by
  simp [tabT, List.range_succ, h]
theorem Holds.of_ext {w W : World} {r : Nat} {T : Place → Option Int} (h : Holds w r T) (hx : Ext w W) : Holds W r T := h.same (hx.block r h.lt)

def TabQ (w : World) (K : List (List Int)) (e : Ending) (w' : World) : Prop := ∃ vl gs, e = .returned vl ∧ Ext w w' ∧ Grid w' w.heap.size 22 3 vl gs K

set_option maxRecDepth 100000 in
theorem table_ok (v : Value) (X : List (List (List Int))) (T : Place → Option Int) (r : Nat) (w : World) (hX : wordsR.rd w Any [v] X) (hV : VW X) (hT : ∀ p, I64 ((T p).getD (-1))) (hr : Holds w r T) :
    Calls Try.prog 39 #[v, .map (some r)] w (TabQ w (tabT T X X.length)) := by
  obtain ⟨ad, cap, rfl, l1, l2, el⟩ := rows hX
  unfold maxLen at l2
  obtain ⟨i0, hi, hz0, hz1, hz2⟩ := info_parts info22
  have h512 := hV.1
  have HV := hid hV; clear hV
  have HX := hid hX; clear hX
  have HE := hid el; clear el
  have HT := hid hT; clear hT
  have HR := hid hr; clear hr
  go_enter Try.func39, Try.ntmps39
  go_wp2
  go_loopw [5, 14] (fun out i wr => ∃ (k : Nat) (gs : List Nat), k ≤ X.length ∧ i = .int .i64 k ∧ Ext w wr ∧ Grid wr w.heap.size 22 3 out gs (tabT T X k)) (fun _ i _ => X.length - (intOf i).toNat)
  case atStart => exact ⟨0, [], by omega, rfl, Ext.rfl' _, Grid.nil _ _ _ _⟩
  case round =>
    obtain ⟨W0, rfl⟩ : ∃ W0, W0 = wr := ⟨_, rfl⟩
    obtain ⟨k, gs, hk, rfl, hx, hG⟩ := hrel
    have hle := hx.size
    have HGr := hid hG; clear hG
    have HXX := hid hx
    by_cases hlt : k < X.length
    · obtain ⟨b, o, ua, uc, rfl, ru, cu, hul⟩ := HE.out k hlt
      have cu1 := hx.cell cu
      have h16 := (HV.out.2 k hlt).2.1
      have hzl : (gs.zip ((tabT T X k).map List.length)).length = k := by rw [List.length_zip, List.length_map, HGr.out.len, tabT_len]; simp
      clear cu ru hul hx
      have hmk := run_make_row' (P := Try.prog) 22 3 (.int .i64 0) 8 Try.underlying22 info3 rfl .i64 .i64 X[k].length (by omega) (by omega)
      rw [madeCells_int] at hmk
      go_wp2
      go_loopw [25] (fun i wr2 => ∃ n : Nat, n ≤ X[k].length ∧ i = .int .i64 n ∧ Ext W0 wr2 ∧ wr2.heap[W0.heap.size + 1]? = some (.cells (intCells (rowI T k X[k].length n)) 3 (0, 0))) (fun i _ => X[k].length - (intOf i).toNat)
      case atStart =>
        refine ⟨0, by omega, rfl, Ext.then (Ext.alloc _ _) (Ext.alloc _ _), ?_⟩
        have := heap_alloc_new (W0.alloc (.cells #[.slice ua X[k].length uc] 42)) (.cells (intCells (List.replicate X[k].length 0)) 3)
        rw [World.size_alloc] at this
        exact this
      case round =>
        obtain ⟨n, hn, rfl, hx2, hrow⟩ := hrel
        have HX2 := hid hx2
        have hrl := HR.out.lt
        by_cases hnl : n < X[k].length
        · have hlen := rowI_len (T := T) (p := k) hn
          obtain ⟨c1, c2⟩ := row_cell hrow (n := n) (by omega)
          have hrow1 := row_set hrow n (-1)
          obtain ⟨d1, d2⟩ := row_cell hrow1 (n := n) (by rw [List.length_set]; omega)
          have hlk := ((HR.out.of_ext (HXX.out.then hx2)).same (Below.heap_setCell wr ⟨W0.heap.size + 1, n, none⟩ (.int .i64 (-1)) r (by show r ≠ W0.heap.size + 1; omega))).look (k, n)
          have hset := rowI_set (T := T) (p := k) hnl
          have HROW := hid hrow; have HROW1 := hid hrow1; have HSET := hid hset
          clear hrow hrow1 hset hx2
          cases hTq : T (k, n) with
          | none =>
            rw [hTq] at hlk
            simp only [Option.getD_none, Option.isSome_none] at hlk
            go_wp2
            go_roundw
            case rel =>
              refine ⟨n + 1, by omega, by go_num, Below.setCell HX2.out (by show W0.heap.size ≤ W0.heap.size + 1; omega) _, ?_⟩
              rw [← HSET.out, hTq]
              exact HROW1.out
            case measure => first | (simp [intOf]; done) | (simp [intOf]; omega)
          | some c =>
            rw [hTq] at hlk
            simp only [Option.getD_some, Option.isSome_some] at hlk
            go_wp2
            go_roundw
            case rel =>
              refine ⟨n + 1, by omega, by go_num, Below.setCell (Below.setCell HX2.out (by show W0.heap.size ≤ W0.heap.size + 1; omega) _) (by show W0.heap.size ≤ W0.heap.size + 1; omega) _, ?_⟩
              have := row_set HROW1.out n c
              rw [List.set_set] at this
              rw [← HSET.out, hTq]
              exact this
            case measure => first | (simp [intOf]; done) | (simp [intOf]; omega)
        · have hnm : n = X[k].length := by omega
          subst hnm
          have hri : rowI T k X[k].length X[k].length = rowT T k X[k].length := by simp [rowI]
          rw [hri] at hrow
          have HROW := hid hrow
          have hsz := hx2.size
          clear hrow hx2 hri
          go_wp2_with (at_builtin; refine wpList_append_at (w := wr) hdrR Any w.heap.size rfl _ _ 28 rfl 22 i0 _ 24 Try.underlying28 hi hz0 hz1 hz2 rfl (by decide) _ _ rfl (HGr.out.out.ext HX2.out) _ _ [_] (W0.heap.size + 1, X[k].length) rfl rfl (by rw [hzl]; omega) (by rw [hzl]; omega) (by omega) rfl ?_ rfl; intro g cp w1 hB1 hg1 hg2 hg3)
          go_roundw
          case rel =>
            refine ⟨k + 1, gs ++ [W0.heap.size + 1], by omega, by go_num, Below.grown (HXX.out.then HX2.out) hg1 (by omega) (fun j e => (HGr.out.out.lt j e).1), ?_⟩
            have hl : (rowT T k X[k].length).length = X[k].length := by simp [rowT]
            have hs := Grid.snoc (l := rowT T k X[k].length) HGr.out HX2.out HROW.out (by omega) hle (by rw [hl]; exact hB1) hg1 ⟨g, rfl, hg3⟩ ⟨by unfold maxLen; rw [hl]; omega, fun x hx => by
              obtain ⟨j, _, rfl⟩ := List.mem_map.1 hx
              exact HT.out _⟩
            rw [hzl] at hs
            rw [tabT_succ hlt]
            exact hs
          case measure => first | (simp [intOf]; done) | (simp [intOf]; omega)
    · have hkX : k = X.length := by omega
      go_wp2
      go_ret
      subst hkX
      exact ⟨_, gs, rfl, HXX.out, HGr.out⟩
end Go.Proofs.Ytehelanfgepcmaa
