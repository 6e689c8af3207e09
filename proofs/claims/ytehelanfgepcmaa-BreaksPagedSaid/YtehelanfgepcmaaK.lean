import Derived.Test.YtehelanfgepcmaaJ
set_option linter.unusedSimpArgs false
set_option linter.unusedVariables false
set_option linter.unusedSectionVars false
namespace Go.Proofs.Ytehelanfgepcmaa
open Go.RowKit Dac

def tblRow (X : List (List (List Int))) (width : Int) (p : Nat) : Nat → List (List Int) → List (List Int)
  | 0, K => K
  | n + 1, K => tblRow X width p n (K.set p ((K.getD p []).set n (leastL X width K (p, n)).1))
def tblAll (X : List (List (List Int))) (width : Int) : Nat → List (List Int) → List (List Int)
  | 0, K => K
  | n + 1, K => tblAll X width n (tblRow X width n (X.getD n []).length K)
/-- dactylref11.Table -/
def tableL (X : List (List (List Int))) (width : Int) : List (List Int) := tblAll X width X.length (X.map fun wd => List.replicate wd.length 0)

theorem wrap64_I64 (x : Int) : I64 (wrap64 x) := by unfold I64 wrap64; omega
theorem leastGo_I64 (X : List (List (List Int))) (width : Int) (K : List (List Int)) (f : Nat × Nat) : ∀ (n : Nat) (to : Nat × Nat) (best : Int) (a : Nat × Nat), I64 best → I64 (leastGo X width K f n to best a).1
  | 0, _, _, _, h => h
  | n + 1, to, best, a, h => by
    rw [leastGo]
    dsimp only
    split
    · exact leastGo_I64 X width K f n _ _ _ h
    · generalize (if next X to = endP X then 0 else kAt K (next X to)) = c
      split
      · exact leastGo_I64 X width K f n _ _ _ h
      · split
        · exact leastGo_I64 X width K f n _ _ _ (wrap64_I64 _)
        · exact leastGo_I64 X width K f n _ _ _ h
theorem leastL_I64 (X : List (List (List Int))) (width : Int) (K : List (List Int)) (f : Nat × Nat) : I64 (leastL X width K f).1 := leastGo_I64 _ _ _ _ _ _ _ _ (by unfold I64; omega)

/-- A table of costs has the shape of the words. -/
def Shp (X : List (List (List Int))) (K : List (List Int)) : Prop := K.length = X.length ∧ ∀ p (h : p < X.length) (h2 : p < K.length), K[p].length = X[p].length
theorem Shp.set {X : List (List (List Int))} {K : List (List Int)} (h : Shp X K) {p : Nat} (hp2 : p < K.length) (i : Nat) (x : Int) : Shp X (K.set p (K[p].set i x)) := by
  refine ⟨by rw [List.length_set]; exact h.1, fun q hq hq2 => ?_⟩
  rw [List.length_set] at hq2
  simp only [List.getElem_set]
  split
  · rename_i e; subst e; rw [List.length_set]; exact h.2 _ hq hq2
  · exact h.2 q hq hq2

/-- It returns a grid of its own that reads as T. -/
def TableQ (w : World) (T : List (List Int)) (e : Ending) (w' : World) : Prop := ∃ r gs, e = .returned r ∧ Ext w w' ∧ Grid w' w.heap.size 22 3 r gs T

set_option maxHeartbeats 2000000 in
theorem Table_ok (v : Value) (X : List (List (List Int))) (width : Int) (w : World) (hX : wordsR.rd w Any [v] X) (hV : VW X) (hw0 : 1 ≤ width ∧ width ≤ 512) :
    Calls Try.prog 43 #[v, .int .i64 width] w (TableQ w (tableL X width)) := by
  obtain ⟨ad, cap, rfl, l1, l2, el⟩ := rows hX
  unfold maxLen at l2
  obtain ⟨i0, hi, hz0, hz1, hz2⟩ := info_parts info22
  have h512 := hV.1
  have hT : tblAll X width X.length (X.map fun wd => List.replicate wd.length 0) = tableL X width := rfl
  generalize tableL X width = T at *
  have HT := hid hT; clear hT
  have HV := hid hV; clear hV
  have HX := hid hX; clear hX
  have HE := hid el; clear el
  go_enter Try.func43, Try.ntmps43
  go_wp2
  go_loopw [5, 6] (fun out i wr => ∃ (k : Nat) (gs : List Nat), k ≤ X.length ∧ i = .int .i64 k ∧ Ext w wr ∧ Grid wr w.heap.size 22 3 out gs ((X.take k).map fun wd => List.replicate wd.length 0)) (fun _ i _ => X.length - (intOf i).toNat)
  case atStart => exact ⟨0, [], by omega, rfl, Ext.rfl' _, Grid.nil _ _ _ _⟩
  case round =>
    obtain ⟨k, gs, hk, rfl, hx, hG⟩ := hrel
    have hle := hx.size
    have HGr := hid hG; clear hG
    by_cases hlt : k < X.length
    · obtain ⟨b, o, ua, uc, rfl, ru, cu, hul⟩ := HE.out k hlt
      have cu1 := hx.cell cu
      have h16 := (HV.out.2 k hlt).2.1
      have hlen : ((X.take k).map fun wd => List.replicate wd.length (0 : Int)).length = k := by rw [List.length_map, List.length_take_of_le (by omega)]
      have hzl : (gs.zip (((X.take k).map fun wd => List.replicate wd.length (0 : Int)).map List.length)).length = k := by rw [List.length_zip, List.length_map, HGr.out.len, hlen]; simp
      have hgl : gs.length = k := by rw [HGr.out.len, hlen]
      clear cu ru hul
      have hmk := run_make_row' (P := Try.prog) 22 3 (.int .i64 0) 8 Try.underlying22 info3 rfl .i64 .i64 X[k].length (by omega) (by omega)
      rw [madeCells_int] at hmk
      go_wp2_with (at_builtin; refine wpList_append_at (w := wr.alloc (.cells (intCells (List.replicate X[k].length 0)) 3)) hdrR Any w.heap.size rfl _ _ 28 rfl 22 i0 _ 24 Try.underlying28 hi hz0 hz1 hz2 rfl (by decide) _ _ rfl (HGr.out.out.ext (Ext.alloc _ _)) _ _ [_] (wr.heap.size, X[k].length) rfl rfl (by rw [hzl]; omega) (by rw [hzl]; omega) (by simp; omega) (by simp) ?_ rfl; intro g cp w1 hB1 hg1 hg2 hg3)
      go_roundw
      case rel =>
        refine ⟨k + 1, gs ++ [wr.heap.size], by omega, by go_num, Below.grown (Below.alloc hx hle _) hg1 (by simp; omega) (fun j e => (HGr.out.out.lt j e).1), ?_⟩
        have hs := Grid.snoc (l := List.replicate X[k].length 0) HGr.out (Ext.alloc _ _) (heap_alloc_new wr _) (Nat.le_refl _) hle (by rw [List.length_replicate]; exact hB1) hg1 ⟨g, rfl, hg3⟩ ⟨by unfold maxLen; simp; omega, fun x hx => by rw [List.eq_of_mem_replicate hx]; unfold I64; omega⟩
        rw [hzl] at hs
        rw [List.take_succ_eq_append_getElem hlt, List.map_append]
        exact hs
      case measure => first | (simp [intOf]; done) | (simp [intOf]; omega)
    · have hkX : X.take k = X := List.take_of_length_le (by omega)
      rw [hkX] at HGr
      have hgl : gs.length = X.length := by rw [HGr.out.len, List.length_map]
      have hsh : ∀ p (h : p < X.length) (h2 : p < (X.map fun wd => List.replicate wd.length (0 : Int)).length), ((X.map fun wd => List.replicate wd.length (0 : Int))[p]).length = X[p].length := fun p h h2 => by simp
      have hls : (X.map fun wd => List.replicate wd.length (0 : Int)).length = X.length := by simp
      have HTT := HT
      generalize (X.map fun wd => List.replicate wd.length (0 : Int)) = K0 at *
      clear HT
      have HSH : Hid (Shp X K0) := hid ⟨hls, hsh⟩
      clear hsh hls
      have HGL := hid hgl; clear hgl
      have HK := hid hkX; clear hkX
      go_wp2
      go_loopw [7] (fun i wr2 => ∃ (n : Nat) (K : List (List Int)), n ≤ X.length ∧ i = .int .i64 ((n : Int) - 1) ∧ tblAll X width n K = T ∧ Shp X K ∧ Ext w wr2 ∧ Grid wr2 w.heap.size 22 3 u5 gs K) (fun i _ => (intOf i + 1).toNat)
      case atStart => exact ⟨X.length, K0, Nat.le_refl _, rfl, HTT.out, HSH.out, hx, HGr.out⟩
      case round =>
        obtain ⟨n, K, hn, rfl, hT, hS, hx2, hG2⟩ := hrel
        have HT2 := hid hT; have HS2 := hid hS; have HX2 := hid hx2; have HG2 := hid hG2
        clear hT hS hx2 hG2 HGr HTT HSH hx
        by_cases hn0 : n = 0
        · subst hn0
          have g1 : ¬ (0 : Int) ≤ ((0 : Nat) : Int) - 1 := by omega
          go_wp2
          go_ret
          exact ⟨_, gs, rfl, HX2.out, by rw [← HT2.out]; exact HG2.out⟩
        · obtain ⟨m, rfl⟩ : ∃ m, n = m + 1 := ⟨n - 1, by omega⟩
          have hm : m < X.length := by omega
          obtain ⟨b, o, ua, uc, rfl, ru, cu, hul⟩ := HE.out m hm
          have cu1 := HX2.out.cell cu
          have h16 := (HV.out.2 m hm).2.1
          have hT3 : tblAll X width m (tblRow X width m X[m].length K) = T := by
            have := HT2.out
            rw [tblAll] at this
            rw [← this]
            simp [hm]
          have HT3 := hid hT3
          clear hT3 cu ru hul
          have g1 : (0 : Int) ≤ ((m + 1 : Nat) : Int) - 1 := by omega
          have g2 : ((m + 1 : Nat) : Int) - 1 = m := by omega
          rw [g2] at g1 ⊢
          clear g2
          go_wp2
          go_loopw [8] (fun j wr3 => ∃ (q : Nat) (K : List (List Int)), q ≤ X[m].length ∧ j = .int .i64 ((q : Int) - 1) ∧ tblAll X width m (tblRow X width m q K) = T ∧ Shp X K ∧ Ext w wr3 ∧ Grid wr3 w.heap.size 22 3 u5 gs K) (fun j _ => (intOf j + 1).toNat)
          case atStart => exact ⟨X[m].length, K, Nat.le_refl _, rfl, HT3.out, HS2.out, HX2.out, HG2.out⟩
          case round =>
            obtain ⟨q, K', hq, rfl, hT, hS, hx3, hG3⟩ := hrel
            have HT4 := hid hT; have HS4 := hid hS; have HX4 := hid hx3; have HG4 := hid hG3
            clear hT hS hx3 hG3 HT3 HT2 HS2 HX2 HG2
            by_cases hq0 : q = 0
            · subst hq0
              have g1 : ¬ (0 : Int) ≤ ((0 : Nat) : Int) - 1 := by omega
              go_wp2
              go_roundw
              case rel => exact ⟨m, K', by omega, by go_num, HT4.out, HS4.out, HX4.out, HG4.out⟩
              case measure => first | (simp [intOf]; done) | (simp [intOf]; omega)
            · obtain ⟨j, rfl⟩ : ∃ j, q = j + 1 := ⟨q - 1, by omega⟩
              have hmK : m < K'.length := by rw [HS4.out.1]; exact hm
              have hmg : m < gs.length := by rw [HGL.out]; exact hm
              have hjK : j < K'[m].length := by rw [HS4.out.2 m hm hmK]; omega
              obtain ⟨gv, cp, rfl, hgv, hKl, hh⟩ := HG4.out.hdr (by omega)
              have hc := hh m hmg hmK
              clear hh
              have g2 : ((j + 1 : Nat) : Int) - 1 = j := by omega
              have g1 : (0 : Int) ≤ (j : Int) := by omega
              rw [g2]
              clear g2
              have hL := fun W (hx : Ext wr W) => Least_ok _ _ X K' width (m, j) W (Rdr.ext _ HX.out (HX4.out.then hx)) HV.out hw0 (Rdr.any _ (Rdr.ext _ HG4.out.read hx)) HS4.out ⟨hm, (by show j < X[m].length; omega)⟩
              have HL := hid hL; clear hL
              go_wp2
              have he0 : Ext wr wr.drew := (Below.refl _ wr).drew
              have hc0 : wr.drew.cell? ⟨gv, m, none⟩ = some (.slice (some ⟨gs[m], 0, none⟩) K'[m].length K'[m].length) := hc
              have hne : gv ≠ gs[m] := fun e => (HG4.out.row m hmg hmK).2.2 (by rw [← e]; rfl)
              have HNE := hid hne; clear hne
              have HE0 := hid he0; clear he0
              have hI := leastL_I64 X width K' (m, j)
              have HI := hid hI; clear hI
              generalize hR : leastL X width K' (m, j) = R at HL HI
              obtain ⟨R1, R2, R3⟩ := R
              have HTR := hid hR; clear hR
              go_region_held3 (fun W => W.cell? ⟨gv, m, none⟩ = some (.slice (some ⟨gs[m], 0, none⟩) K'[m].length K'[m].length)) (first | exact hc0 | exact hcW | exact cell_of_heap (Below.heap_setCell _ _ _ _ HNE.out) hcW) (first | (go_at_call 44; refine (HL.out _ HE0.out).mono ?_; rintro e W ⟨rfl, hxW⟩; have hyW := hid (HE0.out.then hxW); clear hxW; have hcW := hyW.out.cell hc; obtain ⟨y1, y2⟩ := (HG4.out.ext hyW.out).rowCell hmg hmK hjK; unfold pairA))
              go_wp2
              go_roundw
              case rel =>
                refine ⟨j, K'.set m (K'[m].set j R1), by omega, by go_num, ?_, HS4.out.set hmK _ _, Below.setCell (HX4.out.then hyW.out) (HG4.out.row m hmg hmK).2.1 _, (HG4.out.ext hyW.out).set hmg hmK j R1 HI.out⟩
                have := HT4.out
                rw [tblRow, HTR.out] at this
                rw [← this]
                simp [hmK]
              case measure => first | (simp [intOf]; done) | (simp [intOf]; omega)
end Go.Proofs.Ytehelanfgepcmaa
