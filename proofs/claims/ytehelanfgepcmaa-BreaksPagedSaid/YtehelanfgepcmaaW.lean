import Derived.Test.YtehelanfgepcmaaV
import Derived.Shelf.Abstract
set_option linter.unusedSimpArgs false
set_option linter.unusedVariables false
set_option linter.unusedSectionVars false
namespace Go.Proofs.Ytehelanfgepcmaa
open Go.RowKit Dac
attribute [local go_sem] Oper.semAt_some

theorem price_at {X : List (List (List Int))} {width size : Int} {f : Place} {q j : Nat} (h1 : size = sizeL X f (q, j)) (hw : 1 ≤ width ∧ width ≤ 512) (h2 : size ≤ width) (h3 : 0 ≤ sizeL X f (q, j)) :
    ∃ lb : Bool, (∀ W, (binOp .eql 64 (.agg #[.int .i64 q, .int .i64 j]) (.agg #[.int .i64 X.length, .int .i64 0])).run Try.prog W = .ok (.bool lb) W) ∧ (∀ W, Calls Try.prog 41 #[.bool lb, .int .i64 (width - size)] W (QRet W (.int .i64 (priceL X width f (q, j))))) := by
  refine ⟨_, fun W => eql_pair isPair q j X.length 0 W, fun W => ?_⟩
  by_cases h : (q, j) = (X.length, 0)
  · obtain ⟨rfl, rfl⟩ := Prod.mk.inj h
    rw [priceL, if_pos rfl]
    simp only [show ((0 : Nat) : Int) = 0 from rfl, beq_self_eq_true, Bool.and_self]
    exact price_last _ W
  · have he : ((q : Int) == X.length && (j : Int) == 0) = false := by
      rw [Bool.eq_false_iff]; intro h'; simp at h'; exact h (by rw [Prod.mk.injEq]; exact ⟨by omega, h'.2⟩)
    rw [he, priceL, if_neg h, ← h1]
    have := price_free (width - size) W
    have hq := sq_bd (width - size) (by omega)
    rwa [wrap64_id (x := (width - size) * (width - size)) (by omega) (by omega), wrap64_id (by omega) (by omega)] at this

def CostsQ (X : List (List (List Int))) (width : Int) (w : World) (e : Ending) (w' : World) : Prop :=
  Ext w w' ∧ ∃ (r : Nat) (T : Place → Option Int) (K : List (List Int)), w.heap.size ≤ r ∧ e = .returned (.map (some r)) ∧ Holds w' r T ∧ IsTab X width K ∧ Dict X K (0, 0) T

set_option maxRecDepth 100000 in
set_option maxHeartbeats 8000000 in
theorem costs_ok (v : Value) (X : List (List (List Int))) (width : Int) (w : World) (hX : wordsR.rd w Any [v] X) (hV : VW X) (hw : 1 ≤ width ∧ width ≤ 512) :
    Calls Try.prog 38 #[v, .int .i64 width] w (CostsQ X width w) := by
  obtain ⟨ad, cap, rfl⟩ := Rdr.slice_v hX
  have hT := tableL_tab hV hw
  generalize hK : tableL X width = K at hT
  clear hK
  have HX := hid hX; have HV := hid hV; have HT := hid hT; have HW := hid hw
  have l2 : X.length ≤ 512 := hV.1
  clear hX hV hT hw
  obtain ⟨n0, hn0⟩ : ∃ n0, w.heap.size = n0 := ⟨_, rfl⟩
  refine callsIn_wide (n := 10) |>.1 ?_
  have hO : Dac.Open Fence.wide := open_wide
  refine callsIn_of_wp_marks Try.func38 rfl (hO.fn _) ?_ rfl
  simp only [Try.ntmps38, List.size_toArray, List.length_cons, List.length_nil, Nat.reduceAdd, Nat.reduceSub, Array.replicate_succ, Array.replicate_zero, List.push_toArray, List.append_toArray, List.nil_append, List.cons_append]
  have hmm := @run_makeMap Try.prog
  obtain ⟨W1, hW1⟩ : ∃ W1, (((w.alloc (.cells #[.int .i64 width] 3)).alloc (.cells #[.int .i64 X.length, .int .i64 0] 64)).alloc (.map #[] 0)) = W1 := ⟨_, rfl⟩
  have hz1 : W1.heap.size = n0 + 3 := by rw [← hW1]; simp; omega
  have hh : Holds W1 (n0 + 2) (fun _ => none) := by rw [← hW1]; have := Holds.nil ((w.alloc (.cells #[.int .i64 width] 3)).alloc (.cells #[.int .i64 X.length, .int .i64 0] 64)); rw [World.size_alloc, World.size_alloc, hn0] at this; exact this
  have k0 : W1.cell? ⟨n0, 0, none⟩ = some (.int .i64 width) := by rw [← hW1, ← hn0]; exact (Ext.alloc _ _).cell ((Ext.alloc _ _).cell (cell_alloc0 w _ 3 0 rfl))
  have k1 : W1.cell? ⟨n0 + 1, 0, none⟩ = some (.int .i64 X.length) := by rw [← hW1, ← hn0]; have := cell_alloc0 (w.alloc (.cells #[.int .i64 width] 3)) #[.int .i64 X.length, .int .i64 0] 64 0 rfl; rw [World.size_alloc] at this; exact (Ext.alloc _ _).cell this
  have k2 : W1.cell? ⟨n0 + 1, 1, none⟩ = some (.int .i64 0) := by rw [← hW1, ← hn0]; have := cell_alloc0 (w.alloc (.cells #[.int .i64 width] 3)) #[.int .i64 X.length, .int .i64 0] 64 1 rfl; rw [World.size_alloc] at this; exact (Ext.alloc _ _).cell this
  have hx1 : Ext w W1 := by rw [← hW1]; exact ((Ext.alloc _ _).then (Ext.alloc _ _)).then (Ext.alloc _ _)
  obtain ⟨W2, hrun, hh2, hg2⟩ := hh.put (X.length, 0) 0
  have hr2 : (Instr.mapUpdate 71 (.map (some (n0 + 1 + 1))) (.agg #[.int .i64 X.length, .int .i64 0]) (.int .i64 0)).run Try.prog W1 = .ok () W2 := hrun
  have hf40 : Fence.wide.fn 40 := trivial
  have hf41 : Fence.wide.fn 41 := trivial
  obtain ⟨bm, hbm⟩ : ∃ bm, W2.heap.size = bm := ⟨_, rfl⟩
  obtain ⟨W3, hW3⟩ : ∃ W3, W2.alloc (.cells #[.map (some (n0 + 1 + 1))] 71) = W3 := ⟨_, rfl⟩
  have hc0 : Cst w W3 n0 bm width X (noPl X) [] := by
    have ho := fun r (e : some (n0 + 2) = some r) => (by cases e; exact hh.obj : ∃ o : Obj, W1.heap[r]? = some o ∧ o.isCells = false)
    have hs := hg2.size
    rw [← hW3, ← hbm]
    refine ⟨Ext.then (hx1.grown hg2 hx1.size (fun j e => by cases e; omega)) (Ext.alloc _ _), hn0, by omega, (Ext.alloc _ _).cell (cell_kept k0 hg2 ho), (Ext.alloc _ _).cell (cell_kept k1 hg2 ho), (Ext.alloc _ _).cell (cell_kept k2 hg2 ho), cell_alloc0 W2 _ 71 0 rfl, ?_, List.nodup_nil, by simp⟩
    have e : upd (fun _ => none) (X.length, 0) (some 0) = noPl X := by funext p; simp [upd, noPl, endP]
    rw [← e]
    exact hh2.same (Below.heap_alloc _ _ _ hh2.lt)
  have HC0 := hid hc0
  have hx3 := hc0.ext
  have HX3 := hid hx3
  clear hc0 hg2 hh2 hrun hh hx1 hx3
  gi_wp2
  clear k0 k1 k2 hr2 hmm hz1 hW1 hW3 hbm
  refine wpIn_loop (fun a' W => ∃ (k : Nat) (s7 : Int) (Ds : List Nat) (T : Place → Option Int) (u8 u9 u10 u11 u12 u13 u14 u15 u16 u17 u18 u19 u20 u21 u22 u23 u24 u25 u26 u27 u28 u29 u30 u31 u32 u33 u34 u35 u36 u37 u38 u39 u40 u41 u42 u43 u44 u45 u46 u47 u48 u49 u50 u51 u52 u53 u54 u55 u56 u57 u58 u59 u60 u61 u62 u63 u64 u65 u66 u67 u68 u69 u70 u71 u72 u73 u74 u75 u76 u77 u78 u79 u80 u81 u82 : Value), k ≤ X.length ∧ s7 = (k : Int) - 1 ∧ Dict X K (k, 0) T ∧ Cst w W n0 bm width X T Ds ∧ a' = { tmps := List.toArray (.slice ad X.length cap :: .int .i64 width :: undef :: .pointer (some ⟨n0, 0, none⟩) :: .map none :: .pointer (some ⟨n0 + 1, 0, none⟩) :: .pointer (some ⟨bm, 0, none⟩) :: .int .i64 s7 :: u8 :: u9 :: u10 :: u11 :: u12 :: u13 :: u14 :: u15 :: u16 :: u17 :: u18 :: u19 :: u20 :: u21 :: u22 :: u23 :: u24 :: u25 :: u26 :: u27 :: u28 :: u29 :: u30 :: u31 :: u32 :: u33 :: u34 :: u35 :: u36 :: u37 :: u38 :: u39 :: u40 :: u41 :: u42 :: u43 :: u44 :: u45 :: u46 :: u47 :: u48 :: u49 :: u50 :: u51 :: u52 :: u53 :: u54 :: u55 :: u56 :: u57 :: u58 :: u59 :: u60 :: u61 :: u62 :: u63 :: u64 :: u65 :: u66 :: u67 :: u68 :: u69 :: u70 :: u71 :: u72 :: u73 :: u74 :: u75 :: u76 :: u77 :: u78 :: u79 :: u80 :: u81 :: u82 :: []), defers := Ds.map mark }) (fun a' _ => (intOf (a'.tmps.getD 7 undef) + 1).toNat) ?_ ?_
  · exact ⟨X.length, _, [], noPl X, _, _, _, _, _, _, _, _, _, _, _, _, _, _, _, _, _, _, _, _, _, _, _, _, _, _, _, _, _, _, _, _, _, _, _, _, _, _, _, _, _, _, _, _, _, _, _, _, _, _, _, _, _, _, _, _, _, _, _, _, _, _, _, _, _, _, _, _, _, _, _, _, _, _, _, Nat.le_refl _, rfl, dict_nil X K, HC0.out, rfl⟩
  rintro a' W ⟨k, s7, Ds, T, h⟩
  obtain ⟨u8, h⟩ := h
  obtain ⟨u9, h⟩ := h
  obtain ⟨u10, h⟩ := h
  obtain ⟨u11, h⟩ := h
  obtain ⟨u12, h⟩ := h
  obtain ⟨u13, h⟩ := h
  obtain ⟨u14, h⟩ := h
  obtain ⟨u15, h⟩ := h
  obtain ⟨u16, h⟩ := h
  obtain ⟨u17, h⟩ := h
  obtain ⟨u18, h⟩ := h
  obtain ⟨u19, h⟩ := h
  obtain ⟨u20, h⟩ := h
  obtain ⟨u21, h⟩ := h
  obtain ⟨u22, h⟩ := h
  obtain ⟨u23, h⟩ := h
  obtain ⟨u24, h⟩ := h
  obtain ⟨u25, h⟩ := h
  obtain ⟨u26, h⟩ := h
  obtain ⟨u27, h⟩ := h
  obtain ⟨u28, h⟩ := h
  obtain ⟨u29, h⟩ := h
  obtain ⟨u30, h⟩ := h
  obtain ⟨u31, h⟩ := h
  obtain ⟨u32, h⟩ := h
  obtain ⟨u33, h⟩ := h
  obtain ⟨u34, h⟩ := h
  obtain ⟨u35, h⟩ := h
  obtain ⟨u36, h⟩ := h
  obtain ⟨u37, h⟩ := h
  obtain ⟨u38, h⟩ := h
  obtain ⟨u39, h⟩ := h
  obtain ⟨u40, h⟩ := h
  obtain ⟨u41, h⟩ := h
  obtain ⟨u42, h⟩ := h
  obtain ⟨u43, h⟩ := h
  obtain ⟨u44, h⟩ := h
  obtain ⟨u45, h⟩ := h
  obtain ⟨u46, h⟩ := h
  obtain ⟨u47, h⟩ := h
  obtain ⟨u48, h⟩ := h
  obtain ⟨u49, h⟩ := h
  obtain ⟨u50, h⟩ := h
  obtain ⟨u51, h⟩ := h
  obtain ⟨u52, h⟩ := h
  obtain ⟨u53, h⟩ := h
  obtain ⟨u54, h⟩ := h
  obtain ⟨u55, h⟩ := h
  obtain ⟨u56, h⟩ := h
  obtain ⟨u57, h⟩ := h
  obtain ⟨u58, h⟩ := h
  obtain ⟨u59, h⟩ := h
  obtain ⟨u60, h⟩ := h
  obtain ⟨u61, h⟩ := h
  obtain ⟨u62, h⟩ := h
  obtain ⟨u63, h⟩ := h
  obtain ⟨u64, h⟩ := h
  obtain ⟨u65, h⟩ := h
  obtain ⟨u66, h⟩ := h
  obtain ⟨u67, h⟩ := h
  obtain ⟨u68, h⟩ := h
  obtain ⟨u69, h⟩ := h
  obtain ⟨u70, h⟩ := h
  obtain ⟨u71, h⟩ := h
  obtain ⟨u72, h⟩ := h
  obtain ⟨u73, h⟩ := h
  obtain ⟨u74, h⟩ := h
  obtain ⟨u75, h⟩ := h
  obtain ⟨u76, h⟩ := h
  obtain ⟨u77, h⟩ := h
  obtain ⟨u78, h⟩ := h
  obtain ⟨u79, h⟩ := h
  obtain ⟨u80, h⟩ := h
  obtain ⟨u81, h⟩ := h
  obtain ⟨u82, h⟩ := h
  obtain ⟨hk, h7, hD, hC, ha⟩ := h
  subst ha
  cases k with
  | zero =>
    have h7' : s7 < 0 := by omega
    clear h7
    have c0 := hC.cm
    have HD := hid hD; have HC := hid hC
    clear hD hC
    gi_wp2
    show LeavesInM _ _ _ _ _ _ (Ds.map mark) .returning W
    refine leaves_marks (B := bm + 1) (fun W => Ext w W ∧ Holds W (n0 + 2) T) ?_ ?_ Ds W HC.out.nodup HC.out.marks ⟨HC.out.ext, HC.out.map⟩
    · intro W4 D ⟨h1, h2⟩ h3 h4
      have hb := HC.out.hb
      have hg := grownBy_putObj' W4 D (.deferred none)
      exact ⟨h1.grown hg h1.size (fun j e => by cases e; omega), h2.same (hg.block _ h2.lt (fun e => by cases e; omega))⟩
    · intro W4 ⟨h1, h2⟩
      exact ⟨_, results_tmp rfl _ _ _, h1, n0 + 2, T, K, by omega, rfl, h2, HT.out, HD.out⟩
  | succ k =>
    have h7' : s7 = (k : Int) := by omega
    subst h7'
    have HD := hid hD; have HC := hid hC
    obtain ⟨b, o, rfl⟩ : ∃ b o, ad = some ⟨b, o, none⟩ := by
      obtain ⟨b, o, cap', he, -⟩ := rows_ne HX.out (Nat.lt_of_lt_of_le (Nat.succ_pos k) hk)
      simp only [Value.slice.injEq] at he
      exact ⟨b, o, he.1⟩
    obtain ⟨A2, A3, ha1, ha2, ha3⟩ := words_addr HX.out HV.out
    have hg : X.getD k [] = X[k] := by simp [show k < X.length from hk]
    have k0 := hC.ext.cell (ha1 k hk).2
    rw [hg] at k0
    have h16 := (HV.out.2 k hk).2.1
    have h1 := (HV.out.2 k hk).1
    have HA1 := hid ha1; have HA2 := hid ha2; have HA3 := hid ha3; have HG := hid hg
    clear hD hC ha1 ha2 ha3 hg h7
    gi_wp2
    clear k0
    refine wpIn_loop (fun a' W => ∃ (m : Nat) (s8 : Int) (Ds : List Nat) (T : Place → Option Int) (v9 v10 v11 v12 v13 v14 v15 v16 v17 v18 v19 v20 v21 v22 v23 v24 v25 v26 v27 v28 v29 v30 v31 v32 v33 v34 v35 v36 v37 v38 v39 v40 v41 v42 v43 v44 v45 v46 v47 v48 v49 v50 v51 v52 v53 v54 v55 v56 v57 v58 v59 v60 v61 v62 v63 v64 v65 v66 v67 v68 v69 v70 v71 v72 v73 v74 v75 v76 v77 v78 v79 v80 v81 v82 : Value), m ≤ X[k].length ∧ s8 = (m : Int) - 1 ∧ Dict X K (k, m) T ∧ Cst w W n0 bm width X T Ds ∧ a' = { tmps := List.toArray (.slice (some ⟨b, o, none⟩) X.length cap :: .int .i64 width :: undef :: .pointer (some ⟨n0, 0, none⟩) :: .map none :: .pointer (some ⟨n0 + 1, 0, none⟩) :: .pointer (some ⟨bm, 0, none⟩) :: .int .i64 k :: .int .i64 s8 :: v9 :: v10 :: v11 :: v12 :: v13 :: v14 :: v15 :: v16 :: v17 :: v18 :: v19 :: v20 :: v21 :: v22 :: v23 :: v24 :: v25 :: v26 :: v27 :: v28 :: v29 :: v30 :: v31 :: v32 :: v33 :: v34 :: v35 :: v36 :: v37 :: v38 :: v39 :: v40 :: v41 :: v42 :: v43 :: v44 :: v45 :: v46 :: v47 :: v48 :: v49 :: v50 :: v51 :: v52 :: v53 :: v54 :: v55 :: v56 :: v57 :: v58 :: v59 :: v60 :: v61 :: v62 :: v63 :: v64 :: v65 :: v66 :: v67 :: v68 :: v69 :: v70 :: v71 :: v72 :: v73 :: v74 :: v75 :: v76 :: v77 :: v78 :: v79 :: v80 :: v81 :: v82 :: []), defers := Ds.map mark }) (fun a' _ => (intOf (a'.tmps.getD 8 undef) + 1).toNat) ?_ ?_
    · exact ⟨X[k].length, _, Ds, T, _, _, _, _, _, _, _, _, _, _, _, _, _, _, _, _, _, _, _, _, _, _, _, _, _, _, _, _, _, _, _, _, _, _, _, _, _, _, _, _, _, _, _, _, _, _, _, _, _, _, _, _, _, _, _, _, _, _, _, _, _, _, _, _, _, _, _, _, _, _, _, _, _, _, Nat.le_refl _, rfl, dict_row hk HD.out, HC.out, rfl⟩
    clear HD HC
    rintro a' W ⟨m, s8, Ds, T, h⟩
    obtain ⟨v9, h⟩ := h
    obtain ⟨v10, h⟩ := h
    obtain ⟨v11, h⟩ := h
    obtain ⟨v12, h⟩ := h
    obtain ⟨v13, h⟩ := h
    obtain ⟨v14, h⟩ := h
    obtain ⟨v15, h⟩ := h
    obtain ⟨v16, h⟩ := h
    obtain ⟨v17, h⟩ := h
    obtain ⟨v18, h⟩ := h
    obtain ⟨v19, h⟩ := h
    obtain ⟨v20, h⟩ := h
    obtain ⟨v21, h⟩ := h
    obtain ⟨v22, h⟩ := h
    obtain ⟨v23, h⟩ := h
    obtain ⟨v24, h⟩ := h
    obtain ⟨v25, h⟩ := h
    obtain ⟨v26, h⟩ := h
    obtain ⟨v27, h⟩ := h
    obtain ⟨v28, h⟩ := h
    obtain ⟨v29, h⟩ := h
    obtain ⟨v30, h⟩ := h
    obtain ⟨v31, h⟩ := h
    obtain ⟨v32, h⟩ := h
    obtain ⟨v33, h⟩ := h
    obtain ⟨v34, h⟩ := h
    obtain ⟨v35, h⟩ := h
    obtain ⟨v36, h⟩ := h
    obtain ⟨v37, h⟩ := h
    obtain ⟨v38, h⟩ := h
    obtain ⟨v39, h⟩ := h
    obtain ⟨v40, h⟩ := h
    obtain ⟨v41, h⟩ := h
    obtain ⟨v42, h⟩ := h
    obtain ⟨v43, h⟩ := h
    obtain ⟨v44, h⟩ := h
    obtain ⟨v45, h⟩ := h
    obtain ⟨v46, h⟩ := h
    obtain ⟨v47, h⟩ := h
    obtain ⟨v48, h⟩ := h
    obtain ⟨v49, h⟩ := h
    obtain ⟨v50, h⟩ := h
    obtain ⟨v51, h⟩ := h
    obtain ⟨v52, h⟩ := h
    obtain ⟨v53, h⟩ := h
    obtain ⟨v54, h⟩ := h
    obtain ⟨v55, h⟩ := h
    obtain ⟨v56, h⟩ := h
    obtain ⟨v57, h⟩ := h
    obtain ⟨v58, h⟩ := h
    obtain ⟨v59, h⟩ := h
    obtain ⟨v60, h⟩ := h
    obtain ⟨v61, h⟩ := h
    obtain ⟨v62, h⟩ := h
    obtain ⟨v63, h⟩ := h
    obtain ⟨v64, h⟩ := h
    obtain ⟨v65, h⟩ := h
    obtain ⟨v66, h⟩ := h
    obtain ⟨v67, h⟩ := h
    obtain ⟨v68, h⟩ := h
    obtain ⟨v69, h⟩ := h
    obtain ⟨v70, h⟩ := h
    obtain ⟨v71, h⟩ := h
    obtain ⟨v72, h⟩ := h
    obtain ⟨v73, h⟩ := h
    obtain ⟨v74, h⟩ := h
    obtain ⟨v75, h⟩ := h
    obtain ⟨v76, h⟩ := h
    obtain ⟨v77, h⟩ := h
    obtain ⟨v78, h⟩ := h
    obtain ⟨v79, h⟩ := h
    obtain ⟨v80, h⟩ := h
    obtain ⟨v81, h⟩ := h
    obtain ⟨v82, h⟩ := h
    obtain ⟨hm, h8, hD, hC, ha⟩ := h
    subst ha
    cases m with
    | zero =>
      have h8' : s8 < 0 := by omega
      clear h8
      have HD := hid hD; have HC := hid hC
      clear hD hC
      gi_wp2
      refine ⟨⟨k, _, Ds, T, _, _, _, _, _, _, _, _, _, _, _, _, _, _, _, _, _, _, _, _, _, _, _, _, _, _, _, _, _, _, _, _, _, _, _, _, _, _, _, _, _, _, _, _, _, _, _, _, _, _, _, _, _, _, _, _, _, _, _, _, _, _, _, _, _, _, _, _, _, _, _, _, _, _, _, by omega, rfl, HD.out, HC.out, rfl⟩, ?_⟩
      show ((k : Int) - 1 + 1).toNat < ((k : Int) + 1).toNat
      omega
    | succ i =>
      have h8' : s8 = (i : Int) := by omega
      subst h8'
      have cw := hC.cw
      have hL := fun W (hx : Ext w W) => lines_ok (.slice (some ⟨b, o, none⟩) X.length cap) X width (k, i) W (Rdr.ext _ HX.out hx)
      have HL := hid hL; have HD := hid hD; have HC := hid hC
      have HC1 := hid (hC.alloc (.cells #[.int .i64 k, .int .i64 i] 64))
      have HXc := hid (hC.ext.then (Ext.alloc W (.cells #[.int .i64 k, .int .i64 i] 64)))
      have k1 := HC1.out.cw
      have f0 := cell_alloc0 W #[.int .i64 k, .int .i64 i] 64 0 rfl
      have f1 := cell_alloc0 W #[.int .i64 k, .int .i64 i] 64 1 rfl
      clear hL hD hC h8
      gi_wp2_with (gi_at_call 40; refine (hO.calls (HL.out _ HXc.out)).mono ?_; rintro e w' ⟨rfl, rfl⟩)
      clear k1
      have hf : Pl X (k, i) := ⟨hk, by show i < X[k].length; omega⟩
      have hxw := hid (HXc.out.then (((Ext.alloc _ (.cells #[.slice (some ⟨b, o, none⟩) X.length cap] 34)).then (Ext.alloc _ (.cells #[.int .i64 width] 3))).then (Ext.alloc _ (.cells #[.int .i64 k, .int .i64 i] 64))))
      have HC4 := hid (((HC1.out.alloc (.cells #[.slice (some ⟨b, o, none⟩) X.length cap] 34)).alloc (.cells #[.int .i64 width] 3)).alloc (.cells #[.int .i64 k, .int .i64 i] 64))
      have g0 := (Ext.alloc _ (.cells #[.int .i64 k, .int .i64 i] 64)).cell ((Ext.alloc _ (.cells #[.int .i64 width] 3)).cell ((Ext.alloc _ (.cells #[.slice (some ⟨b, o, none⟩) X.length cap] 34)).cell f0))
      have g1 := (Ext.alloc _ (.cells #[.int .i64 k, .int .i64 i] 64)).cell ((Ext.alloc _ (.cells #[.int .i64 width] 3)).cell ((Ext.alloc _ (.cells #[.slice (some ⟨b, o, none⟩) X.length cap] 34)).cell f1))
      have e0 := (Ext.alloc _ (.cells #[.int .i64 k, .int .i64 i] 64)).cell ((Ext.alloc _ (.cells #[.int .i64 width] 3)).cell (cell_alloc0 (W.alloc (.cells #[.int .i64 k, .int .i64 i] 64)) #[.slice (some ⟨b, o, none⟩) X.length cap] 34 0 rfl))
      have e1 := (Ext.alloc _ (.cells #[.int .i64 k, .int .i64 i] 64)).cell (cell_alloc0 ((W.alloc (.cells #[.int .i64 k, .int .i64 i] 64)).alloc (.cells #[.slice (some ⟨b, o, none⟩) X.length cap] 34)) #[.int .i64 width] 3 0 rfl)
      have e2 := cell_alloc0 (((W.alloc (.cells #[.int .i64 k, .int .i64 i] 64)).alloc (.cells #[.slice (some ⟨b, o, none⟩) X.length cap] 34)).alloc (.cells #[.int .i64 width] 3)) #[.int .i64 k, .int .i64 i] 64 0 rfl
      have e3 := cell_alloc0 (((W.alloc (.cells #[.int .i64 k, .int .i64 i] 64)).alloc (.cells #[.slice (some ⟨b, o, none⟩) X.length cap] 34)).alloc (.cells #[.int .i64 width] 3)) #[.int .i64 k, .int .i64 i] 64 1 rfl
      have hsz : ((((W.alloc (.cells #[.int .i64 k, .int .i64 i] 64)).alloc (.cells #[.slice (some ⟨b, o, none⟩) X.length cap] 34)).alloc (.cells #[.int .i64 width] 3)).alloc (.cells #[.int .i64 k, .int .i64 i] 64)).heap.size = W.heap.size + 4 := by simp
      simp only [World.size_alloc] at e0 e1 e2 e3 ⊢
      generalize hWL : ((((W.alloc (.cells #[.int .i64 k, .int .i64 i] 64)).alloc (.cells #[.slice (some ⟨b, o, none⟩) X.length cap] 34)).alloc (.cells #[.int .i64 width] 3)).alloc (.cells #[.int .i64 k, .int .i64 i] 64)) = WL at *
      clear hWL f0 f1 HL
      have hcap : Cap Any WL (W.heap.size + 1) b o cap width (k, i) X A2 A3 := ⟨⟨trivial, trivial, trivial⟩, e0, e1, e2, e3, fun q hq => ⟨trivial, hxw.out.cell (HA1.out q hq).2⟩, fun q hq j hj => ⟨trivial, hxw.out.cell (HA2.out q hq j hj).2⟩, fun q hq j hj r hr => ⟨trivial, hxw.out.cell (HA3.out q hq j hj r hr).2⟩⟩
      have hDs : ∀ D ∈ Ds, D < WL.heap.size := fun D hd => (Array.getElem?_eq_some_iff.1 (HC4.out.marks D hd).2).1
      have hbl : bm + 1 ≤ WL.heap.size := by
        have := cell_lt HC4.out.cm
        exact this
      have hKt : ∀ {A B C : World}, KeepC A B → KeepC B C → KeepC A C := KeepC.trans
      have hTN := dict_none hf HD.out
      refine wpIn_rangeFunc_ownH rfl (by omega) (gf := 54) (lb := #[.pointer (some ⟨W.heap.size + 1 + 2, 0, none⟩), .pointer (some ⟨W.heap.size + 1, 0, none⟩), .pointer (some ⟨W.heap.size + 1 + 1, 0, none⟩)]) rfl (hO.fn _) (enters_of Try.func54 (by kernel_rfl) rfl)
        (lines_stops Fence.wide 9 (hO.fn _) rfl (by omega) KeepC Any X width (k, i) (W.heap.size + 1) b o cap A2 A3 WL HV.out HW.out hf (fun A C h a u _ => h a u) hcap) KeepC.trans (fun W l o o' _ h1 h2 _ => keepC_put W l o o' h1 h2) (Below.refl _ _) (fun _ => rfl)
        (fun (pre : List (LineOf X width (k, i))) W' => (Cst w W' n0 bm width X (upd T (k, i) (bestL X T width (k, i) (pre.map Subtype.val))) Ds ∧ W'.cell? ⟨W.heap.size, 0, none⟩ = some (.int .i64 k) ∧ W'.cell? ⟨W.heap.size, 1, none⟩ = some (.int .i64 i)))
        (fun _ _ _ => False)
        (fun pre A C row hs hg hr => ⟨hs.1.own hg hr hbl hDs, cell_kept hs.2.1 hg (fun r e => (hr r e).2), cell_kept hs.2.2 hg (fun r e => (hr r e).2)⟩)
        (fun _ _ _ _ _ hs _ _ => hs)
        ⟨by rw [show bestL X T width (k, i) (([] : List (LineOf X width (k, i))).map (·.1)) = none from rfl, upd_nil hTN]; exact HC4.out, g0, g1⟩
        (fun (x : LineOf X width (k, i)) a' W' => ∃ Bx, W'.cell? ⟨Bx, 0, none⟩ = some (.int .i64 x.1.1.1) ∧ W'.cell? ⟨Bx, 1, none⟩ = some (.int .i64 x.1.1.2) ∧ a' = { tmps := List.toArray (.slice (some ⟨b, o, none⟩) X.length cap :: .int .i64 width :: undef :: .pointer (some ⟨n0, 0, none⟩) :: .map none :: .pointer (some ⟨n0 + 1, 0, none⟩) :: .pointer (some ⟨bm, 0, none⟩) :: .int .i64 k :: .int .i64 i :: .pointer (some ⟨W.heap.size, 0, none⟩) :: .pointer (some ⟨Bx, 0, none⟩) :: .int .i64 x.1.2 :: v12 :: v13 :: v14 :: v15 :: v16 :: v17 :: v18 :: v19 :: v20 :: v21 :: v22 :: v23 :: v24 :: v25 :: v26 :: v27 :: v28 :: v29 :: v30 :: v31 :: v32 :: v33 :: v34 :: v35 :: .int .i64 i :: .bool true :: v38 :: v39 :: .int .i64 k :: .int .i64 i :: .agg #[.int .i64 k, .int .i64 i] :: .slice (some ⟨b, o, none⟩) X.length cap :: .int .i64 width :: .agg #[.int .i64 k, .int .i64 i] :: .func (.func 54) #[] #[.pointer (some ⟨W.heap.size + 1 + 2, 0, none⟩), .pointer (some ⟨W.heap.size + 1, 0, none⟩), .pointer (some ⟨W.heap.size + 1 + 1, 0, none⟩)] :: .agg #[.int .i64 x.1.1.1, .int .i64 x.1.1.2] :: .int .i64 x.1.2 :: v49 :: v50 :: v51 :: v52 :: v53 :: v54 :: v55 :: v56 :: v57 :: v58 :: v59 :: v60 :: v61 :: v62 :: v63 :: v64 :: v65 :: v66 :: v67 :: v68 :: v69 :: v70 :: v71 :: v72 :: v73 :: v74 :: v75 :: v76 :: v77 :: v78 :: v79 :: v80 :: v81 :: v82 :: []), defers := [] })
        (fun x a' _ A C row hs hg hr => by obtain ⟨Bx, h1, h2, h3⟩ := hs; exact ⟨Bx, cell_kept h1 hg (fun r e => (hr r e).2), cell_kept h2 hg (fun r e => (hr r e).2), h3⟩)
        ?assign ?body ?done ?stop
      case assign =>
        intro l pre x W4 K4 hi hK4
        have HI := hid hi; have HK4 := hid hK4
        clear hi hK4 hcap e0 e1 e2 e3 g0 g1
        simp only [encL]
        gi_wp2
        exact HK4.out _ _ ((KeepsOthers.alloc _ _).from _) (fun a u h => (Ext.alloc _ _).cell h) ⟨HI.out.1.alloc _, (Ext.alloc _ _).cell HI.out.2.1, (Ext.alloc _ _).cell HI.out.2.2⟩ ⟨W4.heap.size, cell_alloc0 W4 #[.int .i64 x.1.1.1, .int .i64 x.1.1.2] 64 0 rfl, cell_alloc0 W4 #[.int .i64 x.1.1.1, .int .i64 x.1.1.2] 64 1 rfl, rfl⟩
      case body =>
        intro l pre x a' W4 _ _ hi hax _
        obtain ⟨Bx, x0, x1, rfl⟩ := hax
        obtain ⟨⟨⟨q, j⟩, size⟩, hxm⟩ := x
        obtain ⟨hl1, hl2, hl3, hl4, hl5⟩ := line_mem HV.out hf hxm
        dsimp only at x0 x1 hl1 hl2 hl3 hl4 hl5
        have hTt := dict_lat HV.out hf HD.out _ hl1
        have hne : (q, j) ≠ (k, i) := by
          intro e
          obtain ⟨rfl, rfl⟩ := Prod.mk.inj e
          rcases hl2 with h | ⟨_, h⟩ <;> dsimp only at h <;> omega
        have hL1 := hi.1.map.look (q, j)
        rw [upd, if_neg hne] at hL1
        have hsn := bestL_snoc (X := X) (T := T) (width := width) (f := (k, i)) (pre.map Subtype.val) ((q, j), size)
        have hpb := priceL_bd HV.out HW.out hf hl2 hl3
        have hsb := sizeL_bd HV.out hf hl2 hl3
        obtain ⟨lb, heq, hP⟩ := price_at (width := width) hl4 HW.out hl5 hsb.1
        have hwi : wrap64 (width - size) = width - size := wrap64_id (by have := HW.out; have := hsb.1; omega) (by have := HW.out; have := hsb.1; omega)
        rw [← hwi] at hP
        clear hwi
        have hmap : (pre ++ [(⟨((q, j), size), hxm⟩ : LineOf X width (k, i))]).map Subtype.val = pre.map Subtype.val ++ [((q, j), size)] := by simp
        have HI := hid hi; have HP := hid hP; have HSN := hid hsn; have HMAP := hid hmap
        have cw := hi.1.cw
        have ce0 := hi.1.ce0
        have ce1 := hi.1.ce1
        have cm := hi.1.cm
        have f0 := hi.2.1
        have f1 := hi.2.2
        have hO2 : Dac.Open (Fence.wide.inRound l) := hO.inRound l
        clear hi hcap e0 e1 e2 e3 g0 g1 hP hsn hmap hl1 hl2 hl4 hl5 hsb
        generalize hpr : priceL X width (k, i) (q, j) = pr at *
        cases hTq : T (q, j) with
        | none =>
          rw [hTq] at hL1
          simp only [Option.getD_none, Option.isSome_none] at hL1
          gi_wp2
          refine ⟨KeepsFrom.refl _ _, fun a u h => h, ?_, HI.out.2⟩
          rw [HMAP.out, HSN.out, bestStep, hTq]
          exact HI.out.1
        | some c =>
          rw [hTq] at hL1
          simp only [Option.getD_some, Option.isSome_some] at hL1
          have hcb := tOf_bd HV.out HW.out HT.out hl3 (hTt.symm.trans hTq)
          obtain ⟨c1, c2⟩ := hcb
          obtain ⟨p1, p2⟩ := hpb
          clear hTt
          have HTQ := hid hTq
          clear hTq
          gi_wp2
          (refine wpIn_quiet_lit hO2 (by kernel_rfl) (by kernel_rfl) (by kernel_rfl) ?_; (repeat (go_big_quiet_step ((go_at_call 41; exact Calls.quiet_of (HP.out _))))); refine wpQuiet_nil ?_; intro _ hw'; obtain ⟨nq, hw''⟩ := hw'; subst hw'')
          cases hb : bestL X T width (k, i) (pre.map Subtype.val) with
          | none =>
            have hL2 := (HI.out.1.drewN nq).map.look (k, i)
            rw [upd, if_pos rfl, hb] at hL2
            simp only [Option.getD_none, Option.isSome_none] at hL2
            obtain ⟨W5, hrun, hh5, hg5⟩ := (HI.out.1.drewN nq).map.put (k, i) (c + pr)
            dsimp only at hrun
            have HH5 := hid hh5; have HG5 := hid hg5; have HB := hid hb
            clear hh5 hg5 hb
            gi_wp2
            simp only [ownPostG]
            rw [HMAP.out, HSN.out, bestStep, HTQ.out, HB.out]
            dsimp only
            rw [hpr]
            exact body_put HI.out.1 HG5.out HH5.out (by omega) HI.out.2.1 HI.out.2.2
          | some bb =>
            have hL2 := (HI.out.1.drewN nq).map.look (k, i)
            rw [upd, if_pos rfl, hb] at hL2
            simp only [Option.getD_some, Option.isSome_some] at hL2
            by_cases hlt : c + pr < bb
            · obtain ⟨W5, hrun, hh5, hg5⟩ := (HI.out.1.drewN nq).map.put (k, i) (c + pr)
              dsimp only at hrun
              have HH5 := hid hh5; have HG5 := hid hg5; have HB := hid hb
              clear hh5 hg5 hb
              gi_wp2
              simp only [ownPostG]
              rw [HMAP.out, HSN.out, bestStep, HTQ.out, HB.out]
              dsimp only
              rw [hpr, if_pos hlt]
              exact body_put HI.out.1 HG5.out HH5.out (by omega) HI.out.2.1 HI.out.2.2
            · have HB := hid hb
              clear hb
              gi_wp2
              simp only [ownPostG]
              rw [HMAP.out, HSN.out, bestStep, HTQ.out, HB.out]
              dsimp only
              rw [hpr, if_neg (by omega)]
              have h5 := HI.out.1
              rw [HB.out] at h5
              exact body_keep h5 HI.out.2.1 HI.out.2.2
      case done =>
        intro D xs W4 hD4 hxs hi hK4
        subst hxs
        have HI := hid hi; have HK4 := hid hK4
        clear hi hK4 hcap e0 e1 e2 e3 g0 g1
        gi_wp2
        have hc4 := HI.out.1
        rw [List.attach_map_subtype_val] at hc4
        refine ⟨⟨i, _, D :: Ds, _, _, _, _, _, _, _, _, _, _, _, _, _, _, _, _, _, _, _, _, _, _, _, _, _, _, _, _, _, _, _, _, _, _, _, _, _, _, _, _, _, _, _, _, _, _, _, _, _, _, _, _, _, _, _, _, _, _, _, _, _, _, _, _, _, _, _, _, _, _, _, _, _, _, _, by omega, rfl, dict_step HV.out HW.out HT.out hf HD.out, hc4.more (by omega) (fun D' h => Nat.lt_of_lt_of_le (hDs D' h) hD4) HK4.out, rfl⟩, ?_⟩
        show ((i : Int) - 1 + 1).toNat < ((i : Int) + 1).toNat
        omega
      case stop =>
        intro D c pre W4 _ _ h _
        exact h.elim
end Go.Proofs.Ytehelanfgepcmaa
