import Derived.Test.YtehelanfgepcmaaHc
import Derived.Shelf.Abstract
set_option linter.unusedSimpArgs false
set_option linter.unusedVariables false
set_option linter.unusedSectionVars false
namespace Go.Proofs.Ytehelanfgepcmaa
open Go.RowKit Dac
attribute [local go_sem] Oper.semAt_some

theorem price_at {X : List (List (List Int))} {width size : Int} {f : Place} {q j : Nat} (h1 : size = sizeL X f (q, j)) (hw : 1 ≤ width ∧ width ≤ 512) (h2 : size ≤ width) (h3 : 0 ≤ sizeL X f (q, j)) :
    ∃ lb : Bool, (∀ W, (binOp .eql 64 (.agg #[.int .i64 q, .int .i64 j]) (.agg #[.int .i64 X.length, .int .i64 0])).run Try.prog W = .ok (.bool lb) W) ∧ (∀ W, Calls Try.prog 41 #[.bool lb, .int .i64 (width - size)] W (QRet W (.int .i64 (priceL X width f (q, j))))) := by
  refine ⟨_, fun W => eql_pair isPair q j X.length 0 W, fun W => ?_⟩
  by_cases h : (q, j) = (X.length, 0)
  · obtain ⟨rfl, rfl⟩ := Prod.mk.inj h
    rw [priceL, if_pos rfl]
    simp only [show ((0 : Nat) : Int) = 0 from rfl, beq_self_eq_true, Bool.and_self]
    exact price_last _ W
  · have he : ((q : Int) == X.length && (j : Int) == 0) = false := by
      rw [Bool.eq_false_iff]; intro h'; simp at h'; exact h (by rw [Prod.mk.injEq]; exact ⟨by omega, h'.2⟩)
    rw [he, priceL, if_neg h, ← h1]
    have := price_free (width - size) W
    have hq := sq_bd (width - size) (by omega)
    rwa [wrap64_id (x := (width - size) * (width - size)) (by omega) (by omega), wrap64_id (by omega) (by omega)] at this

def CostsQ (X : List (List (List Int))) (width : Int) (w : World) (e : Ending) (w' : World) : Prop :=
  Ext w w' ∧ ∃ (r : Nat) (T : Place → Option Int) (K : List (List Int)), w.heap.size ≤ r ∧ e = .returned (.map (some r)) ∧ Holds w' r T ∧ IsTab X width K ∧ Dict X K (0, 0) T

set_option maxRecDepth 100000 in
set_option maxHeartbeats 8000000 in
theorem costs_ok (v : Value) (X : List (List (List Int))) (width : Int) (w : World) (hX : wordsR.rd w Any [v] X) (hV : VW X) (hw : 1 ≤ width ∧ width ≤ 512) :
    Calls Try.prog 38 #[v, .int .i64 width] w (CostsQ X width w) := by
  obtain ⟨ad, cap, rfl⟩ := Rdr.slice_v hX
  have hT := tableL_tab hV hw
  generalize hK : tableL X width = K at hT
  clear hK
  have HX := hid hX; have HV := hid hV; have HT := hid hT; have HW := hid hw
  have l2 : X.length ≤ 512 := hV.1
  clear hX hV hT hw
  obtain ⟨n0, hn0⟩ : ∃ n0, w.heap.size = n0 := ⟨_, rfl⟩
  refine callsIn_wide (n := 10) |>.1 ?_
  have hO : Dac.Open Fence.wide := open_wide
  refine callsIn_of_wp_marks Try.func38 rfl (hO.fn _) ?_ rfl
  simp only [Try.ntmps38, List.size_toArray, List.length_cons, List.length_nil, Nat.reduceAdd, Nat.reduceSub, Array.replicate_succ, Array.replicate_zero, List.push_toArray, List.append_toArray, List.nil_append, List.cons_append]
  have hmm := @run_makeMap Try.prog
  obtain ⟨W1, hW1⟩ : ∃ W1, (((w.alloc (.cells #[.int .i64 width] 3)).alloc (.cells #[.int .i64 X.length, .int .i64 0] 64)).alloc (.map #[] 0)) = W1 := ⟨_, rfl⟩
  have hz1 : W1.heap.size = n0 + 3 := by rw [← hW1]; simp; omega
  have hh : Holds W1 (n0 + 2) (fun _ => none) := by rw [← hW1]; have := Holds.nil ((w.alloc (.cells #[.int .i64 width] 3)).alloc (.cells #[.int .i64 X.length, .int .i64 0] 64)); rw [World.size_alloc, World.size_alloc, hn0] at this; exact this
  have k0 : W1.cell? ⟨n0, 0, none⟩ = some (.int .i64 width) := by rw [← hW1, ← hn0]; exact (Ext.alloc _ _).cell ((Ext.alloc _ _).cell (cell_alloc0 w _ 3 0 rfl))
  have k1 : W1.cell? ⟨n0 + 1, 0, none⟩ = some (.int .i64 X.length) := by rw [← hW1, ← hn0]; have := cell_alloc0 (w.alloc (.cells #[.int .i64 width] 3)) #[.int .i64 X.length, .int .i64 0] 64 0 rfl; rw [World.size_alloc] at this; exact (Ext.alloc _ _).cell this
  have k2 : W1.cell? ⟨n0 + 1, 1, none⟩ = some (.int .i64 0) := by rw [← hW1, ← hn0]; have := cell_alloc0 (w.alloc (.cells #[.int .i64 width] 3)) #[.int .i64 X.length, .int .i64 0] 64 1 rfl; rw [World.size_alloc] at this; exact (Ext.alloc _ _).cell this
  have hx1 : Ext w W1 := by rw [← hW1]; exact ((Ext.alloc _ _).then (Ext.alloc _ _)).then (Ext.alloc _ _)
  obtain ⟨W2, hrun, hh2, hg2⟩ := hh.put (X.length, 0) 0
  have hr2 : (Instr.mapUpdate 71 (.map (some (n0 + 1 + 1))) (.agg #[.int .i64 X.length, .int .i64 0]) (.int .i64 0)).run Try.prog W1 = .ok () W2 := hrun
  have hf40 : Fence.wide.fn 40 := trivial
  have hf41 : Fence.wide.fn 41 := trivial
  obtain ⟨bm, hbm⟩ : ∃ bm, W2.heap.size = bm := ⟨_, rfl⟩
  obtain ⟨W3, hW3⟩ : ∃ W3, W2.alloc (.cells #[.map (some (n0 + 1 + 1))] 71) = W3 := ⟨_, rfl⟩
  have hc0 : Cst w W3 n0 bm width X (noPl X) [] := by
    have ho := fun r (e : some (n0 + 2) = some r) => (by cases e; exact hh.obj : ∃ o : Obj, W1.heap[r]? = some o ∧ o.isCells = false)
    have hs := hg2.size
    rw [← hW3, ← hbm]
    refine ⟨Ext.then (hx1.grown hg2 hx1.size (fun j e => by cases e; omega)) (Ext.alloc _ _), hn0, by omega, (Ext.alloc _ _).cell (cell_kept k0 hg2 ho), (Ext.alloc _ _).cell (cell_kept k1 hg2 ho), (Ext.alloc _ _).cell (cell_kept k2 hg2 ho), cell_alloc0 W2 _ 71 0 rfl, ?_, List.nodup_nil, by simp⟩
    have e : upd (fun _ => none) (X.length, 0) (some 0) = noPl X := by funext p; simp [upd, noPl, endP]
    rw [← e]
    exact hh2.same (Below.heap_alloc _ _ _ hh2.lt)
  have HC0 := hid hc0
  have hx3 := hc0.ext
  have HX3 := hid hx3
  clear hc0 hg2 hh2 hrun hh hx1 hx3
  gi_wp2
  clear k0 k1 k2 hr2 hmm hz1 hW1 hW3 hbm
  refine wpIn_loop (fun a' W => ∃ (k : Nat) (s7 : Int) (Ds : List Nat) (T : Place → Option Int) (u8 u9 u10 u11 u12 u13 u14 u15 u16 u17 u18 u19 u20 u21 u22 u23 u24 u25 u26 u27 u28 u29 u30 u31 u32 u33 u34 u35 u36 u37 u38 u39 u40 u41 u42 u43 u44 u45 u46 u47 u48 u49 u50 u51 u52 u53 u54 u55 u56 u57 u58 u59 u60 u61 u62 u63 u64 u65 u66 u67 u68 u69 u70 u71 u72 u73 u74 u75 u76 u77 u78 u79 u80 u81 u82 : Value), k ≤ X.length ∧ s7 = (k : Int) - 1 ∧ Dict X K (k, 0) T ∧ Cst w W n0 bm width X T Ds ∧ a' = { tmps := List.toArray (.slice ad X.length cap :: .int .i64 width :: undef :: .pointer (some ⟨n0, 0, none⟩) :: .map none :: .pointer (some ⟨n0 + 1, 0, none⟩) :: .pointer (some ⟨bm, 0, none⟩) :: .int .i64 s7 :: u8 :: u9 :: u10 :: u11 :: u12 :: u13 :: u14 :: u15 :: u16 :: u17 :: u18 :: u19 :: u20 :: u21 :: u22 :: u23 :: u24 :: u25 :: u26 :: u27 :: u28 :: u29 :: u30 :: u31 :: u32 :: u33 :: u34 :: u35 :: u36 :: u37 :: u38 :: u39 :: u40 :: u41 :: u42 :: u43 :: u44 :: u45 :: u46 :: u47 :: u48 :: u49 :: u50 :: u51 :: u52 :: u53 :: u54 :: u55 :: u56 :: u57 :: u58 :: u59 :: u60 :: u61 :: u62 :: u63 :: u64 :: u65 :: u66 :: u67 :: u68 :: u69 :: u70 :: u71 :: u72 :: u73 :: u74 :: u75 :: u76 :: u77 :: u78 :: u79 :: u80 :: u81 :: u82 :: []), defers := Ds.map mark }) (fun a' _ => (intOf (a'.tmps.getD 7 undef) + 1).toNat) ?_ ?_
  · exact ⟨X.length, _, [], noPl X, _, _, _, _, _, _, _, _, _, _, _, _, _, _, _, _, _, _, _, _, _, _, _, _, _, _, _, _, _, _, _, _, _, _, _, _, _, _, _, _, _, _, _, _, _, _, _, _, _, _, _, _, _, _, _, _, _, _, _, _, _, _, _, _, _, _, _, _, _, _, _, _, _, _, _, Nat.le_refl _, rfl, dict_nil X K, HC0.out, rfl⟩
  rintro a' W ⟨k, s7, Ds, T, h⟩
  obtain ⟨u8, h⟩ := h
  obtain ⟨u9, h⟩ := h
  obtain ⟨u10, h⟩ := h
  obtain ⟨u11, h⟩ := h
  obtain ⟨u12, h⟩ := h
  obtain ⟨u13, h⟩ := h
  obtain ⟨u14, h⟩ := h
  obtain ⟨u15, h⟩ := h
  obtain ⟨u16, h⟩ := h
  obtain ⟨u17, h⟩ := h
  obtain ⟨u18, h⟩ := h
  obtain ⟨u19, h⟩ := h
  obtain ⟨u20, h⟩ := h
  obtain ⟨u21, h⟩ := h
  obtain ⟨u22, h⟩ := h
  obtain ⟨u23, h⟩ := h
  obtain ⟨u24, h⟩ := h
  obtain ⟨u25, h⟩ := h
  obtain ⟨u26, h⟩ := h
  obtain ⟨u27, h⟩ := h
  obtain ⟨u28, h⟩ := h
  obtain ⟨u29, h⟩ := h
  obtain ⟨u30, h⟩ := h
  obtain ⟨u31, h⟩ := h
  obtain ⟨u32, h⟩ := h
  obtain ⟨u33, h⟩ := h
  obtain ⟨u34, h⟩ := h
  obtain ⟨u35, h⟩ := h
  obtain ⟨u36, h⟩ := h
  obtain ⟨u37, h⟩ := h
  obtain ⟨u38, h⟩ := h
  obtain ⟨u39, h⟩ := h
  obtain ⟨u40, h⟩ := h
  obtain ⟨u41, h⟩ := h
  obtain ⟨u42, h⟩ := h
  obtain ⟨u43, h⟩ := h
  obtain ⟨u44, h⟩ := h
  obtain ⟨u45, h⟩ := h
  obtain ⟨u46, h⟩ := h
  obtain ⟨u47, h⟩ := h
  obtain ⟨u48, h⟩ := h
  obtain ⟨u49, h⟩ := h
  obtain ⟨u50, h⟩ := h
  obtain ⟨u51, h⟩ := h
  obtain ⟨u52, h⟩ := h
  obtain ⟨u53, h⟩ := h
  obtain ⟨u54, h⟩ := h
  obtain ⟨u55, h⟩ := h
  obtain ⟨u56, h⟩ := h
  obtain ⟨u57, h⟩ := h
  obtain ⟨u58, h⟩ := h
  obtain ⟨u59, h⟩ := h
  obtain ⟨u60, h⟩ := h
  obtain ⟨u61, h⟩ := h
  obtain ⟨u62, h⟩ := h
  obtain ⟨u63, h⟩ := h
  obtain ⟨u64, h⟩ := h
  obtain ⟨u65, h⟩ := h
  obtain ⟨u66, h⟩ := h
  obtain ⟨u67, h⟩ := h
  obtain ⟨u68, h⟩ := h
  obtain ⟨u69, h⟩ := h
  obtain ⟨u70, h⟩ := h
  obtain ⟨u71, h⟩ := h
  obtain ⟨u72, h⟩ := h
  obtain ⟨u73, h⟩ := h
  obtain ⟨u74, h⟩ := h
  obtain ⟨u75, h⟩ := h
  obtain ⟨u76, h⟩ := h
  obtain ⟨u77, h⟩ := h
  obtain ⟨u78, h⟩ := h
  obtain ⟨u79, h⟩ := h
  obtain ⟨u80, h⟩ := h
  obtain ⟨u81, h⟩ := h
  obtain ⟨u82, h⟩ := h
  obtain ⟨hk, h7, hD, hC, ha⟩ := h
  subst ha
  cases k with
  | zero =>
    have h7' : s7 < 0 := by omega
    clear h7
    have c0 := hC.cm
    have HD := hid hD; have HC := hid hC
    clear hD hC
    gi_wp2
    show LeavesInM _ _ _ _ _ _ (Ds.map mark) .returning W
    refine leaves_marks (B := bm + 1) (fun W => Ext w W ∧ Holds W (n0 + 2) T) ?_ ?_ Ds W HC.out.nodup HC.out.marks ⟨HC.out.ext, HC.out.map⟩
    · intro W4 D ⟨h1, h2⟩ h3 h4
      have hb := HC.out.hb
      have hg := grownBy_putObj' W4 D (.deferred none)
      exact ⟨h1.grown hg h1.size (fun j e => by cases e; omega), h2.same (hg.block _ h2.lt (fun e => by cases e; omega))⟩
    · intro W4 ⟨h1, h2⟩
      exact ⟨_, results_tmp rfl _ _ _, h1, n0 + 2, T, K, by omega, rfl, h2, HT.out, HD.out⟩
  | succ k =>
    have h7' : s7 = (k : Int) := by omega
    subst h7'
    have HD := hid hD; have HC := hid hC
    obtain ⟨b, o, rfl⟩ : ∃ b o, ad = some ⟨b, o, none⟩ := by
      obtain ⟨b, o, cap', he, -⟩ := rows_ne HX.out (Nat.lt_of_lt_of_le (Nat.succ_pos k) hk)
      simp only [Value.slice.injEq] at he
      exact ⟨b, o, he.1⟩
    obtain ⟨A2, A3, ha1, ha2, ha3⟩ := words_addr HX.out HV.out
    have hg : X.getD k [] = X[k] := by simp [show k < X.length from hk]
    have k0 := hC.ext.cell (ha1 k hk).2
    rw [hg] at k0
    have h16 := (HV.out.2 k hk).2.1
    have h1 := (HV.out.2 k hk).1
    have HA1 := hid ha1; have HA2 := hid ha2; have HA3 := hid ha3; have HG := hid hg
    clear hD hC ha1 ha2 ha3 hg h7
    gi_wp2
    clear k0
    refine wpIn_loop (fun a' W => ∃ (m : Nat) (s8 : Int) (Ds : List Nat) (T : Place → Option Int) (v9 v10 v11 v12 v13 v14 v15 v16 v17 v18 v19 v20 v21 v22 v23 v24 v25 v26 v27 v28 v29 v30 v31 v32 v33 v34 v35 v36 v37 v38 v39 v40 v41 v42 v43 v44 v45 v46 v47 v48 v49 v50 v51 v52 v53 v54 v55 v56 v57 v58 v59 v60 v61 v62 v63 v64 v65 v66 v67 v68 v69 v70 v71 v72 v73 v74 v75 v76 v77 v78 v79 v80 v81 v82 : Value), m ≤ X[k].length ∧ s8 = (m : Int) - 1 ∧ Dict X K (k, m) T ∧ Cst w W n0 bm width X T Ds ∧ a' = { tmps := List.toArray (.slice (some ⟨b, o, none⟩) X.length cap :: .int .i64 width :: undef :: .pointer (some ⟨n0, 0, none⟩) :: .map none :: .pointer (some ⟨n0 + 1, 0, none⟩) :: .pointer (some ⟨bm, 0, none⟩) :: .int .i64 k :: .int .i64 s8 :: v9 :: v10 :: v11 :: v12 :: v13 :: v14 :: v15 :: v16 :: v17 :: v18 :: v19 :: v20 :: v21 :: v22 :: v23 :: v24 :: v25 :: v26 :: v27 :: v28 :: v29 :: v30 :: v31 :: v32 :: v33 :: v34 :: v35 :: v36 :: v37 :: v38 :: v39 :: v40 :: v41 :: v42 :: v43 :: v44 :: v45 :: v46 :: v47 :: v48 :: v49 :: v50 :: v51 :: v52 :: v53 :: v54 :: v55 :: v56 :: v57 :: v58 :: v59 :: v60 :: v61 :: v62 :: v63 :: v64 :: v65 :: v66 :: v67 :: v68 :: v69 :: v70 :: v71 :: v72 :: v73 :: v74 :: v75 :: v76 :: v77 :: v78 :: v79 :: v80 :: v81 :: v82 :: []), defers := Ds.map mark }) (fun a' _ => (intOf (a'.tmps.getD 8 undef) + 1).toNat) ?_ ?_
    · exact ⟨X[k].length, _, Ds, T, _, _, _, _, _, _, _, _, _, _, _, _, _, _, _, _, _, _, _, _, _, _, _, _, _, _, _, _, _, _, _, _, _, _, _, _, _, _, _, _, _, _, _, _, _, _, _, _, _, _, _, _, _, _, _, _, _, _, _, _, _, _, _, _, _, _, _, _, _, _, _, _, _, _, Nat.le_refl _, rfl, dict_row hk HD.out, HC.out, rfl⟩
    clear HD HC
    rintro a' W ⟨m, s8, Ds, T, h⟩
    obtain ⟨v9, h⟩ := h
    obtain ⟨v10, h⟩ := h
    obtain ⟨v11, h⟩ := h
    obtain ⟨v12, h⟩ := h
    obtain ⟨v13, h⟩ := h
    obtain ⟨v14, h⟩ := h
    obtain ⟨v15, h⟩ := h
    obtain ⟨v16, h⟩ := h
    obtain ⟨v17, h⟩ := h
    obtain ⟨v18, h⟩ := h
    obtain ⟨v19, h⟩ := h
    obtain ⟨v20, h⟩ := h
    obtain ⟨v21, h⟩ := h
    obtain ⟨v22, h⟩ := h
    obtain ⟨v23, h⟩ := h
    obtain ⟨v24, h⟩ := h
    obtain ⟨v25, h⟩ := h
    obtain ⟨v26, h⟩ := h
    obtain ⟨v27, h⟩ := h
    obtain ⟨v28, h⟩ := h
    obtain ⟨v29, h⟩ := h
    obtain ⟨v30, h⟩ := h
    obtain ⟨v31, h⟩ := h
    obtain ⟨v32, h⟩ := h
    obtain ⟨v33, h⟩ := h
    obtain ⟨v34, h⟩ := h
    obtain ⟨v35, h⟩ := h
    obtain ⟨v36, h⟩ := h
    obtain ⟨v37, h⟩ := h
    obtain ⟨v38, h⟩ := h
    obtain ⟨v39, h⟩ := h
    obtain ⟨v40, h⟩ := h
    obtain ⟨v41, h⟩ := h
    obtain ⟨v42, h⟩ := h
    obtain ⟨v43, h⟩ := h
    obtain ⟨v44, h⟩ := h
    obtain ⟨v45, h⟩ := h
    obtain ⟨v46, h⟩ := h
    obtain ⟨v47, h⟩ := h
    obtain ⟨v48, h⟩ := h
    obtain ⟨v49, h⟩ := h
    obtain ⟨v50, h⟩ := h
    obtain ⟨v51, h⟩ := h
    obtain ⟨v52, h⟩ := h
    obtain ⟨v53, h⟩ := h
    obtain ⟨v54, h⟩ := h
    obtain ⟨v55, h⟩ := h
    obtain ⟨v56, h⟩ := h
    obtain ⟨v57, h⟩ := h
    obtain ⟨v58, h⟩ := h
    obtain ⟨v59, h⟩ := h
    obtain ⟨v60, h⟩ := h
    obtain ⟨v61, h⟩ := h
    obtain ⟨v62, h⟩ := h
    obtain ⟨v63, h⟩ := h
    obtain ⟨v64, h⟩ := h
    obtain ⟨v65, h⟩ := h
    obtain ⟨v66, h⟩ := h
    obtain ⟨v67, h⟩ := h
    obtain ⟨v68, h⟩ := h
    obtain ⟨v69, h⟩ := h
    obtain ⟨v70, h⟩ := h
    obtain ⟨v71, h⟩ := h
    obtain ⟨v72, h⟩ := h
    obtain ⟨v73, h⟩ := h
    obtain ⟨v74, h⟩ := h
    obtain ⟨v75, h⟩ := h
    obtain ⟨v76, h⟩ := h
    obtain ⟨v77, h⟩ := h
    obtain ⟨v78, h⟩ := h
    obtain ⟨v79, h⟩ := h
    obtain ⟨v80, h⟩ := h
    obtain ⟨v81, h⟩ := h
    obtain ⟨v82, h⟩ := h
    obtain ⟨hm, h8, hD, hC, ha⟩ := h
    subst ha
    cases m with
    | zero =>
      have h8' : s8 < 0 := by omega
      clear h8
      have HD := hid hD; have HC := hid hC
      clear hD hC
      gi_wp2
      refine ⟨⟨k, _, Ds, T, _, _, _, _, _, _, _, _, _, _, _, _, _, _, _, _, _, _, _, _, _, _, _, _, _, _, _, _, _, _, _, _, _, _, _, _, _, _, _, _, _, _, _, _, _, _, _, _, _, _, _, _, _, _, _, _, _, _, _, _, _, _, _, _, _, _, _, _, _, _, _, _, _, _, _, by omega, rfl, HD.out, HC.out, rfl⟩, ?_⟩
      show ((k : Int) - 1 + 1).toNat < ((k : Int) + 1).toNat
      omega
    | succ i =>
      have h8' : s8 = (i : Int) := by omega
      subst h8'
      have cw := hC.cw
      have hL := fun W (hx : Ext w W) => lines_ok (.slice (some ⟨b, o, none⟩) X.length cap) X width (k, i) W (Rdr.ext _ HX.out hx)
      have HL := hid hL; have HD := hid hD; have HC := hid hC
      have HC1 := hid (hC.alloc (.cells #[.int .i64 k, .int .i64 i] 64))
      have HXc := hid (hC.ext.then (Ext.alloc W (.cells #[.int .i64 k, .int .i64 i] 64)))
      have k1 := HC1.out.cw
      have f0 := cell_alloc0 W #[.int .i64 k, .int .i64 i] 64 0 rfl
      have f1 := cell_alloc0 W #[.int .i64 k, .int .i64 i] 64 1 rfl
      clear hL hD hC h8
      gi_wp2_with (gi_at_call 40; refine (hO.calls (HL.out _ HXc.out)).mono ?_; rintro e w' ⟨rfl, rfl⟩)
      clear k1
      have hf : Pl X (k, i) := ⟨hk, by show i < X[k].length; omega⟩
      have hxw := hid (HXc.out.then (((Ext.alloc _ (.cells #[.slice (some ⟨b, o, none⟩) X.length cap] 34)).then (Ext.alloc _ (.cells #[.int .i64 width] 3))).then (Ext.alloc _ (.cells #[.int .i64 k, .int .i64 i] 64))))
      have HC4 := hid (((HC1.out.alloc (.cells #[.slice (some ⟨b, o, none⟩) X.length cap] 34)).alloc (.cells #[.int .i64 width] 3)).alloc (.cells #[.int .i64 k, .int .i64 i] 64))
      have g0 := (Ext.alloc _ (.cells #[.int .i64 k, .int .i64 i] 64)).cell ((Ext.alloc _ (.cells #[.int .i64 width] 3)).cell ((Ext.alloc _ (.cells #[.slice (some ⟨b, o, none⟩) X.length cap] 34)).cell f0))
      have g1 := (Ext.alloc _ (.cells #[.int .i64 k, .int .i64 i] 64)).cell ((Ext.alloc _ (.cells #[.int .i64 width] 3)).cell ((Ext.alloc _ (.cells #[.slice (some ⟨b, o, none⟩) X.length cap] 34)).cell f1))
      have e0 := (Ext.alloc _ (.cells #[.int .i64 k, .int .i64 i] 64)).cell ((Ext.alloc _ (.cells #[.int .i64 width] 3)).cell (cell_alloc0 (W.alloc (.cells #[.int .i64 k, .int .i64 i] 64)) #[.slice (some ⟨b, o, none⟩) X.length cap] 34 0 rfl))
      have e1 := (Ext.alloc _ (.cells #[.int .i64 k, .int .i64 i] 64)).cell (cell_alloc0 ((W.alloc (.cells #[.int .i64 k, .int .i64 i] 64)).alloc (.cells #[.slice (some ⟨b, o, none⟩) X.length cap] 34)) #[.int .i64 width] 3 0 rfl)
      have e2 := cell_alloc0 (((W.alloc (.cells #[.int .i64 k, .int .i64 i] 64)).alloc (.cells #[.slice (some ⟨b, o, none⟩) X.length cap] 34)).alloc (.cells #[.int .i64 width] 3)) #[.int .i64 k, .int .i64 i] 64 0 rfl
      have e3 := cell_alloc0 (((W.alloc (.cells #[.int .i64 k, .int .i64 i] 64)).alloc (.cells #[.slice (some ⟨b, o, none⟩) X.length cap] 34)).alloc (.cells #[.int .i64 width] 3)) #[.int .i64 k, .int .i64 i] 64 1 rfl
      have hsz : ((((W.alloc (.cells #[.int .i64 k, .int .i64 i] 64)).alloc (.cells #[.slice (some ⟨b, o, none⟩) X.length cap] 34)).alloc (.cells #[.int .i64 width] 3)).alloc (.cells #[.int .i64 k, .int .i64 i] 64)).heap.size = W.heap.size + 4 := by simp
      simp only [World.size_alloc] at e0 e1 e2 e3 ⊢
      generalize hWL : ((((W.alloc (.cells #[.int .i64 k, .int .i64 i] 64)).alloc (.cells #[.slice (some ⟨b, o, none⟩) X.length cap] 34)).alloc (.cells #[.int .i64 width] 3)).alloc (.cells #[.int .i64 k, .int .i64 i] 64)) = WL at *
      clear hWL f0 f1 HL
      have hcap : Cap Any WL (W.heap.size + 1) b o cap width (k, i) X A2 A3 := ⟨⟨trivial, trivial, trivial⟩, e0, e1, e2, e3, fun q hq => ⟨trivial, hxw.out.cell (HA1.out q hq).2⟩, fun q hq j hj => ⟨trivial, hxw.out.cell (HA2.out q hq j hj).2⟩, fun q hq j hj r hr => ⟨trivial, hxw.out.cell (HA3.out q hq j hj r hr).2⟩⟩
      have hDs : ∀ D ∈ Ds, D < WL.heap.size := fun D hd => (Array.getElem?_eq_some_iff.1 (HC4.out.marks D hd).2).1
      have hbl : bm + 1 ≤ WL.heap.size := by
        have := cell_lt HC4.out.cm
        exact this
      have hKt : ∀ {A B C : World}, KeepC A B → KeepC B C → KeepC A C := KeepC.trans
      have hTN := dict_none hf HD.out
      refine wpIn_rangeFunc_ownH rfl (by omega) (gf := 54) (lb := #[.pointer (some ⟨W.heap.size + 1 + 2, 0, none⟩), .pointer (some ⟨W.heap.size + 1, 0, none⟩), .pointer (some ⟨W.heap.size + 1 + 1, 0, none⟩)]) rfl (hO.fn _) (enters_of Try.func54 (by kernel_rfl) rfl)
        (lines_stops Fence.wide 9 (hO.fn _) rfl (by omega) KeepC Any X width (k, i) (W.heap.size + 1) b o cap A2 A3 WL HV.out HW.out hf (fun A C h a u _ => h a u) hcap) KeepC.trans (fun W l o o' _ h1 h2 _ => keepC_put W l o o' h1 h2) (Below.refl _ _) (fun _ => rfl)
        (fun (pre : List (LineOf X width (k, i))) W' => (Cst w W' n0 bm width X (upd T (k, i) (bestL X T width (k, i) (pre.map Subtype.val))) Ds ∧ W'.cell? ⟨W.heap.size, 0, none⟩ = some (.int .i64 k) ∧ W'.cell? ⟨W.heap.size, 1, none⟩ = some (.int .i64 i)))
        (fun _ _ _ => False)
        (fun pre A C row hs hg hr => ⟨hs.1.own hg hr hbl hDs, cell_kept hs.2.1 hg (fun r e => (hr r e).2), cell_kept hs.2.2 hg (fun r e => (hr r e).2)⟩)
        (fun _ _ _ _ _ hs _ _ => hs)
        ⟨by rw [show bestL X T width (k, i) (([] : List (LineOf X width (k, i))).map (·.1)) = none from rfl, upd_nil hTN]; exact HC4.out, g0, g1⟩
        (fun (x : LineOf X width (k, i)) a' W' => ∃ Bx, W'.cell? ⟨Bx, 0, none⟩ = some (.int .i64 x.1.1.1) ∧ W'.cell? ⟨Bx, 1, none⟩ = some (.int .i64 x.1.1.2) ∧ a' = { tmps := List.toArray (.slice (some ⟨b, o, none⟩) X.length cap :: .int .i64 width :: undef :: .pointer (some ⟨n0, 0, none⟩) :: .map none :: .pointer (some ⟨n0 + 1, 0, none⟩) :: .pointer (some ⟨bm, 0, none⟩) :: .int .i64 k :: .int .i64 i :: .pointer (some ⟨W.heap.size, 0, none⟩) :: .pointer (some ⟨Bx, 0, none⟩) :: .int .i64 x.1.2 :: v12 :: v13 :: v14 :: v15 :: v16 :: v17 :: v18 :: v19 :: v20 :: v21 :: v22 :: v23 :: v24 :: v25 :: v26 :: v27 :: v28 :: v29 :: v30 :: v31 :: v32 :: v33 :: v34 :: v35 :: .int .i64 i :: .bool true :: v38 :: v39 :: .int .i64 k :: .int .i64 i :: .agg #[.int .i64 k, .int .i64 i] :: .slice (some ⟨b, o, none⟩) X.length cap :: .int .i64 width :: .agg #[.int .i64 k, .int .i64 i] :: .func (.func 54) #[] #[.pointer (some ⟨W.heap.size + 1 + 2, 0, none⟩), .pointer (some ⟨W.heap.size + 1, 0, none⟩), .pointer (some ⟨W.heap.size + 1 + 1, 0, none⟩)] :: .agg #[.int .i64 x.1.1.1, .int .i64 x.1.1.2] :: .int .i64 x.1.2 :: v49 :: v50 :: v51 :: v52 :: v53 :: v54 :: v55 :: v56 :: v57 :: v58 :: v59 :: v60 :: v61 :: v62 :: v63 :: v64 :: v65 :: v66 :: v67 :: v68 :: v69 :: v70 :: v71 :: v72 :: v73 :: v74 :: v75 :: v76 :: v77 :: v78 :: v79 :: v80 :: v81 :: v82 :: []), defers := [] })
        (fun x a' _ A C row hs hg hr => by obtain ⟨Bx, h1, h2, h3⟩ := hs; exact ⟨Bx, cell_kept h1 hg (fun r e => (hr r e).2), cell_kept h2 hg (fun r e => (hr r e).2), h3⟩)
        ?assign ?body ?done ?stop
      case assign =>
        intro l pre x W4 K4 hi hK4
        have HI := hid hi; have HK4 := hid hK4
        clear hi hK4 hcap e0 e1 e2 e3 g0 g1
        simp only [encL]
        gi_wp2
        exact HK4.out _ _ ((KeepsOthers.alloc _ _).from _) (fun a u h => (Ext.alloc _ _).cell h) ⟨HI.out.1.alloc _, (Ext.alloc _ _).cell HI.out.2.1, (Ext.alloc _ _).cell HI.out.2.2⟩ ⟨W4.heap.size, cell_alloc0 W4 #[.int .i64 x.1.1.1, .int .i64 x.1.1.2] 64 0 rfl, cell_alloc0 W4 #[.int .i64 x.1.1.1, .int .i64 x.1.1.2] 64 1 rfl, rfl⟩
      case body =>
        intro l pre x a' W4 _ _ hi hax _
        obtain ⟨Bx, x0, x1, rfl⟩ := hax
        obtain ⟨⟨⟨q, j⟩, size⟩, hxm⟩ := x
        obtain ⟨hl1, hl2, hl3, hl4, hl5⟩ := line_mem HV.out hf hxm
        dsimp only at x0 x1 hl1 hl2 hl3 hl4 hl5
        have hTt := dict_lat HV.out hf HD.out _ hl1
        have hne : (q, j) ≠ (k, i) := by
          intro e
          obtain ⟨rfl, rfl⟩ := Prod.mk.inj e
          rcases hl2 with h | ⟨_, h⟩ <;> dsimp only at h <;> omega
        have hL1 := hi.1.map.look (q, j)
        rw [upd, if_neg hne] at hL1
        have hsn := bestL_snoc (X := X) (T := T) (width := width) (f := (k, i)) (pre.map Subtype.val) ((q, j), size)
        have hpb := priceL_bd HV.out HW.out hf hl2 hl3
        have hsb := sizeL_bd HV.out hf hl2 hl3
        obtain ⟨lb, heq, hP⟩ := price_at (width := width) hl4 HW.out hl5 hsb.1
        have hwi : wrap64 (width - size) = width - size := wrap64_id (by have := HW.out; have := hsb.1; omega) (by have := HW.out; have := hsb.1; omega)
        rw [← hwi] at hP
        clear hwi
        have hmap : (pre ++ [(⟨((q, j), size), hxm⟩ : LineOf X width (k, i))]).map Subtype.val = pre.map Subtype.val ++ [((q, j), size)] := by simp
        have HI := hid hi; have HP := hid hP; have HSN := hid hsn; have HMAP := hid hmap
        have cw := hi.1.cw
        have ce0 := hi.1.ce0
        have ce1 := hi.1.ce1
        have cm := hi.1.cm
        have f0 := hi.2.1
        have f1 := hi.2.2
        have hO2 : Dac.Open (Fence.wide.inRound l) := hO.inRound l
        clear hi hcap e0 e1 e2 e3 g0 g1 hP hsn hmap hl1 hl2 hl4 hl5 hsb
        generalize hpr : priceL X width (k, i) (q, j) = pr at *
        cases hTq : T (q, j) with
        | none =>
          rw [hTq] at hL1
          simp only [Option.getD_none, Option.isSome_none] at hL1
          gi_wp2
          refine ⟨KeepsFrom.refl _ _, fun a u h => h, ?_, HI.out.2⟩
          rw [HMAP.out, HSN.out, bestStep, hTq]
          exact HI.out.1
        | some c =>
          rw [hTq] at hL1
          simp only [Option.getD_some, Option.isSome_some] at hL1
          have hcb := tOf_bd HV.out HW.out HT.out hl3 (hTt.symm.trans hTq)
          obtain ⟨c1, c2⟩ := hcb
          obtain ⟨p1, p2⟩ := hpb
          clear hTt
          have HTQ := hid hTq
          clear hTq
          gi_wp2
          (refine wpIn_quiet_lit hO2 (by kernel_rfl) (by kernel_rfl) (by kernel_rfl) ?_; (repeat (go_big_quiet_step ((go_at_call 41; exact Calls.quiet_of (HP.out _))))); refine wpQuiet_nil ?_; intro _ hw'; obtain ⟨nq, hw''⟩ := hw'; subst hw'')
          cases hb : bestL X T width (k, i) (pre.map Subtype.val) with
          | none =>
            have hL2 := (HI.out.1.drewN nq).map.look (k, i)
            rw [upd, if_pos rfl, hb] at hL2
            simp only [Option.getD_none, Option.isSome_none] at hL2
            obtain ⟨W5, hrun, hh5, hg5⟩ := (HI.out.1.drewN nq).map.put (k, i) (c + pr)
            dsimp only at hrun
            have HH5 := hid hh5; have HG5 := hid hg5; have HB := hid hb
            clear hh5 hg5 hb
            gi_wp2
            simp only [ownPostG]
            rw [HMAP.out, HSN.out, bestStep, HTQ.out, HB.out]
            dsimp only
            rw [hpr]
            exact body_put HI.out.1 HG5.out HH5.out (by omega) HI.out.2.1 HI.out.2.2
          | some bb =>
            have hL2 := (HI.out.1.drewN nq).map.look (k, i)
            rw [upd, if_pos rfl, hb] at hL2
            simp only [Option.getD_some, Option.isSome_some] at hL2
            by_cases hlt : c + pr < bb
            · obtain ⟨W5, hrun, hh5, hg5⟩ := (HI.out.1.drewN nq).map.put (k, i) (c + pr)
              dsimp only at hrun
              have HH5 := hid hh5; have HG5 := hid hg5; have HB := hid hb
              clear hh5 hg5 hb
              gi_wp2
              simp only [ownPostG]
              rw [HMAP.out, HSN.out, bestStep, HTQ.out, HB.out]
              dsimp only
              rw [hpr, if_pos hlt]
              exact body_put HI.out.1 HG5.out HH5.out (by omega) HI.out.2.1 HI.out.2.2
            · have HB := hid hb
              clear hb
              gi_wp2
              simp only [ownPostG]
              rw [HMAP.out, HSN.out, bestStep, HTQ.out, HB.out]
              dsimp only
              rw [hpr, if_neg (by omega)]
              have h5 := HI.out.1
              rw [HB.out] at h5
              exact body_keep h5 HI.out.2.1 HI.out.2.2
      case done =>
        intro D xs W4 hD4 hxs hi hK4
        subst hxs
        have HI := hid hi; have HK4 := hid hK4
        clear hi hK4 hcap e0 e1 e2 e3 g0 g1
        gi_wp2
        have hc4 := HI.out.1
        rw [List.attach_map_subtype_val] at hc4
        refine ⟨⟨i, _, D :: Ds, _, _, _, _, _, _, _, _, _, _, _, _, _, _, _, _, _, _, _, _, _, _, _, _, _, _, _, _, _, _, _, _, _, _, _, _, _, _, _, _, _, _, _, _, _, _, _, _, _, _, _, _, _, _, _, _, _, _, _, _, _, _, _, _, _, _, _, _, _, _, _, _, _, _, _, by omega, rfl, dict_step HV.out HW.out HT.out hf HD.out, hc4.more (by omega) (fun D' h => Nat.lt_of_lt_of_le (hDs D' h) hD4) HK4.out, rfl⟩, ?_⟩
        show ((i : Int) - 1 + 1).toNat < ((i : Int) + 1).toNat
        omega
      case stop =>
        intro D c pre W4 _ _ h _
        exact h.elim
end Go.Proofs.Ytehelanfgepcmaa
set_option linter.unusedSimpArgs false
set_option linter.unusedVariables false
set_option linter.unusedSectionVars false
namespace Go.Proofs.Ytehelanfgepcmaa
open Go.RowKit Dac
attribute [local go_sem] Oper.semAt_some

def rowT (T : Place → Option Int) (p n : Nat) : List Int := (List.range n).map fun j => (T (p, j)).getD (-1)
def tabT (T : Place → Option Int) (X : List (List (List Int))) (k : Nat) : List (List Int) := (List.range k).map fun p => rowT T p (X.getD p []).length
def rowI (T : Place → Option Int) (p m n : Nat) : List Int := rowT T p n ++ List.replicate (m - n) 0
theorem rowI_len {T : Place → Option Int} {p m n : Nat} (h : n ≤ m) : (rowI T p m n).length = m := by simp [rowI, rowT]; omega
theorem rowI_set {T : Place → Option Int} {p m n : Nat} (h : n < m) : (rowI T p m n).set n ((T (p, n)).getD (-1)) = rowI T p m (n + 1) := by
  have hl : (rowT T p n).length = n := by simp [rowT]
  have h1 : rowT T p (n + 1) = rowT T p n ++ [(T (p, n)).getD (-1)] := by simp [rowT, List.range_succ]
  rw [rowI, rowI, h1, List.set_append_right _ _ (by rw [hl]; exact Nat.le_refl _), hl, Nat.sub_self, show m - n = (m - (n + 1)) + 1 from by omega, List.replicate_succ]
  simp
theorem tabT_len (T : Place → Option Int) (X : List (List (List Int))) (k : Nat) : (tabT T X k).length = k := by simp [tabT]
theorem tabT_eq {X : List (List (List Int))} {width : Int} {K : List (List Int)} {T : Place → Option Int} (hV : VW X) (hw : 1 ≤ width ∧ width ≤ 512) (hT : IsTab X width K) (hD : Dict X K (0, 0) T) : tabT T X X.length = K := by
  have hl := hT.1.1
  apply List.ext_getElem (by rw [tabT_len, hl])
  intro p h1 h2
  rw [tabT_len] at h1
  have hp : X.getD p [] = X[p] := by simp [h1]
  simp only [tabT, List.getElem_map, List.getElem_range, rowT, hp]
  have hr := hT.1.2 p h1 h2
  apply List.ext_getElem (by simp [hr])
  intro j h3 h4
  simp only [List.getElem_map, List.getElem_range]
  have hpl : Pl X (p, j) := ⟨h1, by show j < X[p].length; rw [← hr]; exact h4⟩
  rw [hD.1 (p, j) (.inr ⟨hpl, by rintro (h | ⟨_, h⟩) <;> dsimp only at h <;> omega⟩), tOf, if_neg (pl_end hpl)]
  have hb := hT.bd hV hw _ (p, j) hpl (Nat.le_refl _)
  have hk : kAt K (p, j) = K[p][j] := by simp [kAt, h2, h4]
  rw [hk] at hb ⊢
  split
  · show (-1 : Int) = _; omega
  · rfl
theorem T_I64 {X : List (List (List Int))} {width : Int} {K : List (List Int)} {T : Place → Option Int} (hV : VW X) (hw : 1 ≤ width ∧ width ≤ 512) (hT : IsTab X width K) (hD : Dict X K (0, 0) T) (p : Place) : I64 ((T p).getD (-1)) ∧ ∀ c, T p = some c → 0 ≤ c ∧ c ≤ 100000000000000000 := by
  have key : ∀ c, T p = some c → 0 ≤ c ∧ c ≤ 100000000000000000 := by
    intro c hc
    by_cases hi : In X (0, 0) p
    · rw [hD.1 p hi] at hc
      refine tOf_bd hV hw hT ?_ hc
      rcases hi with rfl | h
      · exact .inl ⟨rfl, rfl⟩
      · exact .inr h.1
    · rw [hD.2 p hi] at hc; cases hc
  refine ⟨?_, key⟩
  cases h : T p with
  | none => unfold I64; simp
  | some c => have := key c h; unfold I64; simp; omega

theorem row_cell {W : World} {g : Nat} {L : List Int} {e : TypeId} (h : W.heap[g]? = some (.cells (intCells L) e (0, 0))) {n : Nat} (hn : n < L.length) : W.cell? ⟨g, n, none⟩ = some (.int .i64 L[n]) ∧ W.frozen? ⟨g, n, none⟩ = false := by
  constructor
  · simp only [World.cell?, h, Option.isSome_none, Bool.false_eq_true, if_false]
    exact intCells_get _ _ hn
  · simp [World.frozen?, h]
theorem row_set {W : World} {g : Nat} {L : List Int} {e : TypeId} (h : W.heap[g]? = some (.cells (intCells L) e (0, 0))) (n : Nat) (x : Int) : (W.setCell ⟨g, n, none⟩ (.int .i64 x)).heap[g]? = some (.cells (intCells (L.set n x)) e (0, 0)) := by
  rw [heap_setCell_same W g n _ e _ h, intCells_set]
theorem tabT_succ {T : Place → Option Int} {X : List (List (List Int))} {k : Nat} (h : k < X.length) : tabT T X (k + 1) = tabT T X k ++ [rowT T k X[k].length] := by
  simp [tabT, List.range_succ, h]
theorem Holds.of_ext {w W : World} {r : Nat} {T : Place → Option Int} (h : Holds w r T) (hx : Ext w W) : Holds W r T := h.same (hx.block r h.lt)

def TabQ (w : World) (K : List (List Int)) (e : Ending) (w' : World) : Prop := ∃ vl gs, e = .returned vl ∧ Ext w w' ∧ Grid w' w.heap.size 22 3 vl gs K

set_option maxRecDepth 100000 in
theorem table_ok (v : Value) (X : List (List (List Int))) (T : Place → Option Int) (r : Nat) (w : World) (hX : wordsR.rd w Any [v] X) (hV : VW X) (hT : ∀ p, I64 ((T p).getD (-1))) (hr : Holds w r T) :
    Calls Try.prog 39 #[v, .map (some r)] w (TabQ w (tabT T X X.length)) := by
  obtain ⟨ad, cap, rfl, l1, l2, el⟩ := rows hX
  unfold maxLen at l2
  obtain ⟨i0, hi, hz0, hz1, hz2⟩ := info_parts info22
  have h512 := hV.1
  have HV := hid hV; clear hV
  have HX := hid hX; clear hX
  have HE := hid el; clear el
  have HT := hid hT; clear hT
  have HR := hid hr; clear hr
  go_enter Try.func39, Try.ntmps39
  go_wp2
  go_loopw [5, 14] (fun out i wr => ∃ (k : Nat) (gs : List Nat), k ≤ X.length ∧ i = .int .i64 k ∧ Ext w wr ∧ Grid wr w.heap.size 22 3 out gs (tabT T X k)) (fun _ i _ => X.length - (intOf i).toNat)
  case atStart => exact ⟨0, [], by omega, rfl, Ext.rfl' _, Grid.nil _ _ _ _⟩
  case round =>
    obtain ⟨W0, rfl⟩ : ∃ W0, W0 = wr := ⟨_, rfl⟩
    obtain ⟨k, gs, hk, rfl, hx, hG⟩ := hrel
    have hle := hx.size
    have HGr := hid hG; clear hG
    have HXX := hid hx
    by_cases hlt : k < X.length
    · obtain ⟨b, o, ua, uc, rfl, ru, cu, hul⟩ := HE.out k hlt
      have cu1 := hx.cell cu
      have h16 := (HV.out.2 k hlt).2.1
      have hzl : (gs.zip ((tabT T X k).map List.length)).length = k := by rw [List.length_zip, List.length_map, HGr.out.len, tabT_len]; simp
      clear cu ru hul hx
      have hmk := run_make_row' (P := Try.prog) 22 3 (.int .i64 0) 8 Try.underlying22 info3 rfl .i64 .i64 X[k].length (by omega) (by omega)
      rw [madeCells_int] at hmk
      go_wp2
      go_loopw [25] (fun i wr2 => ∃ n : Nat, n ≤ X[k].length ∧ i = .int .i64 n ∧ Ext W0 wr2 ∧ wr2.heap[W0.heap.size + 1]? = some (.cells (intCells (rowI T k X[k].length n)) 3 (0, 0))) (fun i _ => X[k].length - (intOf i).toNat)
      case atStart =>
        refine ⟨0, by omega, rfl, Ext.then (Ext.alloc _ _) (Ext.alloc _ _), ?_⟩
        have := heap_alloc_new (W0.alloc (.cells #[.slice ua X[k].length uc] 42)) (.cells (intCells (List.replicate X[k].length 0)) 3)
        rw [World.size_alloc] at this
        exact this
      case round =>
        obtain ⟨n, hn, rfl, hx2, hrow⟩ := hrel
        have HX2 := hid hx2
        have hrl := HR.out.lt
        by_cases hnl : n < X[k].length
        · have hlen := rowI_len (T := T) (p := k) hn
          obtain ⟨c1, c2⟩ := row_cell hrow (n := n) (by omega)
          have hrow1 := row_set hrow n (-1)
          obtain ⟨d1, d2⟩ := row_cell hrow1 (n := n) (by rw [List.length_set]; omega)
          have hlk := ((HR.out.of_ext (HXX.out.then hx2)).same (Below.heap_setCell wr ⟨W0.heap.size + 1, n, none⟩ (.int .i64 (-1)) r (by show r ≠ W0.heap.size + 1; omega))).look (k, n)
          have hset := rowI_set (T := T) (p := k) hnl
          have HROW := hid hrow; have HROW1 := hid hrow1; have HSET := hid hset
          clear hrow hrow1 hset hx2
          cases hTq : T (k, n) with
          | none =>
            rw [hTq] at hlk
            simp only [Option.getD_none, Option.isSome_none] at hlk
            go_wp2
            go_roundw
            case rel =>
              refine ⟨n + 1, by omega, by go_num, Below.setCell HX2.out (by show W0.heap.size ≤ W0.heap.size + 1; omega) _, ?_⟩
              rw [← HSET.out, hTq]
              exact HROW1.out
            case measure => first | (simp [intOf]; done) | (simp [intOf]; omega)
          | some c =>
            rw [hTq] at hlk
            simp only [Option.getD_some, Option.isSome_some] at hlk
            go_wp2
            go_roundw
            case rel =>
              refine ⟨n + 1, by omega, by go_num, Below.setCell (Below.setCell HX2.out (by show W0.heap.size ≤ W0.heap.size + 1; omega) _) (by show W0.heap.size ≤ W0.heap.size + 1; omega) _, ?_⟩
              have := row_set HROW1.out n c
              rw [List.set_set] at this
              rw [← HSET.out, hTq]
              exact this
            case measure => first | (simp [intOf]; done) | (simp [intOf]; omega)
        · have hnm : n = X[k].length := by omega
          subst hnm
          have hri : rowI T k X[k].length X[k].length = rowT T k X[k].length := by simp [rowI]
          rw [hri] at hrow
          have HROW := hid hrow
          have hsz := hx2.size
          clear hrow hx2 hri
          go_wp2_with (at_builtin; refine wpList_append_at (w := wr) hdrR Any w.heap.size rfl _ _ 28 rfl 22 i0 _ 24 Try.underlying28 hi hz0 hz1 hz2 rfl (by decide) _ _ rfl (HGr.out.out.ext HX2.out) _ _ [_] (W0.heap.size + 1, X[k].length) rfl rfl (by rw [hzl]; omega) (by rw [hzl]; omega) (by omega) rfl ?_ rfl; intro g cp w1 hB1 hg1 hg2 hg3)
          go_roundw
          case rel =>
            refine ⟨k + 1, gs ++ [W0.heap.size + 1], by omega, by go_num, Below.grown (HXX.out.then HX2.out) hg1 (by omega) (fun j e => (HGr.out.out.lt j e).1), ?_⟩
            have hl : (rowT T k X[k].length).length = X[k].length := by simp [rowT]
            have hs := Grid.snoc (l := rowT T k X[k].length) HGr.out HX2.out HROW.out (by omega) hle (by rw [hl]; exact hB1) hg1 ⟨g, rfl, hg3⟩ ⟨by unfold maxLen; rw [hl]; omega, fun x hx => by
              obtain ⟨j, _, rfl⟩ := List.mem_map.1 hx
              exact HT.out _⟩
            rw [hzl] at hs
            rw [tabT_succ hlt]
            exact hs
          case measure => first | (simp [intOf]; done) | (simp [intOf]; omega)
    · have hkX : k = X.length := by omega
      go_wp2
      go_ret
      subst hkX
      exact ⟨_, gs, rfl, HXX.out, HGr.out⟩
end Go.Proofs.Ytehelanfgepcmaa
set_option linter.unusedSimpArgs false
set_option linter.unusedVariables false
set_option linter.unusedSectionVars false
namespace Dac
open Go Go.RowKit
theorem Bld.obj {α : Type} {R : Rdr α} {F : Nat → Prop} {w : World} {B : Nat} {e : TypeId} {v : Value} {xs : List α} (h : Bld R F w B e v xs) (k : Nat) (hk : v.ownBlock = some k) : ∃ o, w.heap[k]? = some o ∧ o.isCells = true := by
  obtain ⟨us, ho, hr⟩ := h
  rcases ho.2 with ⟨hn, h0⟩ | ⟨g, cap, cur, hv, hg, hc, _⟩
  · rw [hn] at hk; cases hk
  · rw [hv] at hk
    cases hk
    exact ⟨_, hc, rfl⟩
/-- 'wpList_append_at' inside a fence. -/
theorem wpListIn_append_at {Fe : Fence} {n : Nat} {P : Program} {w W : World} {ops : Array Oper} {rest : List Oper} {o : Oper} {a : Act} {Q : Exit → Act → World → Prop} {α : Type} (R : Rdr α) (F : Nat → Prop) (B : Nat) (hgd : o.guard = none) (s x : Operand) (t : TypeId)
    (ho : o.op = .call { callee := .builtin .append, args := #[s, x], argTypes := #[t, t] })
    (e : TypeId) (i : TypeInfo) (z : Value) (bytes : Nat) (ht : P.underlying t = some (.slice e)) (hi : P.info? e = some i) (hz : i.zero = some z)
    (hsize : i.size = R.size) (hby : i.bytes = bytes) (hzs : z.cells.size = R.size) (hsz : 0 < R.size)
    (v : Value) (xs : List α) (hs : a.eval s = v) (hb : Bld R F w B e v xs)
    (c N : Nat) (es : List Value) (y : α) (hx : a.eval x = .slice (some ⟨N, 0, none⟩) 1 c) (hy : R.rd w (fun k => F k ∧ some k ≠ v.ownBlock) es y)
    (h63 : xs.length + 1 ≤ 9223372036854775807) (hbytes : (xs.length + 1) * bytes ≤ 140737488355328) (hB : B ≤ w.heap.size) (hN : w.heap.size = N)
    (h : ∀ g cap w', Bld R F w' B e (.slice (some ⟨g, 0, none⟩) (xs.length + 1) cap) (xs ++ [y]) → w.grownBy w' v.ownBlock → B ≤ g → (v.ownBlock = some g ∨ w.heap.size ≤ g) →
      wpListIn Fe n P ops Q rest (a.put o.dst (.slice (some ⟨g, 0, none⟩) (xs.length + 1) cap)) w') (hW : W = w.alloc (.cells es.toArray e)) : wpListIn Fe n P ops Q (o :: rest) a W := by
  subst hW
  subst hN
  have hext := Ext.alloc w (.cells es.toArray e)
  obtain ⟨us, hown, hrd⟩ := hb
  have hown1 := hown.alloc (.cells es.toArray e)
  have hcell : ∀ j u, es[j]? = some u → (w.alloc (.cells es.toArray e)).cell? ((⟨w.heap.size, 0, none⟩ : Addr).add j) = some u := by
    intro j u hu
    have hadd : (⟨w.heap.size, 0, none⟩ : Addr).add j = ⟨w.heap.size, j, none⟩ := by unfold Addr.add; split <;> simp_all
    rw [hadd]
    unfold World.cell?
    rw [heap_alloc_new w (.cells es.toArray e)]
    simpa using hu
  obtain ⟨v', w', hr, hown', hg, hv, g, cap, rfl⟩ := own_append (P := P) _ t o.type e i z R.size bytes B ht hi hz hsize hby hzs hsz v xs.length us hown1 ⟨w.heap.size, 0, none⟩ 1 c es (by rw [R.len hy, Nat.one_mul]) hcell (R.one hy) (by omega) h63 hbytes (by rw [World.size_alloc]; omega)
  have hg0 : w.grownBy w' v.ownBlock := ⟨hg.os, hg.tape, hg.output, Nat.le_trans (by simp) hg.size, fun k hk hne => (hg.block k (by simp; omega) hne).trans (heap_alloc_old w _ hk)⟩
  have hb' := Bld.snoc hown1 (fun j hj => R.ext (hrd j hj) hext) (R.ext hy hext) hown' hg hv
  refine wpListIn_plain hgd fun K hK => ?_
  unfold Oper.wpIn
  refine ⟨?_, ?_⟩
  · simp [Oper.about, ho, resolve, Target.leads, Sem.run_pure]
  · rw [Oper.semAt_plain Fe _ _ (by rw [ho]; intro c hc'; cases hc')]
    unfold execOp
    simp only [ho, resolve, invoke, builtin, Sem.run_bind, Sem.run_pure, Result.andThen_ok, List.map_toArray, List.map_cons, List.map_nil, hs, hx, hr]
    refine hK _ _ (h g cap w' hb' hg0 ((World.ownsRow.lt hown') g rfl).1 ?_)
    rcases hv with hv | hv
    · exact .inl hv.symm
    · simp [Value.ownBlock] at hv; exact .inr (by omega)
end Dac
namespace Go.Proofs.Ytehelanfgepcmaa
open Go.RowKit Dac

theorem snoc_ind {α : Type} {P : List α → Prop} (nil : P []) (snoc : ∀ l x, P l → P (l ++ [x])) (l : List α) : P l := by
  have h : ∀ l : List α, P l.reverse := by
    intro l
    induction l with
    | nil => exact nil
    | cons x l ih => rw [List.reverse_cons]; exact snoc _ _ ih
  have := h l.reverse
  rwa [List.reverse_reverse] at this

/-- What Fill picks among the lines from f: the last that costs b. -/
def selStep (X : List (List (List Int))) (T : Place → Option Int) (width : Int) (f : Place) (b : Int) (acc : Place) (x : Place × Int) : Place :=
  match T x.1 with
  | none => acc
  | some c => if c + priceL X width f x.1 = b then x.1 else acc
def selL (X : List (List (List Int))) (T : Place → Option Int) (width : Int) (f : Place) (b : Int) (l : List (Place × Int)) : Place := l.foldl (selStep X T width f b) f
theorem selL_snoc {X : List (List (List Int))} {T : Place → Option Int} {width : Int} {f : Place} {b : Int} (l : List (Place × Int)) (x : Place × Int) :
    selL X T width f b (l ++ [x]) = selStep X T width f b (selL X T width f b l) x := by simp [selL]
theorem selL_mem {X : List (List (List Int))} {T : Place → Option Int} {width : Int} {f : Place} {b : Int} (l : List (Place × Int)) : selL X T width f b l = f ∨ ∃ x ∈ l, selL X T width f b l = x.1 := by
  induction l using snoc_ind with
  | nil => exact .inl rfl
  | snoc l x ih =>
    rw [selL_snoc, selStep]
    split
    · rcases ih with h | ⟨y, h1, h2⟩
      · exact .inl h
      · exact .inr ⟨y, by simp [h1], h2⟩
    · split
      · exact .inr ⟨x, by simp, rfl⟩
      · rcases ih with h | ⟨y, h1, h2⟩
        · exact .inl h
        · exact .inr ⟨y, by simp [h1], h2⟩

def candV (X : List (List (List Int))) (T : Place → Option Int) (width : Int) (f : Place) (x : Place × Int) : Option (Place × Int) := (T x.1).map fun c => (x.1, c + priceL X width f x.1)
def pickF (X : List (List (List Int))) (T : Place → Option Int) (width : Int) (f : Place) (l : List (Place × Int)) : Option (Int × Place) := l.foldl (fun acc x => pickStep acc (candV X T width f x)) none
theorem pickF_snoc {X : List (List (List Int))} {T : Place → Option Int} {width : Int} {f : Place} (l : List (Place × Int)) (x : Place × Int) : pickF X T width f (l ++ [x]) = pickStep (pickF X T width f l) (candV X T width f x) := by simp [pickF]
theorem pickF_go {X : List (List (List Int))} {T : Place → Option Int} {width : Int} {f : Place} : ∀ (l : List Place) (acc : Option (Int × Place)),
    (l.filterMap fun t => if width < sizeL X f t then none else some (t, sizeL X f t)).foldl (fun acc x => pickStep acc (candV X T width f x)) acc = l.foldl (fun acc t => pickStep acc (cand X width T f t)) acc
  | [], _ => rfl
  | t :: l, acc => by
    rw [List.filterMap_cons, List.foldl_cons]
    by_cases hw : width < sizeL X f t
    · have h1 : cand X width T f t = none := by rw [cand, if_pos hw]
      rw [if_pos hw, h1]
      exact pickF_go l acc
    · rw [if_neg hw]
      simp only [List.foldl_cons]
      have h1 : cand X width T f t = candV X T width f (t, sizeL X f t) := by rw [cand, if_neg hw, candV]
      rw [h1]
      exact pickF_go l _
theorem pickF_pick {X : List (List (List Int))} {T : Place → Option Int} {width : Int} {f : Place} : pickF X T width f (linesX X width f) = pick X width T f := pickF_go (lat X f) none

theorem pickF_min {X : List (List (List Int))} {T : Place → Option Int} {width : Int} {f : Place} (l : List (Place × Int)) : ∀ x ∈ l, ∀ c, T x.1 = some c → ∃ b a, pickF X T width f l = some (b, a) ∧ b ≤ c + priceL X width f x.1 := by
  induction l using snoc_ind with
  | nil => intro x hx; cases hx
  | snoc l y ih =>
    intro x hx c hc
    rw [pickF_snoc, candV]
    rcases List.mem_append.1 hx with h | h
    · obtain ⟨b, a, h1, h2⟩ := ih x h c hc
      rw [h1]
      cases hy : T y.1 with
      | none => exact ⟨b, a, rfl, h2⟩
      | some d =>
        simp only [Option.map_some, pickStep]
        by_cases h3 : d + priceL X width f y.1 ≤ b
        · rw [if_pos h3]; exact ⟨_, _, rfl, by omega⟩
        · rw [if_neg h3]; exact ⟨_, _, rfl, h2⟩
    · simp at h
      subst h
      rw [hc]
      simp only [Option.map_some, pickStep]
      cases pickF X T width f l with
      | none => exact ⟨_, _, rfl, Int.le_refl _⟩
      | some z =>
        obtain ⟨b, a⟩ := z
        dsimp only
        by_cases h3 : c + priceL X width f x.1 ≤ b
        · rw [if_pos h3]; exact ⟨_, _, rfl, Int.le_refl _⟩
        · rw [if_neg h3]; exact ⟨_, _, rfl, by omega⟩
theorem sel_pick {X : List (List (List Int))} {T : Place → Option Int} {width : Int} {f : Place} {b : Int} (l : List (Place × Int)) (hb : ∀ x ∈ l, ∀ c, T x.1 = some c → b ≤ c + priceL X width f x.1) :
    (∀ b' a, pickF X T width f l = some (b', a) → b ≤ b') ∧ selL X T width f b l = (match pickF X T width f l with | none => f | some (b', a) => if b' = b then a else f) := by
  induction l using snoc_ind with
  | nil => exact ⟨fun _ _ h => by simp [pickF] at h, rfl⟩
  | snoc l x ih =>
    obtain ⟨ih1, ih2⟩ := ih (fun y hy => hb y (by simp [hy]))
    have hx := hb x (by simp)
    rw [pickF_snoc, selL_snoc, selStep, ih2, candV]
    cases hT : T x.1 with
    | none => exact ⟨ih1, rfl⟩
    | some c =>
      have hv := hx c hT
      simp only [Option.map_some, pickStep]
      cases hp : pickF X T width f l with
      | none =>
        dsimp only
        refine ⟨fun b' a h => by simp at h; omega, rfl⟩
      | some z =>
        obtain ⟨b', a⟩ := z
        have h1 := ih1 b' a hp
        dsimp only
        by_cases h2 : c + priceL X width f x.1 ≤ b'
        · rw [if_pos h2]
          dsimp only
          refine ⟨fun b2 a2 h => by simp at h; omega, ?_⟩
          by_cases h3 : c + priceL X width f x.1 = b
          · rw [if_pos h3, if_pos h3]
          · rw [if_neg h3, if_neg h3, if_neg (by omega)]
        · rw [if_neg h2]
          dsimp only
          refine ⟨fun b2 a2 h => by simp at h; omega, ?_⟩
          rw [if_neg (show ¬ c + priceL X width f x.1 = b by omega)]
/-- What Fill comes to. -/
theorem sel_lines {X : List (List (List Int))} {T : Place → Option Int} {width : Int} {f a : Place} {b : Int} (h : pick X width T f = some (b, a)) : selL X T width f b (linesX X width f) = a := by
  rw [← pickF_pick] at h
  have h1 := sel_pick (b := b) (linesX X width f) (fun x hx c hc => by
    obtain ⟨b', a', h2, h3⟩ := pickF_min (T := T) (width := width) (f := f) (linesX X width f) x hx c hc
    rw [h] at h2
    simp only [Option.some.injEq, Prod.mk.injEq] at h2
    obtain ⟨rfl, _⟩ := h2
    exact h3)
  rw [h1.2, h]
  simp

theorem laters_sorted {X : List (List (List Int))} (hV : VW X) : ∀ (n : Nat) (p : Place), En X p → rem X p = n → (laters X n p).Pairwise Lt
  | 0, _, _, _ => List.Pairwise.nil
  | n + 1, p, he, hn => by
    have hp : Pl X p := by
      rcases he with h0 | h0
      · have : p = endP X := Prod.ext h0.1 h0.2
        rw [this, rem_end] at hn; omega
      · exact h0
    obtain ⟨h1, h2, h3⟩ := next_ok hV hp
    exact List.Pairwise.cons (fun t ht => (laters_mem hV n (next X p) h1 (by omega) t ht).1) (laters_sorted hV n (next X p) h1 (by omega))
theorem lines_sorted {X : List (List (List Int))} (hV : VW X) {width : Int} {f : Place} (hf : Pl X f) : (linesX X width f).Pairwise (fun a c => Lt a.1 c.1) := by
  unfold linesX restL
  refine List.Pairwise.filterMap _ ?_ (laters_sorted hV _ f (.inr hf) rfl)
  intro a c hac x hx y hy
  split at hx <;> split at hy <;> simp at hx hy
  subst hx; subst hy
  exact hac
/-- Behind a prefix of the lines, the next one lies behind whatever has been picked: so Fill's own test of the order changes nothing. -/
theorem sel_lt {X : List (List (List Int))} (hV : VW X) {T : Place → Option Int} {width : Int} {f : Place} {b : Int} (hf : Pl X f) {pre : List (Place × Int)} {x : Place × Int} (h : pre ++ [x] <+: linesX X width f) : Lt (selL X T width f b pre) x.1 := by
  have hs := (lines_sorted hV (width := width) hf).sublist h.sublist
  rw [List.pairwise_append] at hs
  rcases selL_mem (X := X) (T := T) (width := width) (f := f) (b := b) pre with e | ⟨y, h1, e⟩
  · rw [e]
    exact (line_mem hV hf (h.subset (by simp))).2.1
  · rw [e]
    exact hs.2.2 y h1 x (by simp)

instance (a b : Nat × Nat) : Decidable (Lt a b) := by unfold Lt; infer_instance
/-- Fill's own step, with its test of the order. -/
def selMStep (X : List (List (List Int))) (T : Place → Option Int) (width : Int) (f : Place) (b : Int) (acc : Place) (x : Place × Int) : Place :=
  match T x.1 with
  | none => acc
  | some c => if c + priceL X width f x.1 = b ∧ Lt acc x.1 then x.1 else acc
def selM (X : List (List (List Int))) (T : Place → Option Int) (width : Int) (f : Place) (b : Int) (l : List (Place × Int)) : Place := l.foldl (selMStep X T width f b) f
theorem selM_snoc {X : List (List (List Int))} {T : Place → Option Int} {width : Int} {f : Place} {b : Int} (l : List (Place × Int)) (x : Place × Int) :
    selM X T width f b (l ++ [x]) = selMStep X T width f b (selM X T width f b l) x := by simp [selM]
theorem selM_L {X : List (List (List Int))} (hV : VW X) {T : Place → Option Int} {width : Int} {f : Place} {b : Int} (hf : Pl X f) (l : List (Place × Int)) : l <+: linesX X width f → selM X T width f b l = selL X T width f b l := by
  induction l using snoc_ind with
  | nil => intro _; rfl
  | snoc l x ih =>
    intro h
    have hl : l <+: linesX X width f := (List.prefix_append l [x]).trans h
    have hlt := sel_lt hV (T := T) (b := b) hf h
    rw [selM_snoc, selL_snoc, ih hl, selMStep, selStep]
    cases T x.1 with
    | none => rfl
    | some c =>
      dsimp only
      by_cases h1 : c + priceL X width f x.1 = b
      · rw [if_pos ⟨h1, hlt⟩, if_pos h1]
      · rw [if_neg (fun h2 => h1 h2.1), if_neg h1]
theorem selM_lines {X : List (List (List Int))} (hV : VW X) {T : Place → Option Int} {width : Int} {f a : Place} {b : Int} (hf : Pl X f) (h : pick X width T f = some (b, a)) : selM X T width f b (linesX X width f) = a := by
  rw [selM_L hV hf _ (List.prefix_refl _), sel_lines h]
/-- The place that a box holds. -/
def atOf (W : World) (b : Nat) : Place := ((intOf ((W.cell? ⟨b, 0, none⟩).getD undef)).toNat, (intOf ((W.cell? ⟨b, 1, none⟩).getD undef)).toNat)
theorem atOf_eq {W : World} {b : Nat} {p : Place} (h : PairBox 64 W b (p.1, p.2)) : atOf W b = p := by
  obtain ⟨h1, h2, -, -⟩ := h.cells
  simp [atOf, h1, h2, intOf]

/-- What Fill holds from line to line: entered at world w; n2, n3: the heap's sizes behind costs and behind table. -/
structure Fst (w W : World) (n2 n3 r : Nat) (width : Int) (X : List (List (List Int))) (T : Place → Option Int) (K : List (List Int)) (p : Place) (ends : List Place) (ve vl : Value) (Ds : List Nat) : Prop where
  ext : Ext w W
  s2 : w.heap.size + 2 ≤ n2
  s3 : n2 + 3 ≤ n3
  hr : r < n2
  cw : W.cell? ⟨w.heap.size, 0, none⟩ = some (.int .i64 width)
  res : Box2 30 W (w.heap.size + 1) (.slice none 0 0) (.slice none 0 0)
  cm : W.cell? ⟨n2, 0, none⟩ = some (.map (some r))
  at_ : PairBox 64 W (n2 + 1) (p.1, p.2)
  ce0 : W.cell? ⟨n2 + 2, 0, none⟩ = some (.int .i64 X.length)
  ce1 : W.cell? ⟨n2 + 2, 1, none⟩ = some (.int .i64 0)
  map : Holds W r T
  out : Box2 30 W n3 ve vl
  bld : Bld pairR Any W (n3 + 1) 64 ve (toI ends)
  rows : RowsG W (fun k => n2 + 3 ≤ k ∧ k < n3) vl K
  nodup : Ds.Nodup
  marks : ∀ D ∈ Ds, n3 + 1 ≤ D ∧ W.heap[D]? = some (.deferred (some []))
theorem Fst.ne {w W : World} {n2 n3 r : Nat} {width : Int} {X : List (List (List Int))} {T : Place → Option Int} {K : List (List Int)} {p : Place} {ends : List Place} {ve vl : Value} {Ds : List Nat} (h : Fst w W n2 n3 r width X T K p ends ve vl Ds) :
    r ≠ w.heap.size ∧ r ≠ w.heap.size + 1 := by
  obtain ⟨o, h1, h2⟩ := h.map.obj
  constructor
  · rintro rfl
    have := h.cw
    simp [World.cell?, h1] at this
    cases o <;> simp_all [Obj.isCells]
  · rintro rfl
    have := h.res.cells.1
    simp [World.cell?, h1] at this
    cases o <;> simp_all [Obj.isCells]
/-- Whatever leaves the blocks below B as they lay leaves Fst. -/
theorem Fst.below {w W W' : World} {n2 n3 r : Nat} {width : Int} {X : List (List (List Int))} {T : Place → Option Int} {K : List (List Int)} {p : Place} {ends : List Place} {ve vl : Value} {Ds : List Nat} (h : Fst w W n2 n3 r width X T K p ends ve vl Ds)
    {row : Option Nat} (hg : W.grownBy W' row) (hr : ∀ q, row = some q → n3 < q ∧ ve.ownBlock ≠ some q ∧ q ∉ Ds) : Fst w W' n2 n3 r width X T K p ends ve vl Ds := by
  have s2 := h.s2
  have s3 := h.s3
  have s4 := h.hr
  have hb : ∀ k o, W.heap[k]? = some o → (k ≤ n3 ∨ ve.ownBlock = some k ∨ k ∈ Ds) → W'.heap[k]? = some o := fun k o hk hc => heap_grown hg hk (fun e => by
    obtain ⟨h1, h2, h3⟩ := hr k e
    rcases hc with hc | hc | hc
    · omega
    · exact h2 hc
    · exact h3 hc)
  have hcell : ∀ k o u, k ≤ n3 → W.cell? ⟨k, o, none⟩ = some u → W'.cell? ⟨k, o, none⟩ = some u := fun k o u hk hc => by
    have hlt := cell_lt hc
    have h1 := hb k _ (Array.getElem?_eq_getElem hlt) (.inl hk)
    rw [← hc]
    exact World.cell?_of_block (h1.trans (Array.getElem?_eq_getElem hlt).symm)
  refine ⟨h.ext.grown hg h.ext.size (fun j e => by have := (hr j e).1; omega), s2, s3, s4, hcell _ _ _ (by omega) h.cw, hb _ _ h.res (.inl (by omega)), hcell _ _ _ (by omega) h.cm, hb _ _ h.at_ (.inl (by omega)), hcell _ _ _ (by omega) h.ce0, hcell _ _ _ (by omega) h.ce1,
    h.map.same (hg.block _ h.map.lt (fun e => by have := (hr _ e.symm).1; omega)), hb _ _ h.out (.inl (Nat.le_refl _)), ?_, ?_, h.nodup, fun D hd => ⟨(h.marks D hd).1, hb _ _ (h.marks D hd).2 (.inr (.inr hd))⟩⟩
  · refine Bld.free pairR_free h.bld hg (fun k hk e => ?_)
    exact (hr k e.symm).2.1 hk
  · exact h.rows.grown hg (fun k hk e => by have := (hr k e.symm).1; omega)
/-- Cells keep what they hold, but for those of block n. -/
def KeepX (n : Nat) (A C : World) : Prop := ∀ (a : Addr) (u : Value), a.block ≠ n → A.cell? a = some u → C.cell? a = some u
theorem KeepX.trans {n : Nat} {A B C : World} (h : KeepX n A B) (k : KeepX n B C) : KeepX n A C := fun a u hn e => k a u hn (h a u hn e)
theorem keepX_put (n : Nat) (W : World) (l : Nat) (o o' : Obj) (h1 : W.heap[l]? = some o) (h2 : o.isCells = false) : KeepX n W (W.putObj l o') := fun a u _ e => keepC_put W l o o' h1 h2 a u e
theorem Fst.own {w W W' : World} {n2 n3 r : Nat} {width : Int} {X : List (List (List Int))} {T : Place → Option Int} {K : List (List Int)} {p : Place} {ends : List Place} {ve vl : Value} {Ds : List Nat} (h : Fst w W n2 n3 r width X T K p ends ve vl Ds)
    {row : Option Nat} (hg : W.grownBy W' row) (hr : ∀ q, row = some q → n3 < q ∧ ∃ o : Obj, W.heap[q]? = some o ∧ o.isCells = false) (hD : ∀ D ∈ Ds, ∀ q, row = some q → D ≠ q) : Fst w W' n2 n3 r width X T K p ends ve vl Ds := by
  refine h.below hg (fun q e => ⟨(hr q e).1, fun e2 => ?_, fun e2 => hD q e2 q e rfl⟩)
  obtain ⟨o, h1, h2⟩ := (hr q e).2
  obtain ⟨o2, h3, h4⟩ := h.bld.obj q e2
  rw [h1] at h3
  cases h3
  rw [h2] at h4
  cases h4
end Go.Proofs.Ytehelanfgepcmaa
set_option linter.unusedSimpArgs false
set_option linter.unusedVariables false
set_option linter.unusedSectionVars false
namespace Go.Proofs.Ytehelanfgepcmaa
open Go.RowKit Dac

/-- Fill's step: the end of the line is appended, and is the next place. -/
theorem Fst.step {w W w4 : World} {n2 n3 r : Nat} {width : Int} {X : List (List (List Int))} {T : Place → Option Int} {K : List (List Int)} {p q : Place} {ends : List Place} {ve ve' vl : Value} {Ds : List Nat} (h : Fst w W n2 n3 r width X T K p ends ve vl Ds)
    (hg : W.grownBy w4 ve.ownBlock) (hb : Bld pairR Any w4 (n3 + 1) 64 ve' (toI ends ++ [((q.1 : Int), (q.2 : Int))])) :
    Fst w (((w4.setCell ⟨n3, 0, none⟩ ve').setCell ⟨n2 + 1, 0, none⟩ (.int .i64 q.1)).setCell ⟨n2 + 1, 1, none⟩ (.int .i64 q.2)) n2 n3 r width X T K q (ends ++ [q]) ve' vl Ds := by
  have s2 := h.s2
  have s3 := h.s3
  have s4 := h.hr
  have own : ∀ k, ve.ownBlock = some k → n3 + 1 ≤ k := fun k e => (h.bld.lt k e).1
  have own' : ∀ k, ve'.ownBlock = some k → n3 + 1 ≤ k := fun k e => (hb.lt k e).1
  have hs : ∀ k, k ≠ n3 → k ≠ n2 + 1 → (((w4.setCell ⟨n3, 0, none⟩ ve').setCell ⟨n2 + 1, 0, none⟩ (.int .i64 q.1)).setCell ⟨n2 + 1, 1, none⟩ (.int .i64 q.2)).heap[k]? = w4.heap[k]? := fun k h1 h2 => by
    rw [Below.heap_setCell _ _ _ _ h2, Below.heap_setCell _ _ _ _ h2, Below.heap_setCell _ _ _ _ h1]
  have hh : ∀ k o, W.heap[k]? = some o → k ≠ n3 → k ≠ n2 + 1 → ve.ownBlock ≠ some k → (((w4.setCell ⟨n3, 0, none⟩ ve').setCell ⟨n2 + 1, 0, none⟩ (.int .i64 q.1)).setCell ⟨n2 + 1, 1, none⟩ (.int .i64 q.2)).heap[k]? = some o := fun k o hk h1 h2 h3 => by
    rw [hs k h1 h2]
    exact heap_grown hg hk h3
  have hcell : ∀ k o u, k < n3 → k ≠ n2 + 1 → W.cell? ⟨k, o, none⟩ = some u → (((w4.setCell ⟨n3, 0, none⟩ ve').setCell ⟨n2 + 1, 0, none⟩ (.int .i64 q.1)).setCell ⟨n2 + 1, 1, none⟩ (.int .i64 q.2)).cell? ⟨k, o, none⟩ = some u := fun k o u h1 h2 hc => by
    have hlt := cell_lt hc
    have h3 := hh k _ (Array.getElem?_eq_getElem hlt) (by omega) h2 (fun e => by have := own k e; omega)
    rw [← hc]
    exact World.cell?_of_block (h3.trans (Array.getElem?_eq_getElem hlt).symm)
  have hn3 : ve.ownBlock ≠ some n3 := fun e => by have := own _ e; omega
  have hn2 : ve.ownBlock ≠ some (n2 + 1) := fun e => by have := own _ e; omega
  refine ⟨?_, s2, s3, s4, hcell _ _ _ (by omega) (by omega) h.cw, hh _ _ h.res (by omega) (by omega) (fun e => by have := own _ e; omega), hcell _ _ _ (by omega) (by omega) h.cm, ?_, hcell _ _ _ (by omega) (by omega) h.ce0, hcell _ _ _ (by omega) (by omega) h.ce1,
    h.map.same ((hs r (by omega) (by omega)).trans (hg.block _ h.map.lt (fun e => by have := own _ e.symm; omega))), ?_, ?_, ?_, h.nodup, fun D hd => ⟨(h.marks D hd).1, hh _ _ (h.marks D hd).2 (by have := (h.marks D hd).1; omega) (by have := (h.marks D hd).1; omega) (fun e => ?_)⟩⟩
  · refine Below.setCell (Below.setCell (Below.setCell (h.ext.grown hg h.ext.size (fun j e => by have := own j e; omega)) ?_ _) ?_ _) ?_ _
    · show w.heap.size ≤ n3; omega
    · show w.heap.size ≤ n2 + 1; omega
    · show w.heap.size ≤ n2 + 1; omega
  · have h1 : PairBox 64 (w4.setCell ⟨n3, 0, none⟩ ve') (n2 + 1) (p.1, p.2) := PairBox.other (heap_grown hg h.at_ hn2) _ (by show n2 + 1 ≠ n3; omega)
    exact h1.set q.1 q.2
  · have h1 : Box2 30 w4 n3 ve vl := heap_grown hg h.out hn3
    exact ((h1.set0 ve').other (a := ⟨n2 + 1, 0, none⟩) _ (by show n3 ≠ n2 + 1; omega)).other (a := ⟨n2 + 1, 1, none⟩) _ (by show n3 ≠ n2 + 1; omega)
  · rw [toI_snoc]
    refine Bld.free pairR_free (Bld.free pairR_free (Bld.free pairR_free hb (grownBy_setCell _ ⟨n3, 0, none⟩ _) (fun k hk e => ?_)) (grownBy_setCell _ ⟨n2 + 1, 0, none⟩ _) (fun k hk e => ?_)) (grownBy_setCell _ ⟨n2 + 1, 1, none⟩ _) (fun k hk e => ?_) <;> (have := own' k hk; simp at e; omega)
  · refine h.rows.stay fun k hk hl => ?_
    rw [hs k (by omega) (by omega)]
    exact hg.block k hl (fun e => by have := own _ e.symm; omega)
  · obtain ⟨o, h1, h2⟩ := h.bld.obj D e
    rw [(h.marks D hd).2] at h1
    cases h1
    cases h2
end Go.Proofs.Ytehelanfgepcmaa
set_option linter.unusedSimpArgs false
set_option linter.unusedVariables false
set_option linter.unusedSectionVars false
namespace Go.Proofs.Ytehelanfgepcmaa
open Go.RowKit Dac
attribute [local go_sem] Oper.semAt_some

theorem T_none {X : List (List (List Int))} {width : Int} {K : List (List Int)} {T : Place → Option Int} {tb : Bool} (hV : VW X) (hT : IsTab X width K) (hD : Dict X K (0, 0) T) (h : tb = false ∨ (!tb) = true) (htb : (T (0, 0)).isSome = tb) : 0 < X.length ∧ kAt K (0, 0) < 0 := by
  have hn : T (0, 0) = none := by
    have h' : tb = false := by
      rcases h with h | h
      · exact h
      · simpa using h
    subst h'
    simpa using htb
  by_cases h0 : X.length = 0
  · have he : ((0, 0) : Place) = endP X := by rw [endP, h0]
    have := hD.1 (0, 0) (.inl he)
    rw [hn, tOf, if_pos he] at this
    cases this
  · have hp : 0 < X.length := by omega
    have hpl : Pl X (0, 0) := ⟨hp, (hV.2 0 hp).1⟩
    have := hD.1 (0, 0) (.inr ⟨hpl, by rintro (h | ⟨_, h⟩) <;> exact absurd h (Nat.not_lt_zero _)⟩)
    rw [hn, tOf, if_neg (pl_end hpl)] at this
    refine ⟨hp, ?_⟩
    split at this
    · assumption
    · cases this

theorem T_some {X : List (List (List Int))} {width : Int} {K : List (List Int)} {T : Place → Option Int} (hV : VW X) (hT : IsTab X width K) (hD : Dict X K (0, 0) T) (h : ∃ c, T (0, 0) = some c) : En X (0, 0) ∧ (Pl X (0, 0) → 0 ≤ kAt K (0, 0)) := by
  obtain ⟨c, hc⟩ := h
  by_cases h0 : X.length = 0
  · exact ⟨.inl ⟨h0.symm, rfl⟩, fun hp => absurd hp.1 (by simp [h0])⟩
  · have hp : 0 < X.length := by omega
    have hpl : Pl X (0, 0) := ⟨hp, (hV.2 0 hp).1⟩
    refine ⟨.inr hpl, fun _ => ?_⟩
    have := hD.1 (0, 0) (.inr ⟨hpl, by rintro (h | ⟨_, h⟩) <;> exact absurd h (Nat.not_lt_zero _)⟩)
    rw [hc, tOf, if_neg (pl_end hpl)] at this
    split at this
    · cases this
    · omega

theorem store_next {w W4 : World} {n2 n3 r : Nat} {width : Int} {X : List (List (List Int))} {T : Place → Option Int} {K : List (List Int)} {p : Place} {ends : List Place} {ve vl : Value} {Ds : List Nat} {Bn L : Nat} {n' : Int × Int} (h : Fst w W4 n2 n3 r width X T K p ends ve vl Ds) (hB : n3 < Bn) (hL : Bn < L) (hp : PairBox 64 W4 Bn n') (hv : ve.ownBlock ≠ some Bn) (nq : Nat) (x y : Int) :
    KeepsFrom L W4 (((W4.drewN nq).setCell ⟨Bn, 0, none⟩ (.int .i64 x)).setCell ⟨Bn, 1, none⟩ (.int .i64 y)) ∧ KeepX Bn W4 (((W4.drewN nq).setCell ⟨Bn, 0, none⟩ (.int .i64 x)).setCell ⟨Bn, 1, none⟩ (.int .i64 y)) ∧
      Fst w (((W4.drewN nq).setCell ⟨Bn, 0, none⟩ (.int .i64 x)).setCell ⟨Bn, 1, none⟩ (.int .i64 y)) n2 n3 r width X T K p ends ve vl Ds ∧ PairBox 64 (((W4.drewN nq).setCell ⟨Bn, 0, none⟩ (.int .i64 x)).setCell ⟨Bn, 1, none⟩ (.int .i64 y)) Bn (x, y) := by
  have hg : W4.grownBy (((W4.drewN nq).setCell ⟨Bn, 0, none⟩ (.int .i64 x)).setCell ⟨Bn, 1, none⟩ (.int .i64 y)) (some Bn) := by
    have g0 : W4.grownBy (W4.drewN nq) (some Bn) := ⟨rfl, rfl, rfl, Nat.le_refl _, fun _ _ _ => rfl⟩
    have g1 := grownBy_setCell (W4.drewN nq) ⟨Bn, 0, none⟩ (.int .i64 x)
    have g2 := grownBy_setCell ((W4.drewN nq).setCell ⟨Bn, 0, none⟩ (.int .i64 x)) ⟨Bn, 1, none⟩ (.int .i64 y)
    exact (g0.trans g1).trans g2
  refine ⟨KeepsFrom.of_grownBy hg (fun j e => by cases e; exact hL), fun a u hn e => ?_, h.below hg (fun q e => ?_), (hp.drewN nq).set x y⟩
  · have e1 : (((W4.drewN nq).setCell ⟨Bn, 0, none⟩ (.int .i64 x)).setCell ⟨Bn, 1, none⟩ (.int .i64 y)).heap[a.block]? = W4.heap[a.block]? := by
      rw [Below.heap_setCell _ _ _ _ (by exact hn), Below.heap_setCell _ _ _ _ (by exact hn)]; rfl
    unfold World.cell? at e ⊢
    rw [e1]; exact e
  · cases e
    refine ⟨hB, hv, fun hd => ?_⟩
    have h1 := (h.marks Bn hd).2
    unfold PairBox at hp
    rw [hp] at h1
    cases h1

set_option maxRecDepth 100000 in
set_option maxHeartbeats 8000000 in
theorem Fill_ok2 (v : Value) (X : List (List (List Int))) (width : Int) (w : World) (hX : wordsR.rd w Any [v] X) (hwi : I64 width) :
    Calls Try.prog 13 #[v, .int .i64 width] w (FillQ2 X width w) := by
  obtain ⟨ad, cap, rfl⟩ := Rdr.slice_v hX
  have hVal := fun W (h : Ext w W) => PValid_ok _ X width W (Rdr.ext _ hX h) hwi
  refine callsIn_wide (n := 12) |>.1 ?_
  have hO : Dac.Open Fence.wide := open_wide
  have hf37 : Fence.wide.fn 37 := trivial
  have hf38 : Fence.wide.fn 38 := trivial
  have hf39 : Fence.wide.fn 39 := trivial
  have hf40 : Fence.wide.fn 40 := trivial
  by_cases hv : validB X width = true
  · obtain ⟨hV, hw⟩ := validB_VW hv
    rw [hv] at hVal
    have hCo := fun W (h : Ext w W) => costs_ok _ X width W (Rdr.ext _ hX h) hV hw
    have l2 : X.length ≤ 512 := hV.1
    have HV := hid hv; have HVW := hid hV; have HVal := hid hVal; have HCo := hid hCo; have HX := hid hX; have HW := hid hw
    clear hv hV hVal hCo hX hw
    refine callsIn_of_wp_marks Try.func13 rfl (hO.fn _) ?_ rfl
    simp only [Try.ntmps13, List.size_toArray, List.length_cons, List.length_nil, Nat.reduceAdd, Nat.reduceSub, Array.replicate_succ, Array.replicate_zero, List.push_toArray, List.append_toArray, List.nil_append, List.cons_append]
    gi_wp2_with (first
      | (gi_at_call 37; refine (hO.calls (HVal.out _ (by repeat (first | exact Below.refl _ _ | refine Below.alloc ?_ (by simp) _)))).mono ?_; rintro e w1 ⟨rfl, x1⟩; have HX1 := hid (Ext.then (Ext.then (Ext.alloc _ _) (Ext.alloc _ _)) x1); have kw := x1.cell ((Ext.alloc _ (.cells #[.slice none 0 0, .slice none 0 0] 30)).cell (cell_alloc0 w #[.int .i64 width] 3 0 rfl)); have HB1 := hid ((Box2.new (t := 30) (w.alloc (.cells #[.int .i64 width] 3)) (.slice none 0 0) (.slice none 0 0) (by simp : w.heap.size + 1 = _)).ext x1); clear x1)
      | (gi_at_call 38; refine (hO.calls (HCo.out _ HX1.out)).mono ?_; rintro e w2 ⟨x2, r, T, K, hr, rfl, hH, hT, hD⟩; have HX2 := hid (HX1.out.then x2); have kw2 := x2.cell kw; have HB2 := hid (HB1.out.ext x2); have HH := hid hH; have HT := hid hT; have HD := hid hD; have hl0 := (((hH.of_ext (Ext.alloc w2 (.cells #[.map (some r)] 71))).of_ext (Ext.alloc _ (.cells #[.int .i64 0, .int .i64 0] 64))).of_ext (Ext.alloc _ (.cells #[.int .i64 X.length, .int .i64 0] 64))).look (0, 0); simp only [show ((0 : Nat) : Int) = 0 from rfl] at hl0; generalize htb : (T (0, 0)).isSome = tb at hl0; have HTB := hid htb; have HXB := hid (HX2.out.then (((Ext.alloc w2 (.cells #[.map (some r)] 71)).then (Ext.alloc _ (.cells #[.int .i64 0, .int .i64 0] 64))).then (Ext.alloc _ (.cells #[.int .i64 X.length, .int .i64 0] 64)))); have HTab := hid (table_ok _ X T r _ (Rdr.ext _ HX.out HXB.out) HVW.out (fun p => (T_I64 HVW.out HW.out hT hD p).1) (((hH.of_ext (Ext.alloc w2 (.cells #[.map (some r)] 71))).of_ext (Ext.alloc _ (.cells #[.int .i64 0, .int .i64 0] 64))).of_ext (Ext.alloc _ (.cells #[.int .i64 X.length, .int .i64 0] 64)))); have HB3 := hid (((HB2.out.ext (Ext.alloc w2 (.cells #[.map (some r)] 71))).ext (Ext.alloc _ (.cells #[.int .i64 0, .int .i64 0] 64))).ext (Ext.alloc _ (.cells #[.int .i64 X.length, .int .i64 0] 64))); obtain ⟨p0, p1, p2, p3⟩ := HB3.out.cells; clear x2 hr hH hT hD kw htb)
      | (gi_at_call 39; refine (hO.calls HTab.out).mono ?_; rintro e w3 ⟨vl, gs, rfl, x3, hG⟩; rw [tabT_eq HVW.out HW.out HT.out HD.out] at hG; have HX3 := hid x3; have HG := hid hG; have HGR := hid hG.read; obtain ⟨ra, rc, rfl⟩ := Rdr.slice_v hG.read; clear x3 hG))
    · have hT0 := HTB.out
      obtain ⟨e1, e2⟩ := T_none HVW.out HT.out HD.out (by first | (left; assumption) | (right; assumption) | (left; simp_all)) HTB.out
      have hz := HB3.out
      obtain ⟨z0, z1, -, -⟩ := ((hz.set0 (.slice none 0 0)).set1 (.slice none 0 0)).cells
      refine ⟨.tuple #[nilCert, .int .i64 14], by simp [results, Try.results13, go_sem, nilCert, z0, z1], ?_, .inr ⟨HV.out, K, HT.out, .inl ⟨e1, e2, rfl⟩⟩⟩
      refine Below.setCell (Below.setCell HXB.out ?_ _) ?_ _ <;> simp
    · have hc1 : ∃ c, T (0, 0) = some c := by
        have h1 : tb = true := by first | assumption | (by_cases hh : tb = true; exact hh; simp_all)
        have := HTB.out
        rw [h1] at this
        exact Option.isSome_iff_exists.1 this
      have hk0 : En X (0, 0) ∧ (Pl X (0, 0) → 0 ≤ kAt K (0, 0)) := T_some HVW.out HT.out HD.out hc1
      have hF0 : Fst w (w3.alloc (.cells #[.slice none 0 0, .slice ra K.length rc] 30)) w2.heap.size w3.heap.size r width X T K (0, 0) [] (.slice none 0 0) (.slice ra K.length rc) [] := by
        have hxa := Ext.alloc w3 (.cells #[.slice none 0 0, .slice ra K.length rc] 30)
        have hxb := ((Ext.alloc w2 (.cells #[.map (some r)] 71)).then (Ext.alloc _ (.cells #[.int .i64 0, .int .i64 0] 64))).then (Ext.alloc _ (.cells #[.int .i64 X.length, .int .i64 0] 64))
        have hxc := hxb.then (HX3.out.then hxa)
        have s1 := HB2.out.lt
        have s3 := HX3.out.size
        simp only [World.size_alloc] at s3
        have hm := HH.out.of_ext hxc
        have hrl := HH.out.lt
        refine ⟨(HX2.out.then hxc), by omega, by omega, hrl, hxc.cell kw2, HB2.out.ext hxc, ?_, ?_, ?_, ?_, hm, Box2.new _ _ _ rfl, Bld.nil _ _ _ _ _, ?_, List.nodup_nil, by simp⟩
        · exact (HX3.out.then hxa).cell ((Ext.alloc _ _).cell ((Ext.alloc _ _).cell (cell_alloc0 w2 #[.map (some r)] 71 0 rfl)))
        · have := ((PairBox.new' (t := 64) (w2.alloc (.cells #[.map (some r)] 71)) 0 0 (B := w2.heap.size + 1) (by simp)).ext (Ext.alloc _ (.cells #[.int .i64 X.length, .int .i64 0] 64))).ext (HX3.out.then hxa)
          exact this
        · have := cell_alloc0 ((w2.alloc (.cells #[.map (some r)] 71)).alloc (.cells #[.int .i64 0, .int .i64 0] 64)) #[.int .i64 X.length, .int .i64 0] 64 0 rfl
          simp only [World.size_alloc] at this
          exact (HX3.out.then hxa).cell this
        · have := cell_alloc0 ((w2.alloc (.cells #[.map (some r)] 71)).alloc (.cells #[.int .i64 0, .int .i64 0] 64)) #[.int .i64 X.length, .int .i64 0] 64 1 rfl
          simp only [World.size_alloc] at this
          exact (HX3.out.then hxa).cell this
        · have h5 := Rdr.mono _ HGR.out (G := fun k => w2.heap.size + 3 ≤ k ∧ k < w3.heap.size) (fun k hk hl => by simp only [World.size_alloc] at hk; exact ⟨by omega, hl⟩)
          refine ⟨Rdr.ext _ h5 hxa, w3, _, gs, HG.out, fun g hg => ?_, fun g hg => ?_, fun k hk hl => hxa.block k hl⟩
          · have := HG.out.lt g hg
            simp only [World.size_alloc] at this
            exact ⟨by omega, by omega⟩
          · have := HG.out.out.lt g hg
            simp only [World.size_alloc] at this
            exact ⟨by omega, by omega⟩
      have HF0 := hid hF0; have HK0 := hid hk0
      clear hF0 hk0 hc1 hl0 p0 p1 p2 p3 kw2
      refine wpIn_loop (fun a' W => ∃ (p : Place) (ends : List Place) (ve : Value) (Ds : List Nat) (u9 u10 u12 u13 u14 u15 u16 u17 u18 u19 u20 u21 u22 u23 u24 u25 u26 u27 u28 u29 u30 u31 u32 u33 u34 u35 u36 u37 u38 u39 u40 u41 u42 u43 u44 u45 u46 u47 u48 u49 u50 u51 u52 u53 u54 u55 u56 u57 u58 u59 u60 u61 u62 u63 u64 u65 u66 u67 u68 u69 u70 u71 u72 u73 u74 u75 u76 u77 u78 u79 u80 u81 u82 u83 u84 u85 u86 u87 u88 u89 u90 u91 u92 u93 u94 u95 u96 u97 u98 u99 u100 u101 u102 u103 : Value), En X p ∧ (Pl X p → 0 ≤ kAt K p) ∧ (∀ r, IsEnds X width K p r → IsEnds X width K (0, 0) (ends ++ r)) ∧ ends.length + rem X p ≤ 8192 ∧ Fst w W w2.heap.size w3.heap.size r width X T K p ends ve (.slice ra K.length rc) Ds ∧ a' = { tmps := List.toArray (.slice ad X.length cap :: .int .i64 width :: undef :: .pointer (some ⟨w.heap.size, 0, none⟩) :: .pointer (some ⟨w.heap.size + 1, 0, none⟩) :: .int .i64 0 :: .pointer (some ⟨w2.heap.size, 0, none⟩) :: .pointer (some ⟨w2.heap.size + 1, 0, none⟩) :: .pointer (some ⟨w2.heap.size + 1 + 1, 0, none⟩) :: u9 :: u10 :: .pointer (some ⟨w3.heap.size, 0, none⟩) :: u12 :: u13 :: u14 :: u15 :: u16 :: u17 :: u18 :: u19 :: u20 :: u21 :: u22 :: u23 :: u24 :: u25 :: u26 :: u27 :: u28 :: u29 :: u30 :: u31 :: u32 :: u33 :: u34 :: u35 :: u36 :: u37 :: u38 :: u39 :: u40 :: u41 :: u42 :: u43 :: u44 :: u45 :: u46 :: u47 :: u48 :: u49 :: u50 :: u51 :: u52 :: u53 :: u54 :: u55 :: u56 :: u57 :: u58 :: u59 :: u60 :: u61 :: u62 :: u63 :: u64 :: u65 :: u66 :: u67 :: u68 :: u69 :: u70 :: u71 :: u72 :: u73 :: u74 :: u75 :: u76 :: u77 :: u78 :: u79 :: u80 :: u81 :: u82 :: u83 :: u84 :: u85 :: u86 :: u87 :: u88 :: u89 :: u90 :: u91 :: u92 :: u93 :: u94 :: u95 :: u96 :: u97 :: u98 :: u99 :: u100 :: u101 :: u102 :: u103 :: []), defers := Ds.map mark }) (fun _ W => rem X (atOf W (w2.heap.size + 1))) ?_ ?_
      · refine ⟨(0, 0), [], _, [], _, _, _, _, _, _, _, _, _, _, _, _, _, _, _, _, _, _, _, _, _, _, _, _, _, _, _, _, _, _, _, _, _, _, _, _, _, _, _, _, _, _, _, _, _, _, _, _, _, _, _, _, _, _, _, _, _, _, _, _, _, _, _, _, _, _, _, _, _, _, _, _, _, _, _, _, _, _, _, _, _, _, _, _, _, _, _, _, _, _, _, _, _, _, HK0.out.1, HK0.out.2, fun r h => h, ?_, HF0.out, rfl⟩
        have := rem_le HVW.out (0, 0)
        simpa using this
      intro a' W h
      obtain ⟨p, h⟩ := h
      obtain ⟨ends, h⟩ := h
      obtain ⟨ve, h⟩ := h
      obtain ⟨Ds, h⟩ := h
      obtain ⟨u9, h⟩ := h
      obtain ⟨u10, h⟩ := h
      obtain ⟨u12, h⟩ := h
      obtain ⟨u13, h⟩ := h
      obtain ⟨u14, h⟩ := h
      obtain ⟨u15, h⟩ := h
      obtain ⟨u16, h⟩ := h
      obtain ⟨u17, h⟩ := h
      obtain ⟨u18, h⟩ := h
      obtain ⟨u19, h⟩ := h
      obtain ⟨u20, h⟩ := h
      obtain ⟨u21, h⟩ := h
      obtain ⟨u22, h⟩ := h
      obtain ⟨u23, h⟩ := h
      obtain ⟨u24, h⟩ := h
      obtain ⟨u25, h⟩ := h
      obtain ⟨u26, h⟩ := h
      obtain ⟨u27, h⟩ := h
      obtain ⟨u28, h⟩ := h
      obtain ⟨u29, h⟩ := h
      obtain ⟨u30, h⟩ := h
      obtain ⟨u31, h⟩ := h
      obtain ⟨u32, h⟩ := h
      obtain ⟨u33, h⟩ := h
      obtain ⟨u34, h⟩ := h
      obtain ⟨u35, h⟩ := h
      obtain ⟨u36, h⟩ := h
      obtain ⟨u37, h⟩ := h
      obtain ⟨u38, h⟩ := h
      obtain ⟨u39, h⟩ := h
      obtain ⟨u40, h⟩ := h
      obtain ⟨u41, h⟩ := h
      obtain ⟨u42, h⟩ := h
      obtain ⟨u43, h⟩ := h
      obtain ⟨u44, h⟩ := h
      obtain ⟨u45, h⟩ := h
      obtain ⟨u46, h⟩ := h
      obtain ⟨u47, h⟩ := h
      obtain ⟨u48, h⟩ := h
      obtain ⟨u49, h⟩ := h
      obtain ⟨u50, h⟩ := h
      obtain ⟨u51, h⟩ := h
      obtain ⟨u52, h⟩ := h
      obtain ⟨u53, h⟩ := h
      obtain ⟨u54, h⟩ := h
      obtain ⟨u55, h⟩ := h
      obtain ⟨u56, h⟩ := h
      obtain ⟨u57, h⟩ := h
      obtain ⟨u58, h⟩ := h
      obtain ⟨u59, h⟩ := h
      obtain ⟨u60, h⟩ := h
      obtain ⟨u61, h⟩ := h
      obtain ⟨u62, h⟩ := h
      obtain ⟨u63, h⟩ := h
      obtain ⟨u64, h⟩ := h
      obtain ⟨u65, h⟩ := h
      obtain ⟨u66, h⟩ := h
      obtain ⟨u67, h⟩ := h
      obtain ⟨u68, h⟩ := h
      obtain ⟨u69, h⟩ := h
      obtain ⟨u70, h⟩ := h
      obtain ⟨u71, h⟩ := h
      obtain ⟨u72, h⟩ := h
      obtain ⟨u73, h⟩ := h
      obtain ⟨u74, h⟩ := h
      obtain ⟨u75, h⟩ := h
      obtain ⟨u76, h⟩ := h
      obtain ⟨u77, h⟩ := h
      obtain ⟨u78, h⟩ := h
      obtain ⟨u79, h⟩ := h
      obtain ⟨u80, h⟩ := h
      obtain ⟨u81, h⟩ := h
      obtain ⟨u82, h⟩ := h
      obtain ⟨u83, h⟩ := h
      obtain ⟨u84, h⟩ := h
      obtain ⟨u85, h⟩ := h
      obtain ⟨u86, h⟩ := h
      obtain ⟨u87, h⟩ := h
      obtain ⟨u88, h⟩ := h
      obtain ⟨u89, h⟩ := h
      obtain ⟨u90, h⟩ := h
      obtain ⟨u91, h⟩ := h
      obtain ⟨u92, h⟩ := h
      obtain ⟨u93, h⟩ := h
      obtain ⟨u94, h⟩ := h
      obtain ⟨u95, h⟩ := h
      obtain ⟨u96, h⟩ := h
      obtain ⟨u97, h⟩ := h
      obtain ⟨u98, h⟩ := h
      obtain ⟨u99, h⟩ := h
      obtain ⟨u100, h⟩ := h
      obtain ⟨u101, h⟩ := h
      obtain ⟨u102, h⟩ := h
      obtain ⟨u103, h⟩ := h
      obtain ⟨hEn, hKa, hEnds, hLen, hF, ha⟩ := h
      subst ha
      have HEn := hid hEn; have HKa := hid hKa; have HEnds := hid hEnds; have HF := hid hF
      obtain ⟨t0, t1, t2, t3⟩ := hF.at_.cells
      have q0 := hF.ce0
      have q1 := hF.ce1
      obtain ⟨b0, b1, b2, b3⟩ := hF.out.cells
      obtain ⟨r0, r1, r2, r3⟩ := hF.res.cells
      obtain ⟨p, i⟩ := p
      have hv : ∃ va vl vc, ve = .slice va vl vc := by
        obtain ⟨a, c, h⟩ := Rdr.slice_v (hF.bld.read (G := Any) (fun _ _ => trivial) (fun _ _ => trivial))
        exact ⟨a, _, c, h⟩
      obtain ⟨va, ln, vc, rfl⟩ := hv
      clear hEn hKa hEnds hF
      by_cases hend : (p, i) = endP X
      · obtain ⟨rfl, rfl⟩ := Prod.mk.inj hend
        have hneq := fun W => neq_pair isPair X.length 0 X.length 0 W
        simp only [show ((0 : Nat) : Int) = 0 from rfl, beq_self_eq_true, Bool.and_self, Bool.not_true] at *
        gi_wp2
        have s2 := HF.out.s2
        have s3 := HF.out.s3
        show LeavesInM _ _ _ _ _ _ (Ds.map mark) .returning _
        refine leaves_marks (B := w3.heap.size + 1) (fun W4 => Ext w W4 ∧ Box2 30 W4 (w.heap.size + 1) (.slice va ln vc) (.slice ra K.length rc) ∧ Bld pairR Any W4 (w3.heap.size + 1) 64 (.slice va ln vc) (toI ends) ∧ RowsG W4 (fun k => w2.heap.size + 3 ≤ k ∧ k < w3.heap.size) (.slice ra K.length rc) K) ?_ ?_ Ds _ HF.out.nodup ?_ ⟨?_, (HF.out.res.set0 _).set1 _, ?_, ?_⟩
        · intro W4 D ⟨h1, h2, h3, h4⟩ h5 h6
          have hg := grownBy_putObj' W4 D (.deferred none)
          refine ⟨h1.grown hg h1.size (fun j e => by cases e; omega), h2.grown hg (fun e => by cases e; omega), Bld.free pairR_free h3 hg (fun k hk e => ?_), h4.grown hg (fun k hk e => by cases e; omega)⟩
          cases e
          obtain ⟨o, h7, h8⟩ := h3.obj D hk
          rw [h5] at h7
          cases h7
          cases h8
        · intro W4 ⟨h1, h2, h3, h4⟩
          obtain ⟨z0, z1, -, -⟩ := h2.cells
          have hends := HEnds.out [] rfl
          rw [List.append_nil] at hends
          exact ⟨.tuple #[.agg #[.slice va ln vc, .slice ra K.length rc], .int .i64 0], by simp [results, Try.results13, go_sem, z0, z1], h1, .inr ⟨HV.out, K, HT.out, .inr ⟨ends, _, _, w2.heap.size + 3, w3.heap.size, hends, rfl, by omega, by omega, (Bld.refoot pairR_free (G := fun k => w3.heap.size ≤ k) h3).read (G := fun k => w3.heap.size ≤ k) (fun k hk => by have := (h3.lt k hk).1; omega) (fun _ h => h), h4⟩⟩⟩
        · intro D hD
          obtain ⟨h1, h2⟩ := HF.out.marks D hD
          refine ⟨h1, ?_⟩
          rw [Below.heap_setCell _ _ _ _ (show D ≠ w.heap.size + 1 by omega), Below.heap_setCell _ _ _ _ (show D ≠ w.heap.size + 1 by omega)]
          exact h2
        · refine Below.setCell (Below.setCell HF.out.ext ?_ _) ?_ _ <;> simp
        · refine Bld.free pairR_free (Bld.free pairR_free HF.out.bld (grownBy_setCell _ ⟨w.heap.size + 1, 0, none⟩ _) (fun k hk e => ?_)) (grownBy_setCell _ ⟨w.heap.size + 1, 1, none⟩ _) (fun k hk e => ?_)
          · have := (HF.out.bld.lt k hk).1; simp at e; omega
          · have := (HF.out.bld.lt k hk).1; simp at e; omega
        · refine HF.out.rows.stay fun k hk hl => ?_
          rw [Below.heap_setCell _ _ _ _ (show k ≠ w.heap.size + 1 by omega), Below.heap_setCell _ _ _ _ (show k ≠ w.heap.size + 1 by omega)]
      · have hpl : Pl X (p, i) := HEn.out.cases.resolve_left hend
        have hneq1 : ((p : Int) == X.length && (i : Int) == 0) = false := by
          rw [Bool.eq_false_iff]; intro h; simp at h; exact hend (Prod.ext (by simp; omega) h.2)
        have hneq := fun W => neq_pair isPair p i X.length 0 W
        simp only [hneq1, Bool.not_false] at hneq
        have hkk := HKa.out hpl
        rw [HT.out.2 _ hpl] at hkk
        obtain ⟨bb, t, hpk⟩ : ∃ bb t, pick X width (tOf X K) (p, i) = some (bb, t) := by
          cases h : pick X width (tOf X K) (p, i) with
          | none => rw [h] at hkk; simp [encB] at hkk
          | some x => exact ⟨x.1, x.2, rfl⟩
        have hTl : ∀ t ∈ lat X (p, i), T t = tOf X K t := fun t ht => HD.out.1 t (by
          obtain ⟨_, h2⟩ := lat_mem HVW.out hpl t ht
          rcases h2.cases with e | e
          · exact .inl e
          · exact .inr ⟨e, by rintro (h | ⟨_, h⟩) <;> exact absurd h (Nat.not_lt_zero _)⟩)
        have hTb : T (p, i) = some bb := by
          rw [HD.out.1 (p, i) (.inr ⟨hpl, by rintro (h | ⟨_, h⟩) <;> exact absurd h (Nat.not_lt_zero _)⟩), tOf_pick HVW.out HW.out HT.out hpl, hpk]; rfl
        have hpT : pick X width T (p, i) = some (bb, t) := by rw [pick_congr hTl, hpk]
        have HPK := hid hpk; have HTL := hid hTl; have HTb := hid hTb; have HPT := hid hpT
        have hw2x := Rdr.mono _ HX.out (G := fun k => k < w.heap.size) (fun k _ hl => hl)
        obtain ⟨b, o, rfl⟩ : ∃ b o, ad = some ⟨b, o, none⟩ := by
          obtain ⟨b, o, cap', he, -⟩ := rows_ne HX.out (Nat.lt_of_le_of_lt (Nat.zero_le _) hpl.1)
          simp only [Value.slice.injEq] at he
          exact ⟨b, o, he.1⟩
        obtain ⟨A2, A3, ha1, ha2, ha3⟩ := words_addr hw2x HVW.out
        have HA1 := hid ha1; have HA2 := hid ha2; have HA3 := hid ha3
        have cw := HF.out.cw
        have HXc := hid (HF.out.ext.then (Ext.alloc W (.cells #[.int .i64 p, .int .i64 i] 64)))
        have k1 := (Ext.alloc W (.cells #[.int .i64 p, .int .i64 i] 64)).cell cw
        have k2 := (Ext.alloc W (.cells #[.int .i64 p, .int .i64 i] 64)).cell t0
        have k3 := (Ext.alloc W (.cells #[.int .i64 p, .int .i64 i] 64)).cell t1
        have HL := hid (fun W (hx : Ext w W) => lines_ok (.slice (some ⟨b, o, none⟩) X.length cap) X width (p, i) W (Rdr.ext _ HX.out hx))
        clear hneq1 hkk hpk hTl hTb hpT hw2x ha1 ha2 ha3
        gi_wp2_with (gi_at_call 40; refine (hO.calls (HL.out _ HXc.out)).mono ?_; rintro e w' ⟨rfl, rfl⟩)
        clear k1 k2 k3
        have hxl := ((Ext.alloc (W.alloc (.cells #[.int .i64 p, .int .i64 i] 64)) (.cells #[.slice (some ⟨b, o, none⟩) X.length cap] 34)).then (Ext.alloc _ (.cells #[.int .i64 width] 3))).then (Ext.alloc _ (.cells #[.int .i64 p, .int .i64 i] 64))
        have hxw := hid (HXc.out.then hxl)
        have hxW := (Ext.alloc W (.cells #[.int .i64 p, .int .i64 i] 64)).then hxl
        have hbn := (PairBox.new (t := 64) W p i).ext hxl
        have e0 := (Ext.alloc _ (.cells #[.int .i64 p, .int .i64 i] 64)).cell ((Ext.alloc _ (.cells #[.int .i64 width] 3)).cell (cell_alloc0 (W.alloc (.cells #[.int .i64 p, .int .i64 i] 64)) #[.slice (some ⟨b, o, none⟩) X.length cap] 34 0 rfl))
        have e1 := (Ext.alloc _ (.cells #[.int .i64 p, .int .i64 i] 64)).cell (cell_alloc0 ((W.alloc (.cells #[.int .i64 p, .int .i64 i] 64)).alloc (.cells #[.slice (some ⟨b, o, none⟩) X.length cap] 34)) #[.int .i64 width] 3 0 rfl)
        have e2 := cell_alloc0 (((W.alloc (.cells #[.int .i64 p, .int .i64 i] 64)).alloc (.cells #[.slice (some ⟨b, o, none⟩) X.length cap] 34)).alloc (.cells #[.int .i64 width] 3)) #[.int .i64 p, .int .i64 i] 64 0 rfl
        have e3 := cell_alloc0 (((W.alloc (.cells #[.int .i64 p, .int .i64 i] 64)).alloc (.cells #[.slice (some ⟨b, o, none⟩) X.length cap] 34)).alloc (.cells #[.int .i64 width] 3)) #[.int .i64 p, .int .i64 i] 64 1 rfl
        have hsz : ((((W.alloc (.cells #[.int .i64 p, .int .i64 i] 64)).alloc (.cells #[.slice (some ⟨b, o, none⟩) X.length cap] 34)).alloc (.cells #[.int .i64 width] 3)).alloc (.cells #[.int .i64 p, .int .i64 i] 64)).heap.size = W.heap.size + 4 := by simp
        have hgL : W.grownBy ((((W.alloc (.cells #[.int .i64 p, .int .i64 i] 64)).alloc (.cells #[.slice (some ⟨b, o, none⟩) X.length cap] 34)).alloc (.cells #[.int .i64 width] 3)).alloc (.cells #[.int .i64 p, .int .i64 i] 64)) none := ⟨rfl, rfl, rfl, by rw [hsz]; omega, fun q hq _ => hxW.block q hq⟩
        have hFL := HF.out.below hgL (fun q e => by cases e)
        simp only [World.size_alloc] at e0 e1 e2 e3 ⊢
        generalize hWL : ((((W.alloc (.cells #[.int .i64 p, .int .i64 i] 64)).alloc (.cells #[.slice (some ⟨b, o, none⟩) X.length cap] 34)).alloc (.cells #[.int .i64 width] 3)).alloc (.cells #[.int .i64 p, .int .i64 i] 64)) = WL at *
        have hsW := HF.out.ext.size
        have hcap : Cap (fun q => q ≠ W.heap.size) WL (W.heap.size + 1) b o cap width (p, i) X A2 A3 := ⟨⟨by omega, by omega, by omega⟩, e0, e1, e2, e3, fun q hq => ⟨by have := (HA1.out q hq).1; omega, hxw.out.cell (HA1.out q hq).2⟩, fun q hq j hj => ⟨by have := (HA2.out q hq j hj).1; omega, hxw.out.cell (HA2.out q hq j hj).2⟩, fun q hq j hj r hr => ⟨by have := (HA3.out q hq j hj r hr).1; omega, hxw.out.cell (HA3.out q hq j hj r hr).2⟩⟩
        have HFL := hid hFL
        have hbW : w3.heap.size < W.heap.size := HF.out.out.lt
        clear hWL HL hxW hxl hgL hFL
        refine wpIn_rangeFunc_ownH rfl (by omega) (gf := 54) (lb := #[.pointer (some ⟨W.heap.size + 1 + 2, 0, none⟩), .pointer (some ⟨W.heap.size + 1, 0, none⟩), .pointer (some ⟨W.heap.size + 1 + 1, 0, none⟩)]) rfl (hO.fn _) (enters_of Try.func54 (by kernel_rfl) rfl)
          (lines_stops Fence.wide 11 (hO.fn _) rfl (by omega) (KeepX W.heap.size) (fun q => q ≠ W.heap.size) X width (p, i) (W.heap.size + 1) b o cap A2 A3 WL HVW.out HW.out hpl (fun A C h a u ha => h a u ha) hcap) KeepX.trans (fun W4 l o o' _ h1 h2 _ => keepX_put _ W4 l o o' h1 h2) (Below.refl _ _) (fun _ => rfl)
          (fun (pre : List (LineOf X width (p, i))) W' => Fst w W' w2.heap.size w3.heap.size r width X T K (p, i) ends (.slice va ln vc) (.slice ra K.length rc) Ds ∧ PairBox 64 W' W.heap.size ((selM X T width (p, i) bb (pre.map Subtype.val)).1, (selM X T width (p, i) bb (pre.map Subtype.val)).2))
          (fun _ _ _ => False)
          (fun pre A C row hs hg hr => ⟨hs.1.own hg (fun q e => ⟨by have := (hr q e).1; omega, (hr q e).2⟩) (fun D hd => by have := (Array.getElem?_eq_some_iff.1 (HFL.out.marks D hd).2).1; intro q e e2; subst e2; have := (hr _ e).1; omega), (hg.block _ hs.2.lt (fun e => by have := (hr _ e.symm).1; omega)).trans hs.2⟩)
          (fun _ _ _ _ _ hs _ _ => hs)
          ⟨HFL.out, hbn⟩
          (fun (x : LineOf X width (p, i)) a' W' => ∃ Bx, W'.cell? ⟨Bx, 0, none⟩ = some (.int .i64 x.1.1.1) ∧ W'.cell? ⟨Bx, 1, none⟩ = some (.int .i64 x.1.1.2) ∧ Bx ≠ W.heap.size ∧ a' = { tmps := List.toArray (.slice (some ⟨b, o, none⟩) X.length cap :: .int .i64 width :: undef :: .pointer (some ⟨w.heap.size, 0, none⟩) :: .pointer (some ⟨w.heap.size + 1, 0, none⟩) :: .int .i64 0 :: .pointer (some ⟨w2.heap.size, 0, none⟩) :: .pointer (some ⟨w2.heap.size + 1, 0, none⟩) :: .pointer (some ⟨w2.heap.size + 1 + 1, 0, none⟩) :: u9 :: u10 :: .pointer (some ⟨w3.heap.size, 0, none⟩) :: .pointer (some ⟨W.heap.size, 0, none⟩) :: .pointer (some ⟨Bx, 0, none⟩) :: .int .i64 x.1.2 :: u15 :: u16 :: u17 :: u18 :: u19 :: u20 :: u21 :: u22 :: u23 :: u24 :: u25 :: u26 :: u27 :: u28 :: u29 :: u30 :: u31 :: u32 :: u33 :: u34 :: u35 :: u36 :: u37 :: u38 :: u39 :: u40 :: u41 :: .agg #[.int .i64 p, .int .i64 i] :: .agg #[.int .i64 X.length, .int .i64 0] :: .bool true :: .agg #[.int .i64 p, .int .i64 i] :: .slice (some ⟨b, o, none⟩) X.length cap :: .int .i64 width :: .agg #[.int .i64 p, .int .i64 i] :: .func (.func 54) #[] #[.pointer (some ⟨W.heap.size + 1 + 2, 0, none⟩), .pointer (some ⟨W.heap.size + 1, 0, none⟩), .pointer (some ⟨W.heap.size + 1 + 1, 0, none⟩)] :: .agg #[.int .i64 x.1.1.1, .int .i64 x.1.1.2] :: .int .i64 x.1.2 :: u52 :: u53 :: u54 :: u55 :: u56 :: u57 :: u58 :: u59 :: u60 :: u61 :: u62 :: u63 :: u64 :: u65 :: u66 :: u67 :: u68 :: u69 :: u70 :: u71 :: u72 :: u73 :: u74 :: u75 :: u76 :: u77 :: u78 :: u79 :: u80 :: u81 :: u82 :: u83 :: u84 :: u85 :: u86 :: u87 :: u88 :: u89 :: u90 :: u91 :: u92 :: u93 :: u94 :: u95 :: u96 :: u97 :: u98 :: u99 :: u100 :: u101 :: u102 :: u103 :: []), defers := [] })
          (fun x a' _ A C row hs hg hr => by obtain ⟨Bx, h1, h2, h4, h3⟩ := hs; exact ⟨Bx, cell_kept h1 hg (fun r e => (hr r e).2), cell_kept h2 hg (fun r e => (hr r e).2), h4, h3⟩)
          ?assign ?body ?done ?stop
        case assign =>
          intro l pre x W4 K4 hi hK4
          have HI := hid hi; have HK4 := hid hK4
          clear hi hK4 hcap e0 e1 e2 e3
          simp only [encL]
          gi_wp2
          have hlt := HI.out.2.lt
          exact HK4.out _ _ ((KeepsOthers.alloc _ _).from _) (fun a u _ h => (Ext.alloc _ _).cell h) ⟨HI.out.1.below (World.grownBy_alloc W4 _ none) (fun q e => by cases e), HI.out.2.ext (Ext.alloc _ _)⟩ ⟨W4.heap.size, cell_alloc0 W4 #[.int .i64 x.1.1.1, .int .i64 x.1.1.2] 64 0 rfl, cell_alloc0 W4 #[.int .i64 x.1.1.1, .int .i64 x.1.1.2] 64 1 rfl, by omega, rfl⟩
        case body =>
          intro l pre x a' W4 _ _ hi hax _
          obtain ⟨Bx, x0, x1, hBx, rfl⟩ := hax
          obtain ⟨⟨⟨q, j⟩, size⟩, hxm⟩ := x
          obtain ⟨hl1, hl2, hl3, hl4, hl5⟩ := line_mem HVW.out hpl hxm
          dsimp only at x0 x1 hl1 hl2 hl3 hl4 hl5
          have hL1 := hi.1.map.look (q, j)
          have hsn := selM_snoc (X := X) (T := T) (width := width) (f := (p, i)) (b := bb) (pre.map Subtype.val) ((q, j), size)
          have hmap : (pre ++ [(⟨((q, j), size), hxm⟩ : LineOf X width (p, i))]).map Subtype.val = pre.map Subtype.val ++ [((q, j), size)] := by simp
          have HI := hid hi; have HSN := hid hsn; have HMAP := hid hmap
          have cw4 := hi.1.cw
          have cm := hi.1.cm
          have ce0 := hi.1.ce0
          have ce1 := hi.1.ce1
          obtain ⟨n0, n1, nf0, nf1⟩ := hi.2.cells
          obtain ⟨t0, t1, -, -⟩ := hi.1.at_.cells
          have hO2 : Dac.Open (Fence.wide.inRound l) := hO.inRound l
          clear hi hcap e0 e1 e2 e3 hsn hmap r0 r1 r2 r3 q0 q1 cw b0 b1 b2 b3 t2 t3
          cases hTq : T (q, j) with
          | none =>
            rw [hTq] at hL1
            simp only [Option.getD_none, Option.isSome_none] at hL1
            have HTQ := hid hTq
            clear hTq
            gi_wp2
            (refine wpIn_quiet_lit hO2 (by kernel_rfl) (by kernel_rfl) (by kernel_rfl) ?_; (repeat (go_big_quiet_step (fail))); refine wpQuiet_nil ?_; intro _ hw'; obtain ⟨nq, hw''⟩ := hw'; subst hw'')
            gi_wp2
            simp only [ownPostG]
            rw [HMAP.out, HSN.out, selMStep, HTQ.out]
            exact ⟨⟨Nat.le_refl _, fun _ _ _ h0 _ => h0⟩, fun _ _ _ e => e, HI.out.1.below (row := none) ⟨rfl, rfl, rfl, Nat.le_refl _, fun _ _ _ => rfl⟩ (fun q e => by cases e), HI.out.2.drewN _⟩
          | some c =>
            rw [hTq] at hL1
            simp only [Option.getD_some, Option.isSome_some] at hL1
            have hsb := sizeL_bd HVW.out hpl hl2 hl3
            have hpb := priceL_bd HVW.out HW.out hpl hl2 hl3
            obtain ⟨lb, heq, hP⟩ := price_at (width := width) hl4 HW.out hl5 hsb.1
            have hwi : wrap64 (width - size) = width - size := wrap64_id (by have := HW.out; have := hsb.1; omega) (by have := HW.out; have := hsb.1; omega)
            rw [← hwi] at hP
            simp only [hl4] at hP
            have HP := hid hP
            obtain ⟨c1, c2⟩ := (T_I64 HVW.out HW.out HT.out HD.out (q, j)).2 c hTq
            obtain ⟨p1, p2⟩ := hpb
            have HTQ := hid hTq
            have hL2 := fun m => ((HI.out.1.map.same (W' := W4.drewN m) rfl).look1 (p, i))
            simp only [HTb.out, Option.getD_some] at hL2
            clear hTq hP hwi hsb
            generalize hpr : priceL X width (p, i) (q, j) = pr at *
            by_cases hcb : c + pr = bb
            · have hcq : (c + pr == bb) = true := by simpa using hcb
              generalize hnx : selM X T width (p, i) bb (pre.map Subtype.val) = nx at *
              obtain ⟨nq', nj'⟩ := nx
              dsimp only at n0 n1
              rcases Nat.lt_trichotomy nq' q with hA | hA | hA
              · have hA' : (nq' : Int) < q := by omega
                gi_wp2
                (refine wpIn_quiet_lit hO2 (by kernel_rfl) (by kernel_rfl) (by kernel_rfl) ?_; (repeat (go_big_quiet_step ((go_at_call 41; exact Calls.quiet_of (HP.out _))))); refine wpQuiet_nil ?_; intro _ hw'; obtain ⟨nq, hw''⟩ := hw'; subst hw'')
                gi_wp2
                simp only [ownPostG]
                rw [HMAP.out, HSN.out, selMStep, HTQ.out]
                dsimp only
                rw [hpr, if_pos ⟨hcb, by unfold Lt; dsimp only; omega⟩]
                exact store_next HI.out.1 hbW (by rw [hsz]; omega) HI.out.2 (fun e => by have := (HF.out.bld.lt _ e).2; omega) nq _ _
              · subst hA
                by_cases hB : nj' < j
                · have hB' : (nj' : Int) < j := by omega
                  gi_wp2
                  (refine wpIn_quiet_lit hO2 (by kernel_rfl) (by kernel_rfl) (by kernel_rfl) ?_; (repeat (go_big_quiet_step ((go_at_call 41; exact Calls.quiet_of (HP.out _))))); refine wpQuiet_nil ?_; intro _ hw'; obtain ⟨nq, hw''⟩ := hw'; subst hw'')
                  gi_wp2
                  simp only [ownPostG]
                  rw [HMAP.out, HSN.out, selMStep, HTQ.out]
                  dsimp only
                  rw [hpr, if_pos ⟨hcb, by unfold Lt; dsimp only; omega⟩]
                  exact store_next HI.out.1 hbW (by rw [hsz]; omega) HI.out.2 (fun e => by have := (HF.out.bld.lt _ e).2; omega) nq _ _
                · have hB' : ¬ (nj' : Int) < j := by omega
                  gi_wp2
                  (refine wpIn_quiet_lit hO2 (by kernel_rfl) (by kernel_rfl) (by kernel_rfl) ?_; (repeat (go_big_quiet_step ((go_at_call 41; exact Calls.quiet_of (HP.out _))))); refine wpQuiet_nil ?_; intro _ hw'; obtain ⟨nq, hw''⟩ := hw'; subst hw'')
                  gi_wp2
                  simp only [ownPostG]
                  rw [HMAP.out, HSN.out, selMStep, HTQ.out]
                  dsimp only
                  rw [hpr, if_neg (fun h => by have := h.2; unfold Lt at this; dsimp only at this; omega)]
                  exact ⟨⟨Nat.le_refl _, fun _ _ _ h0 _ => h0⟩, fun _ _ _ e => e, HI.out.1.below (row := none) ⟨rfl, rfl, rfl, Nat.le_refl _, fun _ _ _ => rfl⟩ (fun q e => by cases e), HI.out.2.drewN _⟩
              · have hA' : ¬ (nq' : Int) < q := by omega
                have hA2 : ¬ q = nq' := by omega
                have hA3 : ¬ nq' < q := by omega
                have hA6 : ((q : Int) == (nq' : Int)) = false := by rw [beq_eq_false_iff_ne]; omega
                have hA7 : ¬ (q : Int) = (nq' : Int) := by omega
                have hA8 : decide ((q : Int) = (nq' : Int)) = false := by rw [decide_eq_false_iff_not]; omega
                have hA4 : (q == nq') = false := by simpa using hA2
                gi_wp2
                (refine wpIn_quiet_lit hO2 (by kernel_rfl) (by kernel_rfl) (by kernel_rfl) ?_; (repeat (go_big_quiet_step ((go_at_call 41; exact Calls.quiet_of (HP.out _))))); refine wpQuiet_nil ?_; intro _ hw'; obtain ⟨nq, hw''⟩ := hw'; subst hw'')
                gi_wp2
                simp only [ownPostG]
                rw [HMAP.out, HSN.out, selMStep, HTQ.out]
                dsimp only
                rw [hpr, if_neg (fun h => by have := h.2; unfold Lt at this; dsimp only at this; omega)]
                exact ⟨⟨Nat.le_refl _, fun _ _ _ h0 _ => h0⟩, fun _ _ _ e => e, HI.out.1.below (row := none) ⟨rfl, rfl, rfl, Nat.le_refl _, fun _ _ _ => rfl⟩ (fun q e => by cases e), HI.out.2.drewN _⟩
            · have hcq : (c + pr == bb) = false := by simpa using hcb
              gi_wp2
              (refine wpIn_quiet_lit hO2 (by kernel_rfl) (by kernel_rfl) (by kernel_rfl) ?_; (repeat (go_big_quiet_step ((go_at_call 41; exact Calls.quiet_of (HP.out _))))); refine wpQuiet_nil ?_; intro _ hw'; obtain ⟨nq, hw''⟩ := hw'; subst hw'')
              gi_wp2
              simp only [ownPostG]
              rw [HMAP.out, HSN.out, selMStep, HTQ.out]
              dsimp only
              rw [hpr, if_neg (fun h => hcb h.1)]
              exact ⟨⟨Nat.le_refl _, fun _ _ _ h0 _ => h0⟩, fun _ _ _ e => e, HI.out.1.below (row := none) ⟨rfl, rfl, rfl, Nat.le_refl _, fun _ _ _ => rfl⟩ (fun q e => by cases e), HI.out.2.drewN _⟩
        case done =>
          intro D xs W4 hD4 hxs hi hK4
          subst hxs
          obtain ⟨hi1, hi2⟩ := hi
          rw [List.attach_map_subtype_val, selM_lines HVW.out hpl HPT.out] at hi2
          obtain ⟨tq, tj⟩ := t
          have HI := hid hi1; have HI2 := hid hi2; have HK4 := hid hK4
          obtain ⟨n0, n1, nf0, nf1⟩ := hi2.cells
          obtain ⟨b0, b1, b2, b3⟩ := hi1.out.cells
          obtain ⟨t0, t1, t2, t3⟩ := hi1.at_.cells
          clear hi1 hi2 hK4 hcap e0 e1 e2 e3 r0 r1 r2 r3 q0 q1 cw
          obtain ⟨i0, hi, hz0, hz1, hz2⟩ := info_parts info64
          obtain ⟨m1, m2, m3⟩ := pick_pl HVW.out HT.out hpl HPK.out
          have hq : I64 (tq : Int) ∧ I64 (tj : Int) := by
            have h5 := HVW.out.1
            rcases m2.cases with h | ⟨h, h2⟩
            · obtain ⟨rfl, rfl⟩ := Prod.mk.inj h
              unfold I64; omega
            · have := (HVW.out.2 _ h).2.1
              dsimp only at h h2 this
              unfold I64; omega
          have hrl := rem_lt HVW.out hpl m1 m2
          have HQ := hid hq; have HM2 := hid m2; have HM3 := hid m3; have HRL := hid hrl
          have htl : (toI ends).length = ends.length := by simp [toI]
          have HTLn := hid htl
          have hs2 := HI.out.s2
          have hs3 := HI.out.s3
          clear hq m1 m2 m3 hrl htl
          gi_wp2_with (gi_at_builtin; refine wpListIn_append_at (w := W4) pairR Any (w3.heap.size + 1) rfl _ _ 27 rfl 64 i0 _ 16 Try.underlying27 hi hz0 hz1 hz2 rfl (by decide) _ _ rfl HI.out.bld _ _ [.int .i64 tq, .int .i64 tj] ((tq : Int), (tj : Int)) rfl ⟨[_], [_], rfl, ⟨rfl, HQ.out.1⟩, ⟨rfl, HQ.out.2⟩⟩ (by rw [HTLn.out]; omega) (by rw [HTLn.out]; omega) (by have := HI.out.out.lt; omega) rfl ?_ rfl; intro g cp w4 hB4 hg4 hg5 hg6; have HB4 := hid hB4; have HG4 := hid hg4; rw [HTLn.out]; have ho4 : Box2 30 w4 w3.heap.size (.slice va ln vc) (.slice ra K.length rc) := heap_grown hg4 HI.out.out (fun e => by have := (HI.out.bld.lt _ e).1; omega); have ha4 : PairBox 64 w4 (w2.heap.size + 1) (p, i) := heap_grown hg4 HI.out.at_ (fun e => by have := (HI.out.bld.lt _ e).1; omega); have hne4 : (Value.slice va ln vc).ownBlock ≠ some W.heap.size := fun e => by { obtain ⟨o, h1, h2⟩ := HFL.out.bld.obj _ e; have := (HF.out.bld.lt _ e).2; omega }; have hx4 : PairBox 64 w4 W.heap.size (tq, tj) := heap_grown hg4 HI2.out hne4; obtain ⟨y0, y1, y2, y3⟩ := (ho4.set0 (.slice (some ⟨g, 0, none⟩) (ends.length + 1) cp)).cells; obtain ⟨c0, c1, c2, c3⟩ := ho4.cells; obtain ⟨v0, v1, v2, v3⟩ := (ha4.other (a := ⟨w3.heap.size, 0, none⟩) (.slice (some ⟨g, 0, none⟩) (ends.length + 1) cp) (by show w2.heap.size + 1 ≠ w3.heap.size; omega)).cells; obtain ⟨x0, x1, x2, x3⟩ := (hx4.other (a := ⟨w3.heap.size, 0, none⟩) (.slice (some ⟨g, 0, none⟩) (ends.length + 1) cp) (by show W.heap.size ≠ w3.heap.size; omega)).cells; clear hB4 hg4 ho4 ha4 hx4 hne4)
          have hDD : ∀ D' ∈ Ds, D' < D := fun D' hd => Nat.lt_of_lt_of_le (Array.getElem?_eq_some_iff.1 (HFL.out.marks D' hd).2).1 hD4
          have hfm : Fst w W4 w2.heap.size w3.heap.size r width X T K (p, i) ends (.slice va ln vc) (.slice ra K.length rc) (D :: Ds) := { HI.out with
            nodup := List.nodup_cons.2 ⟨fun hd => Nat.lt_irrefl _ (hDD D hd), HI.out.nodup⟩
            marks := fun D' hd => by
              rcases List.mem_cons.1 hd with rfl | hd
              · exact ⟨by omega, HK4.out⟩
              · exact HI.out.marks D' hd }
          have hb5 := HB4.out
          rw [HTLn.out] at hb5
          have hst := hfm.step (q := (tq, tj)) HG4.out hb5
          refine ⟨⟨(tq, tj), ends ++ [(tq, tj)], _, D :: Ds, _, _, _, _, _, _, _, _, _, _, _, _, _, _, _, _, _, _, _, _, _, _, _, _, _, _, _, _, _, _, _, _, _, _, _, _, _, _, _, _, _, _, _, _, _, _, _, _, _, _, _, _, _, _, _, _, _, _, _, _, _, _, _, _, _, _, _, _, _, _, _, _, _, _, _, _, _, _, _, _, _, _, _, _, _, _, _, _, _, _, _, _, _, _, HM2.out, HM3.out, fun r hr => ?_, ?_, hst, rfl⟩, ?_⟩
          · rw [List.append_assoc]
            exact HEnds.out ((tq, tj) :: r) ⟨hpl, ⟨bb, HPK.out⟩, hr⟩
          · have := HRL.out
            rw [List.length_append, List.length_singleton]; omega
          · rw [atOf_eq hst.at_, atOf_eq HF.out.at_]
            exact HRL.out
        case stop =>
          intro D c pre W4 _ _ h _
          exact h.elim
  · rw [Bool.not_eq_true] at hv
    rw [hv] at hVal
    have HV := hid hv; have HVal := hid hVal
    clear hv hVal hX
    refine callsIn_of_wp_marks Try.func13 rfl (hO.fn _) ?_ rfl
    simp only [Try.ntmps13, List.size_toArray, List.length_cons, List.length_nil, Nat.reduceAdd, Nat.reduceSub, Array.replicate_succ, Array.replicate_zero, List.push_toArray, List.append_toArray, List.nil_append, List.cons_append]
    gi_wp2_with (gi_at_call 37; refine (hO.calls (HVal.out _ (by repeat (first | exact Below.refl _ _ | refine Below.alloc ?_ (by simp) _)))).mono ?_; rintro e w1 ⟨rfl, x1⟩; have HX1 := hid (Ext.then (Ext.then (Ext.alloc _ _) (Ext.alloc _ _)) x1); have kw := x1.cell ((Ext.alloc _ (.cells #[.slice none 0 0, .slice none 0 0] 30)).cell (cell_alloc0 w #[.int .i64 width] 3 0 rfl)); have HB1 := hid ((Box2.new (t := 30) (w.alloc (.cells #[.int .i64 width] 3)) (.slice none 0 0) (.slice none 0 0) (by simp : w.heap.size + 1 = _)).ext x1); clear x1; obtain ⟨p0, p1, p2, p3⟩ := HB1.out.cells)
    obtain ⟨z0, z1, -, -⟩ := ((HB1.out.set0 (.slice none 0 0)).set1 (.slice none 0 0)).cells
    refine ⟨.tuple #[nilCert, .int .i64 1], by simp [results, Try.results13, go_sem, nilCert, z0, z1], ?_, .inl ⟨HV.out, rfl⟩⟩
    refine Below.setCell (Below.setCell HX1.out ?_ _) ?_ _ <;> simp
theorem Fill_ok (v : Value) (X : List (List (List Int))) (width : Int) (w : World) (hX : wordsR.rd w Any [v] X) (hwi : I64 width) :
    Calls Try.prog 13 #[v, .int .i64 width] w (FillQ X width w) := (Fill_ok2 v X width w hX hwi).mono fun _ _ h => h.q
end Go.Proofs.Ytehelanfgepcmaa
