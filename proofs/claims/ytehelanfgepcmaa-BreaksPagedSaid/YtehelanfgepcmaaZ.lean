import Derived.Test.YtehelanfgepcmaaYb
set_option linter.unusedSimpArgs false
set_option linter.unusedVariables false
set_option linter.unusedSectionVars false
namespace Go.Proofs.Ytehelanfgepcmaa
open Go.RowKit Dac
attribute [local go_sem] Oper.semAt_some

theorem T_none {X : List (List (List Int))} {width : Int} {K : List (List Int)} {T : Place → Option Int} {tb : Bool} (hV : VW X) (hT : IsTab X width K) (hD : Dict X K (0, 0) T) (h : tb = false ∨ (!tb) = true) (htb : (T (0, 0)).isSome = tb) : 0 < X.length ∧ kAt K (0, 0) < 0 := by
  have hn : T (0, 0) = none := by
    have h' : tb = false := by
      rcases h with h | h
      · exact h
      · simpa using h
    subst h'
    simpa using htb
  by_cases h0 : X.length = 0
  · have he : ((0, 0) : Place) = endP X := by rw [endP, h0]
    have := hD.1 (0, 0) (.inl he)
    rw [hn, tOf, if_pos he] at this
    cases this
  · have hp : 0 < X.length := by omega
    have hpl : Pl X (0, 0) := ⟨hp, (hV.2 0 hp).1⟩
    have := hD.1 (0, 0) (.inr ⟨hpl, by rintro (h | ⟨_, h⟩) <;> exact absurd h (Nat.not_lt_zero _)⟩)
    rw [hn, tOf, if_neg (pl_end hpl)] at this
    refine ⟨hp, ?_⟩
    split at this
    · assumption
    · cases this

theorem T_some {X : List (List (List Int))} {width : Int} {K : List (List Int)} {T : Place → Option Int} (hV : VW X) (hT : IsTab X width K) (hD : Dict X K (0, 0) T) (h : ∃ c, T (0, 0) = some c) : En X (0, 0) ∧ (Pl X (0, 0) → 0 ≤ kAt K (0, 0)) := by
  obtain ⟨c, hc⟩ := h
  by_cases h0 : X.length = 0
  · exact ⟨.inl ⟨h0.symm, rfl⟩, fun hp => absurd hp.1 (by simp [h0])⟩
  · have hp : 0 < X.length := by omega
    have hpl : Pl X (0, 0) := ⟨hp, (hV.2 0 hp).1⟩
    refine ⟨.inr hpl, fun _ => ?_⟩
    have := hD.1 (0, 0) (.inr ⟨hpl, by rintro (h | ⟨_, h⟩) <;> exact absurd h (Nat.not_lt_zero _)⟩)
    rw [hc, tOf, if_neg (pl_end hpl)] at this
    split at this
    · cases this
    · omega

theorem store_next {w W4 : World} {n2 n3 r : Nat} {width : Int} {X : List (List (List Int))} {T : Place → Option Int} {K : List (List Int)} {p : Place} {ends : List Place} {ve vl : Value} {Ds : List Nat} {Bn L : Nat} {n' : Int × Int} (h : Fst w W4 n2 n3 r width X T K p ends ve vl Ds) (hB : n3 < Bn) (hL : Bn < L) (hp : PairBox 64 W4 Bn n') (hv : ve.ownBlock ≠ some Bn) (nq : Nat) (x y : Int) :
    KeepsFrom L W4 (((W4.drewN nq).setCell ⟨Bn, 0, none⟩ (.int .i64 x)).setCell ⟨Bn, 1, none⟩ (.int .i64 y)) ∧ KeepX Bn W4 (((W4.drewN nq).setCell ⟨Bn, 0, none⟩ (.int .i64 x)).setCell ⟨Bn, 1, none⟩ (.int .i64 y)) ∧
      Fst w (((W4.drewN nq).setCell ⟨Bn, 0, none⟩ (.int .i64 x)).setCell ⟨Bn, 1, none⟩ (.int .i64 y)) n2 n3 r width X T K p ends ve vl Ds ∧ PairBox 64 (((W4.drewN nq).setCell ⟨Bn, 0, none⟩ (.int .i64 x)).setCell ⟨Bn, 1, none⟩ (.int .i64 y)) Bn (x, y) := by
  have hg : W4.grownBy (((W4.drewN nq).setCell ⟨Bn, 0, none⟩ (.int .i64 x)).setCell ⟨Bn, 1, none⟩ (.int .i64 y)) (some Bn) := by
    have g0 : W4.grownBy (W4.drewN nq) (some Bn) := ⟨rfl, rfl, rfl, Nat.le_refl _, fun _ _ _ => rfl⟩
    have g1 := grownBy_setCell (W4.drewN nq) ⟨Bn, 0, none⟩ (.int .i64 x)
    have g2 := grownBy_setCell ((W4.drewN nq).setCell ⟨Bn, 0, none⟩ (.int .i64 x)) ⟨Bn, 1, none⟩ (.int .i64 y)
    exact (g0.trans g1).trans g2
  refine ⟨KeepsFrom.of_grownBy hg (fun j e => by cases e; exact hL), fun a u hn e => ?_, h.below hg (fun q e => ?_), (hp.drewN nq).set x y⟩
  · have e1 : (((W4.drewN nq).setCell ⟨Bn, 0, none⟩ (.int .i64 x)).setCell ⟨Bn, 1, none⟩ (.int .i64 y)).heap[a.block]? = W4.heap[a.block]? := by
      rw [Below.heap_setCell _ _ _ _ (by exact hn), Below.heap_setCell _ _ _ _ (by exact hn)]; rfl
    unfold World.cell? at e ⊢
    rw [e1]; exact e
  · cases e
    refine ⟨hB, hv, fun hd => ?_⟩
    have h1 := (h.marks Bn hd).2
    unfold PairBox at hp
    rw [hp] at h1
    cases h1

set_option maxRecDepth 100000 in
set_option maxHeartbeats 8000000 in
theorem Fill_ok (v : Value) (X : List (List (List Int))) (width : Int) (w : World) (hX : wordsR.rd w Any [v] X) (hwi : I64 width) :
    Calls Try.prog 13 #[v, .int .i64 width] w (FillQ X width w) := by
  obtain ⟨ad, cap, rfl⟩ := Rdr.slice_v hX
  have hVal := fun W (h : Ext w W) => PValid_ok _ X width W (Rdr.ext _ hX h) hwi
  refine callsIn_wide (n := 12) |>.1 ?_
  have hO : Dac.Open Fence.wide := open_wide
  have hf37 : Fence.wide.fn 37 := trivial
  have hf38 : Fence.wide.fn 38 := trivial
  have hf39 : Fence.wide.fn 39 := trivial
  have hf40 : Fence.wide.fn 40 := trivial
  by_cases hv : validB X width = true
  · obtain ⟨hV, hw⟩ := validB_VW hv
    rw [hv] at hVal
    have hCo := fun W (h : Ext w W) => costs_ok _ X width W (Rdr.ext _ hX h) hV hw
    have l2 : X.length ≤ 512 := hV.1
    have HV := hid hv; have HVW := hid hV; have HVal := hid hVal; have HCo := hid hCo; have HX := hid hX; have HW := hid hw
    clear hv hV hVal hCo hX hw
    refine callsIn_of_wp_marks Try.func13 rfl (hO.fn _) ?_ rfl
    simp only [Try.ntmps13, List.size_toArray, List.length_cons, List.length_nil, Nat.reduceAdd, Nat.reduceSub, Array.replicate_succ, Array.replicate_zero, List.push_toArray, List.append_toArray, List.nil_append, List.cons_append]
    gi_wp2_with (first
      | (gi_at_call 37; refine (hO.calls (HVal.out _ (by repeat (first | exact Below.refl _ _ | refine Below.alloc ?_ (by simp) _)))).mono ?_; rintro e w1 ⟨rfl, x1⟩; have HX1 := hid (Ext.then (Ext.then (Ext.alloc _ _) (Ext.alloc _ _)) x1); have kw := x1.cell ((Ext.alloc _ (.cells #[.slice none 0 0, .slice none 0 0] 30)).cell (cell_alloc0 w #[.int .i64 width] 3 0 rfl)); have HB1 := hid ((Box2.new (t := 30) (w.alloc (.cells #[.int .i64 width] 3)) (.slice none 0 0) (.slice none 0 0) (by simp : w.heap.size + 1 = _)).ext x1); clear x1)
      | (gi_at_call 38; refine (hO.calls (HCo.out _ HX1.out)).mono ?_; rintro e w2 ⟨x2, r, T, K, hr, rfl, hH, hT, hD⟩; have HX2 := hid (HX1.out.then x2); have kw2 := x2.cell kw; have HB2 := hid (HB1.out.ext x2); have HH := hid hH; have HT := hid hT; have HD := hid hD; have hl0 := (((hH.of_ext (Ext.alloc w2 (.cells #[.map (some r)] 71))).of_ext (Ext.alloc _ (.cells #[.int .i64 0, .int .i64 0] 64))).of_ext (Ext.alloc _ (.cells #[.int .i64 X.length, .int .i64 0] 64))).look (0, 0); simp only [show ((0 : Nat) : Int) = 0 from rfl] at hl0; generalize htb : (T (0, 0)).isSome = tb at hl0; have HTB := hid htb; have HXB := hid (HX2.out.then (((Ext.alloc w2 (.cells #[.map (some r)] 71)).then (Ext.alloc _ (.cells #[.int .i64 0, .int .i64 0] 64))).then (Ext.alloc _ (.cells #[.int .i64 X.length, .int .i64 0] 64)))); have HTab := hid (table_ok _ X T r _ (Rdr.ext _ HX.out HXB.out) HVW.out (fun p => (T_I64 HVW.out HW.out hT hD p).1) (((hH.of_ext (Ext.alloc w2 (.cells #[.map (some r)] 71))).of_ext (Ext.alloc _ (.cells #[.int .i64 0, .int .i64 0] 64))).of_ext (Ext.alloc _ (.cells #[.int .i64 X.length, .int .i64 0] 64)))); have HB3 := hid (((HB2.out.ext (Ext.alloc w2 (.cells #[.map (some r)] 71))).ext (Ext.alloc _ (.cells #[.int .i64 0, .int .i64 0] 64))).ext (Ext.alloc _ (.cells #[.int .i64 X.length, .int .i64 0] 64))); obtain ⟨p0, p1, p2, p3⟩ := HB3.out.cells; clear x2 hr hH hT hD kw htb)
      | (gi_at_call 39; refine (hO.calls HTab.out).mono ?_; rintro e w3 ⟨vl, gs, rfl, x3, hG⟩; rw [tabT_eq HVW.out HW.out HT.out HD.out] at hG; have HX3 := hid x3; have HG := hid hG; have HGR := hid hG.read; obtain ⟨ra, rc, rfl⟩ := Rdr.slice_v hG.read; clear x3 hG))
    · have hT0 := HTB.out
      obtain ⟨e1, e2⟩ := T_none HVW.out HT.out HD.out (by first | (left; assumption) | (right; assumption) | (left; simp_all)) HTB.out
      have hz := HB3.out
      obtain ⟨z0, z1, -, -⟩ := ((hz.set0 (.slice none 0 0)).set1 (.slice none 0 0)).cells
      refine ⟨.tuple #[nilCert, .int .i64 14], by simp [results, Try.results13, go_sem, nilCert, z0, z1], ?_, .inr ⟨HV.out, K, HT.out, .inl ⟨e1, e2, rfl⟩⟩⟩
      refine Below.setCell (Below.setCell HXB.out ?_ _) ?_ _ <;> simp
    · have hc1 : ∃ c, T (0, 0) = some c := by
        have h1 : tb = true := by first | assumption | (by_cases hh : tb = true; exact hh; simp_all)
        have := HTB.out
        rw [h1] at this
        exact Option.isSome_iff_exists.1 this
      have hk0 : En X (0, 0) ∧ (Pl X (0, 0) → 0 ≤ kAt K (0, 0)) := T_some HVW.out HT.out HD.out hc1
      have hF0 : Fst w (w3.alloc (.cells #[.slice none 0 0, .slice ra K.length rc] 30)) w2.heap.size w3.heap.size r width X T K (0, 0) [] (.slice none 0 0) (.slice ra K.length rc) [] := by
        have hxa := Ext.alloc w3 (.cells #[.slice none 0 0, .slice ra K.length rc] 30)
        have hxb := ((Ext.alloc w2 (.cells #[.map (some r)] 71)).then (Ext.alloc _ (.cells #[.int .i64 0, .int .i64 0] 64))).then (Ext.alloc _ (.cells #[.int .i64 X.length, .int .i64 0] 64))
        have hxc := hxb.then (HX3.out.then hxa)
        have s1 := HB2.out.lt
        have s3 := HX3.out.size
        simp only [World.size_alloc] at s3
        have hm := HH.out.of_ext hxc
        have hrl := HH.out.lt
        refine ⟨(HX2.out.then hxc), by omega, by omega, hrl, hxc.cell kw2, HB2.out.ext hxc, ?_, ?_, ?_, ?_, hm, Box2.new _ _ _ rfl, Bld.nil _ _ _ _ _, ?_, List.nodup_nil, by simp⟩
        · exact (HX3.out.then hxa).cell ((Ext.alloc _ _).cell ((Ext.alloc _ _).cell (cell_alloc0 w2 #[.map (some r)] 71 0 rfl)))
        · have := ((PairBox.new' (t := 64) (w2.alloc (.cells #[.map (some r)] 71)) 0 0 (B := w2.heap.size + 1) (by simp)).ext (Ext.alloc _ (.cells #[.int .i64 X.length, .int .i64 0] 64))).ext (HX3.out.then hxa)
          exact this
        · have := cell_alloc0 ((w2.alloc (.cells #[.map (some r)] 71)).alloc (.cells #[.int .i64 0, .int .i64 0] 64)) #[.int .i64 X.length, .int .i64 0] 64 0 rfl
          simp only [World.size_alloc] at this
          exact (HX3.out.then hxa).cell this
        · have := cell_alloc0 ((w2.alloc (.cells #[.map (some r)] 71)).alloc (.cells #[.int .i64 0, .int .i64 0] 64)) #[.int .i64 X.length, .int .i64 0] 64 1 rfl
          simp only [World.size_alloc] at this
          exact (HX3.out.then hxa).cell this
        · have h5 := Rdr.mono _ HGR.out (G := fun k => w2.heap.size + 3 ≤ k ∧ k < w3.heap.size) (fun k hk hl => by simp only [World.size_alloc] at hk; exact ⟨by omega, hl⟩)
          exact Rdr.ext _ h5 hxa
      have HF0 := hid hF0; have HK0 := hid hk0
      clear hF0 hk0 hc1 hl0 p0 p1 p2 p3 kw2
      refine wpIn_loop (fun a' W => ∃ (p : Place) (ends : List Place) (ve : Value) (Ds : List Nat) (u9 u10 u12 u13 u14 u15 u16 u17 u18 u19 u20 u21 u22 u23 u24 u25 u26 u27 u28 u29 u30 u31 u32 u33 u34 u35 u36 u37 u38 u39 u40 u41 u42 u43 u44 u45 u46 u47 u48 u49 u50 u51 u52 u53 u54 u55 u56 u57 u58 u59 u60 u61 u62 u63 u64 u65 u66 u67 u68 u69 u70 u71 u72 u73 u74 u75 u76 u77 u78 u79 u80 u81 u82 u83 u84 u85 u86 u87 u88 u89 u90 u91 u92 u93 u94 u95 u96 u97 u98 u99 u100 u101 u102 u103 : Value), En X p ∧ (Pl X p → 0 ≤ kAt K p) ∧ (∀ r, IsEnds X width K p r → IsEnds X width K (0, 0) (ends ++ r)) ∧ ends.length + rem X p ≤ 8192 ∧ Fst w W w2.heap.size w3.heap.size r width X T K p ends ve (.slice ra K.length rc) Ds ∧ a' = { tmps := List.toArray (.slice ad X.length cap :: .int .i64 width :: undef :: .pointer (some ⟨w.heap.size, 0, none⟩) :: .pointer (some ⟨w.heap.size + 1, 0, none⟩) :: .int .i64 0 :: .pointer (some ⟨w2.heap.size, 0, none⟩) :: .pointer (some ⟨w2.heap.size + 1, 0, none⟩) :: .pointer (some ⟨w2.heap.size + 1 + 1, 0, none⟩) :: u9 :: u10 :: .pointer (some ⟨w3.heap.size, 0, none⟩) :: u12 :: u13 :: u14 :: u15 :: u16 :: u17 :: u18 :: u19 :: u20 :: u21 :: u22 :: u23 :: u24 :: u25 :: u26 :: u27 :: u28 :: u29 :: u30 :: u31 :: u32 :: u33 :: u34 :: u35 :: u36 :: u37 :: u38 :: u39 :: u40 :: u41 :: u42 :: u43 :: u44 :: u45 :: u46 :: u47 :: u48 :: u49 :: u50 :: u51 :: u52 :: u53 :: u54 :: u55 :: u56 :: u57 :: u58 :: u59 :: u60 :: u61 :: u62 :: u63 :: u64 :: u65 :: u66 :: u67 :: u68 :: u69 :: u70 :: u71 :: u72 :: u73 :: u74 :: u75 :: u76 :: u77 :: u78 :: u79 :: u80 :: u81 :: u82 :: u83 :: u84 :: u85 :: u86 :: u87 :: u88 :: u89 :: u90 :: u91 :: u92 :: u93 :: u94 :: u95 :: u96 :: u97 :: u98 :: u99 :: u100 :: u101 :: u102 :: u103 :: []), defers := Ds.map mark }) (fun _ W => rem X (atOf W (w2.heap.size + 1))) ?_ ?_
      · refine ⟨(0, 0), [], _, [], _, _, _, _, _, _, _, _, _, _, _, _, _, _, _, _, _, _, _, _, _, _, _, _, _, _, _, _, _, _, _, _, _, _, _, _, _, _, _, _, _, _, _, _, _, _, _, _, _, _, _, _, _, _, _, _, _, _, _, _, _, _, _, _, _, _, _, _, _, _, _, _, _, _, _, _, _, _, _, _, _, _, _, _, _, _, _, _, _, _, _, _, _, _, HK0.out.1, HK0.out.2, fun r h => h, ?_, HF0.out, rfl⟩
        have := rem_le HVW.out (0, 0)
        simpa using this
      intro a' W h
      obtain ⟨p, h⟩ := h
      obtain ⟨ends, h⟩ := h
      obtain ⟨ve, h⟩ := h
      obtain ⟨Ds, h⟩ := h
      obtain ⟨u9, h⟩ := h
      obtain ⟨u10, h⟩ := h
      obtain ⟨u12, h⟩ := h
      obtain ⟨u13, h⟩ := h
      obtain ⟨u14, h⟩ := h
      obtain ⟨u15, h⟩ := h
      obtain ⟨u16, h⟩ := h
      obtain ⟨u17, h⟩ := h
      obtain ⟨u18, h⟩ := h
      obtain ⟨u19, h⟩ := h
      obtain ⟨u20, h⟩ := h
      obtain ⟨u21, h⟩ := h
      obtain ⟨u22, h⟩ := h
      obtain ⟨u23, h⟩ := h
      obtain ⟨u24, h⟩ := h
      obtain ⟨u25, h⟩ := h
      obtain ⟨u26, h⟩ := h
      obtain ⟨u27, h⟩ := h
      obtain ⟨u28, h⟩ := h
      obtain ⟨u29, h⟩ := h
      obtain ⟨u30, h⟩ := h
      obtain ⟨u31, h⟩ := h
      obtain ⟨u32, h⟩ := h
      obtain ⟨u33, h⟩ := h
      obtain ⟨u34, h⟩ := h
      obtain ⟨u35, h⟩ := h
      obtain ⟨u36, h⟩ := h
      obtain ⟨u37, h⟩ := h
      obtain ⟨u38, h⟩ := h
      obtain ⟨u39, h⟩ := h
      obtain ⟨u40, h⟩ := h
      obtain ⟨u41, h⟩ := h
      obtain ⟨u42, h⟩ := h
      obtain ⟨u43, h⟩ := h
      obtain ⟨u44, h⟩ := h
      obtain ⟨u45, h⟩ := h
      obtain ⟨u46, h⟩ := h
      obtain ⟨u47, h⟩ := h
      obtain ⟨u48, h⟩ := h
      obtain ⟨u49, h⟩ := h
      obtain ⟨u50, h⟩ := h
      obtain ⟨u51, h⟩ := h
      obtain ⟨u52, h⟩ := h
      obtain ⟨u53, h⟩ := h
      obtain ⟨u54, h⟩ := h
      obtain ⟨u55, h⟩ := h
      obtain ⟨u56, h⟩ := h
      obtain ⟨u57, h⟩ := h
      obtain ⟨u58, h⟩ := h
      obtain ⟨u59, h⟩ := h
      obtain ⟨u60, h⟩ := h
      obtain ⟨u61, h⟩ := h
      obtain ⟨u62, h⟩ := h
      obtain ⟨u63, h⟩ := h
      obtain ⟨u64, h⟩ := h
      obtain ⟨u65, h⟩ := h
      obtain ⟨u66, h⟩ := h
      obtain ⟨u67, h⟩ := h
      obtain ⟨u68, h⟩ := h
      obtain ⟨u69, h⟩ := h
      obtain ⟨u70, h⟩ := h
      obtain ⟨u71, h⟩ := h
      obtain ⟨u72, h⟩ := h
      obtain ⟨u73, h⟩ := h
      obtain ⟨u74, h⟩ := h
      obtain ⟨u75, h⟩ := h
      obtain ⟨u76, h⟩ := h
      obtain ⟨u77, h⟩ := h
      obtain ⟨u78, h⟩ := h
      obtain ⟨u79, h⟩ := h
      obtain ⟨u80, h⟩ := h
      obtain ⟨u81, h⟩ := h
      obtain ⟨u82, h⟩ := h
      obtain ⟨u83, h⟩ := h
      obtain ⟨u84, h⟩ := h
      obtain ⟨u85, h⟩ := h
      obtain ⟨u86, h⟩ := h
      obtain ⟨u87, h⟩ := h
      obtain ⟨u88, h⟩ := h
      obtain ⟨u89, h⟩ := h
      obtain ⟨u90, h⟩ := h
      obtain ⟨u91, h⟩ := h
      obtain ⟨u92, h⟩ := h
      obtain ⟨u93, h⟩ := h
      obtain ⟨u94, h⟩ := h
      obtain ⟨u95, h⟩ := h
      obtain ⟨u96, h⟩ := h
      obtain ⟨u97, h⟩ := h
      obtain ⟨u98, h⟩ := h
      obtain ⟨u99, h⟩ := h
      obtain ⟨u100, h⟩ := h
      obtain ⟨u101, h⟩ := h
      obtain ⟨u102, h⟩ := h
      obtain ⟨u103, h⟩ := h
      obtain ⟨hEn, hKa, hEnds, hLen, hF, ha⟩ := h
      subst ha
      have HEn := hid hEn; have HKa := hid hKa; have HEnds := hid hEnds; have HF := hid hF
      obtain ⟨t0, t1, t2, t3⟩ := hF.at_.cells
      have q0 := hF.ce0
      have q1 := hF.ce1
      obtain ⟨b0, b1, b2, b3⟩ := hF.out.cells
      obtain ⟨r0, r1, r2, r3⟩ := hF.res.cells
      obtain ⟨p, i⟩ := p
      have hv : ∃ va vl vc, ve = .slice va vl vc := by
        obtain ⟨a, c, h⟩ := Rdr.slice_v (hF.bld.read (G := Any) (fun _ _ => trivial) (fun _ _ => trivial))
        exact ⟨a, _, c, h⟩
      obtain ⟨va, ln, vc, rfl⟩ := hv
      clear hEn hKa hEnds hF
      by_cases hend : (p, i) = endP X
      · obtain ⟨rfl, rfl⟩ := Prod.mk.inj hend
        have hneq := fun W => neq_pair isPair X.length 0 X.length 0 W
        simp only [show ((0 : Nat) : Int) = 0 from rfl, beq_self_eq_true, Bool.and_self, Bool.not_true] at *
        gi_wp2
        have s2 := HF.out.s2
        have s3 := HF.out.s3
        show LeavesInM _ _ _ _ _ _ (Ds.map mark) .returning _
        refine leaves_marks (B := w3.heap.size + 1) (fun W4 => Ext w W4 ∧ Box2 30 W4 (w.heap.size + 1) (.slice va ln vc) (.slice ra K.length rc) ∧ Bld pairR Any W4 (w3.heap.size + 1) 64 (.slice va ln vc) (toI ends) ∧ rowsR.rd W4 (fun k => w2.heap.size + 3 ≤ k ∧ k < w3.heap.size) [.slice ra K.length rc] K) ?_ ?_ Ds _ HF.out.nodup ?_ ⟨?_, (HF.out.res.set0 _).set1 _, ?_, ?_⟩
        · intro W4 D ⟨h1, h2, h3, h4⟩ h5 h6
          have hg := grownBy_putObj' W4 D (.deferred none)
          refine ⟨h1.grown hg h1.size (fun j e => by cases e; omega), h2.grown hg (fun e => by cases e; omega), Bld.free pairR_free h3 hg (fun k hk e => ?_), Rdr.grown _ h4 hg (fun k hk e => by cases e; omega)⟩
          cases e
          obtain ⟨o, h7, h8⟩ := h3.obj D hk
          rw [h5] at h7
          cases h7
          cases h8
        · intro W4 ⟨h1, h2, h3, h4⟩
          obtain ⟨z0, z1, -, -⟩ := h2.cells
          have hends := HEnds.out [] rfl
          rw [List.append_nil] at hends
          exact ⟨.tuple #[.agg #[.slice va ln vc, .slice ra K.length rc], .int .i64 0], by simp [results, Try.results13, go_sem, z0, z1], h1, .inr ⟨HV.out, K, HT.out, .inr ⟨ends, _, _, hends, rfl, (Bld.refoot pairR_free (G := fun k => w.heap.size ≤ k) h3).read (G := fun k => w.heap.size ≤ k) (fun k hk => by have := (h3.lt k hk).1; omega) (fun _ h => h), Rdr.mono _ h4 (fun k hk _ => by omega)⟩⟩⟩
        · intro D hD
          obtain ⟨h1, h2⟩ := HF.out.marks D hD
          refine ⟨h1, ?_⟩
          rw [Below.heap_setCell _ _ _ _ (show D ≠ w.heap.size + 1 by omega), Below.heap_setCell _ _ _ _ (show D ≠ w.heap.size + 1 by omega)]
          exact h2
        · refine Below.setCell (Below.setCell HF.out.ext ?_ _) ?_ _ <;> simp
        · refine Bld.free pairR_free (Bld.free pairR_free HF.out.bld (grownBy_setCell _ ⟨w.heap.size + 1, 0, none⟩ _) (fun k hk e => ?_)) (grownBy_setCell _ ⟨w.heap.size + 1, 1, none⟩ _) (fun k hk e => ?_)
          · have := (HF.out.bld.lt k hk).1; simp at e; omega
          · have := (HF.out.bld.lt k hk).1; simp at e; omega
        · refine Rdr.stay _ HF.out.rows fun k hk hl => ⟨?_, hk⟩
          rw [Below.heap_setCell _ _ _ _ (show k ≠ w.heap.size + 1 by omega), Below.heap_setCell _ _ _ _ (show k ≠ w.heap.size + 1 by omega)]
      · have hpl : Pl X (p, i) := HEn.out.cases.resolve_left hend
        have hneq1 : ((p : Int) == X.length && (i : Int) == 0) = false := by
          rw [Bool.eq_false_iff]; intro h; simp at h; exact hend (Prod.ext (by simp; omega) h.2)
        have hneq := fun W => neq_pair isPair p i X.length 0 W
        simp only [hneq1, Bool.not_false] at hneq
        have hkk := HKa.out hpl
        rw [HT.out.2 _ hpl] at hkk
        obtain ⟨bb, t, hpk⟩ : ∃ bb t, pick X width (tOf X K) (p, i) = some (bb, t) := by
          cases h : pick X width (tOf X K) (p, i) with
          | none => rw [h] at hkk; simp [encB] at hkk
          | some x => exact ⟨x.1, x.2, rfl⟩
        have hTl : ∀ t ∈ lat X (p, i), T t = tOf X K t := fun t ht => HD.out.1 t (by
          obtain ⟨_, h2⟩ := lat_mem HVW.out hpl t ht
          rcases h2.cases with e | e
          · exact .inl e
          · exact .inr ⟨e, by rintro (h | ⟨_, h⟩) <;> exact absurd h (Nat.not_lt_zero _)⟩)
        have hTb : T (p, i) = some bb := by
          rw [HD.out.1 (p, i) (.inr ⟨hpl, by rintro (h | ⟨_, h⟩) <;> exact absurd h (Nat.not_lt_zero _)⟩), tOf_pick HVW.out HW.out HT.out hpl, hpk]; rfl
        have hpT : pick X width T (p, i) = some (bb, t) := by rw [pick_congr hTl, hpk]
        have HPK := hid hpk; have HTL := hid hTl; have HTb := hid hTb; have HPT := hid hpT
        have hw2x := Rdr.mono _ HX.out (G := fun k => k < w.heap.size) (fun k _ hl => hl)
        obtain ⟨b, o, rfl⟩ : ∃ b o, ad = some ⟨b, o, none⟩ := by
          obtain ⟨b, o, cap', he, -⟩ := rows_ne HX.out (Nat.lt_of_le_of_lt (Nat.zero_le _) hpl.1)
          simp only [Value.slice.injEq] at he
          exact ⟨b, o, he.1⟩
        obtain ⟨A2, A3, ha1, ha2, ha3⟩ := words_addr hw2x HVW.out
        have HA1 := hid ha1; have HA2 := hid ha2; have HA3 := hid ha3
        have cw := HF.out.cw
        have HXc := hid (HF.out.ext.then (Ext.alloc W (.cells #[.int .i64 p, .int .i64 i] 64)))
        have k1 := (Ext.alloc W (.cells #[.int .i64 p, .int .i64 i] 64)).cell cw
        have k2 := (Ext.alloc W (.cells #[.int .i64 p, .int .i64 i] 64)).cell t0
        have k3 := (Ext.alloc W (.cells #[.int .i64 p, .int .i64 i] 64)).cell t1
        have HL := hid (fun W (hx : Ext w W) => lines_ok (.slice (some ⟨b, o, none⟩) X.length cap) X width (p, i) W (Rdr.ext _ HX.out hx))
        clear hneq1 hkk hpk hTl hTb hpT hw2x ha1 ha2 ha3
        gi_wp2_with (gi_at_call 40; refine (hO.calls (HL.out _ HXc.out)).mono ?_; rintro e w' ⟨rfl, rfl⟩)
        clear k1 k2 k3
        have hxl := ((Ext.alloc (W.alloc (.cells #[.int .i64 p, .int .i64 i] 64)) (.cells #[.slice (some ⟨b, o, none⟩) X.length cap] 34)).then (Ext.alloc _ (.cells #[.int .i64 width] 3))).then (Ext.alloc _ (.cells #[.int .i64 p, .int .i64 i] 64))
        have hxw := hid (HXc.out.then hxl)
        have hxW := (Ext.alloc W (.cells #[.int .i64 p, .int .i64 i] 64)).then hxl
        have hbn := (PairBox.new (t := 64) W p i).ext hxl
        have e0 := (Ext.alloc _ (.cells #[.int .i64 p, .int .i64 i] 64)).cell ((Ext.alloc _ (.cells #[.int .i64 width] 3)).cell (cell_alloc0 (W.alloc (.cells #[.int .i64 p, .int .i64 i] 64)) #[.slice (some ⟨b, o, none⟩) X.length cap] 34 0 rfl))
        have e1 := (Ext.alloc _ (.cells #[.int .i64 p, .int .i64 i] 64)).cell (cell_alloc0 ((W.alloc (.cells #[.int .i64 p, .int .i64 i] 64)).alloc (.cells #[.slice (some ⟨b, o, none⟩) X.length cap] 34)) #[.int .i64 width] 3 0 rfl)
        have e2 := cell_alloc0 (((W.alloc (.cells #[.int .i64 p, .int .i64 i] 64)).alloc (.cells #[.slice (some ⟨b, o, none⟩) X.length cap] 34)).alloc (.cells #[.int .i64 width] 3)) #[.int .i64 p, .int .i64 i] 64 0 rfl
        have e3 := cell_alloc0 (((W.alloc (.cells #[.int .i64 p, .int .i64 i] 64)).alloc (.cells #[.slice (some ⟨b, o, none⟩) X.length cap] 34)).alloc (.cells #[.int .i64 width] 3)) #[.int .i64 p, .int .i64 i] 64 1 rfl
        have hsz : ((((W.alloc (.cells #[.int .i64 p, .int .i64 i] 64)).alloc (.cells #[.slice (some ⟨b, o, none⟩) X.length cap] 34)).alloc (.cells #[.int .i64 width] 3)).alloc (.cells #[.int .i64 p, .int .i64 i] 64)).heap.size = W.heap.size + 4 := by simp
        have hgL : W.grownBy ((((W.alloc (.cells #[.int .i64 p, .int .i64 i] 64)).alloc (.cells #[.slice (some ⟨b, o, none⟩) X.length cap] 34)).alloc (.cells #[.int .i64 width] 3)).alloc (.cells #[.int .i64 p, .int .i64 i] 64)) none := ⟨rfl, rfl, rfl, by rw [hsz]; omega, fun q hq _ => hxW.block q hq⟩
        have hFL := HF.out.below hgL (fun q e => by cases e)
        simp only [World.size_alloc] at e0 e1 e2 e3 ⊢
        generalize hWL : ((((W.alloc (.cells #[.int .i64 p, .int .i64 i] 64)).alloc (.cells #[.slice (some ⟨b, o, none⟩) X.length cap] 34)).alloc (.cells #[.int .i64 width] 3)).alloc (.cells #[.int .i64 p, .int .i64 i] 64)) = WL at *
        have hsW := HF.out.ext.size
        have hcap : Cap (fun q => q ≠ W.heap.size) WL (W.heap.size + 1) b o cap width (p, i) X A2 A3 := ⟨⟨by omega, by omega, by omega⟩, e0, e1, e2, e3, fun q hq => ⟨by have := (HA1.out q hq).1; omega, hxw.out.cell (HA1.out q hq).2⟩, fun q hq j hj => ⟨by have := (HA2.out q hq j hj).1; omega, hxw.out.cell (HA2.out q hq j hj).2⟩, fun q hq j hj r hr => ⟨by have := (HA3.out q hq j hj r hr).1; omega, hxw.out.cell (HA3.out q hq j hj r hr).2⟩⟩
        have HFL := hid hFL
        have hbW : w3.heap.size < W.heap.size := HF.out.out.lt
        clear hWL HL hxW hxl hgL hFL
        refine wpIn_rangeFunc_ownH rfl (by omega) (gf := 54) (lb := #[.pointer (some ⟨W.heap.size + 1 + 2, 0, none⟩), .pointer (some ⟨W.heap.size + 1, 0, none⟩), .pointer (some ⟨W.heap.size + 1 + 1, 0, none⟩)]) rfl (hO.fn _) (enters_of Try.func54 (by kernel_rfl) rfl)
          (lines_stops Fence.wide 11 (hO.fn _) rfl (by omega) (KeepX W.heap.size) (fun q => q ≠ W.heap.size) X width (p, i) (W.heap.size + 1) b o cap A2 A3 WL HVW.out HW.out hpl (fun A C h a u ha => h a u ha) hcap) KeepX.trans (fun W4 l o o' _ h1 h2 _ => keepX_put _ W4 l o o' h1 h2) (Below.refl _ _) (fun _ => rfl)
          (fun (pre : List (LineOf X width (p, i))) W' => Fst w W' w2.heap.size w3.heap.size r width X T K (p, i) ends (.slice va ln vc) (.slice ra K.length rc) Ds ∧ PairBox 64 W' W.heap.size ((selM X T width (p, i) bb (pre.map Subtype.val)).1, (selM X T width (p, i) bb (pre.map Subtype.val)).2))
          (fun _ _ _ => False)
          (fun pre A C row hs hg hr => ⟨hs.1.own hg (fun q e => ⟨by have := (hr q e).1; omega, (hr q e).2⟩) (fun D hd => by have := (Array.getElem?_eq_some_iff.1 (HFL.out.marks D hd).2).1; intro q e e2; subst e2; have := (hr _ e).1; omega), (hg.block _ hs.2.lt (fun e => by have := (hr _ e.symm).1; omega)).trans hs.2⟩)
          (fun _ _ _ _ _ hs _ _ => hs)
          ⟨HFL.out, hbn⟩
          (fun (x : LineOf X width (p, i)) a' W' => ∃ Bx, W'.cell? ⟨Bx, 0, none⟩ = some (.int .i64 x.1.1.1) ∧ W'.cell? ⟨Bx, 1, none⟩ = some (.int .i64 x.1.1.2) ∧ Bx ≠ W.heap.size ∧ a' = { tmps := List.toArray (.slice (some ⟨b, o, none⟩) X.length cap :: .int .i64 width :: undef :: .pointer (some ⟨w.heap.size, 0, none⟩) :: .pointer (some ⟨w.heap.size + 1, 0, none⟩) :: .int .i64 0 :: .pointer (some ⟨w2.heap.size, 0, none⟩) :: .pointer (some ⟨w2.heap.size + 1, 0, none⟩) :: .pointer (some ⟨w2.heap.size + 1 + 1, 0, none⟩) :: u9 :: u10 :: .pointer (some ⟨w3.heap.size, 0, none⟩) :: .pointer (some ⟨W.heap.size, 0, none⟩) :: .pointer (some ⟨Bx, 0, none⟩) :: .int .i64 x.1.2 :: u15 :: u16 :: u17 :: u18 :: u19 :: u20 :: u21 :: u22 :: u23 :: u24 :: u25 :: u26 :: u27 :: u28 :: u29 :: u30 :: u31 :: u32 :: u33 :: u34 :: u35 :: u36 :: u37 :: u38 :: u39 :: u40 :: u41 :: .agg #[.int .i64 p, .int .i64 i] :: .agg #[.int .i64 X.length, .int .i64 0] :: .bool true :: .agg #[.int .i64 p, .int .i64 i] :: .slice (some ⟨b, o, none⟩) X.length cap :: .int .i64 width :: .agg #[.int .i64 p, .int .i64 i] :: .func (.func 54) #[] #[.pointer (some ⟨W.heap.size + 1 + 2, 0, none⟩), .pointer (some ⟨W.heap.size + 1, 0, none⟩), .pointer (some ⟨W.heap.size + 1 + 1, 0, none⟩)] :: .agg #[.int .i64 x.1.1.1, .int .i64 x.1.1.2] :: .int .i64 x.1.2 :: u52 :: u53 :: u54 :: u55 :: u56 :: u57 :: u58 :: u59 :: u60 :: u61 :: u62 :: u63 :: u64 :: u65 :: u66 :: u67 :: u68 :: u69 :: u70 :: u71 :: u72 :: u73 :: u74 :: u75 :: u76 :: u77 :: u78 :: u79 :: u80 :: u81 :: u82 :: u83 :: u84 :: u85 :: u86 :: u87 :: u88 :: u89 :: u90 :: u91 :: u92 :: u93 :: u94 :: u95 :: u96 :: u97 :: u98 :: u99 :: u100 :: u101 :: u102 :: u103 :: []), defers := [] })
          (fun x a' _ A C row hs hg hr => by obtain ⟨Bx, h1, h2, h4, h3⟩ := hs; exact ⟨Bx, cell_kept h1 hg (fun r e => (hr r e).2), cell_kept h2 hg (fun r e => (hr r e).2), h4, h3⟩)
          ?assign ?body ?done ?stop
        case assign =>
          intro l pre x W4 K4 hi hK4
          have HI := hid hi; have HK4 := hid hK4
          clear hi hK4 hcap e0 e1 e2 e3
          simp only [encL]
          gi_wp2
          have hlt := HI.out.2.lt
          exact HK4.out _ _ ((KeepsOthers.alloc _ _).from _) (fun a u _ h => (Ext.alloc _ _).cell h) ⟨HI.out.1.below (World.grownBy_alloc W4 _ none) (fun q e => by cases e), HI.out.2.ext (Ext.alloc _ _)⟩ ⟨W4.heap.size, cell_alloc0 W4 #[.int .i64 x.1.1.1, .int .i64 x.1.1.2] 64 0 rfl, cell_alloc0 W4 #[.int .i64 x.1.1.1, .int .i64 x.1.1.2] 64 1 rfl, by omega, rfl⟩
        case body =>
          intro l pre x a' W4 _ _ hi hax _
          obtain ⟨Bx, x0, x1, hBx, rfl⟩ := hax
          obtain ⟨⟨⟨q, j⟩, size⟩, hxm⟩ := x
          obtain ⟨hl1, hl2, hl3, hl4, hl5⟩ := line_mem HVW.out hpl hxm
          dsimp only at x0 x1 hl1 hl2 hl3 hl4 hl5
          have hL1 := hi.1.map.look (q, j)
          have hsn := selM_snoc (X := X) (T := T) (width := width) (f := (p, i)) (b := bb) (pre.map Subtype.val) ((q, j), size)
          have hmap : (pre ++ [(⟨((q, j), size), hxm⟩ : LineOf X width (p, i))]).map Subtype.val = pre.map Subtype.val ++ [((q, j), size)] := by simp
          have HI := hid hi; have HSN := hid hsn; have HMAP := hid hmap
          have cw4 := hi.1.cw
          have cm := hi.1.cm
          have ce0 := hi.1.ce0
          have ce1 := hi.1.ce1
          obtain ⟨n0, n1, nf0, nf1⟩ := hi.2.cells
          obtain ⟨t0, t1, -, -⟩ := hi.1.at_.cells
          have hO2 : Dac.Open (Fence.wide.inRound l) := hO.inRound l
          clear hi hcap e0 e1 e2 e3 hsn hmap r0 r1 r2 r3 q0 q1 cw b0 b1 b2 b3 t2 t3
          cases hTq : T (q, j) with
          | none =>
            rw [hTq] at hL1
            simp only [Option.getD_none, Option.isSome_none] at hL1
            have HTQ := hid hTq
            clear hTq
            gi_wp2
            (refine wpIn_quiet_lit hO2 (by kernel_rfl) (by kernel_rfl) (by kernel_rfl) ?_; (repeat (go_big_quiet_step (fail))); refine wpQuiet_nil ?_; intro _ hw'; obtain ⟨nq, hw''⟩ := hw'; subst hw'')
            gi_wp2
            simp only [ownPostG]
            rw [HMAP.out, HSN.out, selMStep, HTQ.out]
            exact ⟨⟨Nat.le_refl _, fun _ _ _ h0 _ => h0⟩, fun _ _ _ e => e, HI.out.1.below (row := none) ⟨rfl, rfl, rfl, Nat.le_refl _, fun _ _ _ => rfl⟩ (fun q e => by cases e), HI.out.2.drewN _⟩
          | some c =>
            rw [hTq] at hL1
            simp only [Option.getD_some, Option.isSome_some] at hL1
            have hsb := sizeL_bd HVW.out hpl hl2 hl3
            have hpb := priceL_bd HVW.out HW.out hpl hl2 hl3
            obtain ⟨lb, heq, hP⟩ := price_at (width := width) hl4 HW.out hl5 hsb.1
            have hwi : wrap64 (width - size) = width - size := wrap64_id (by have := HW.out; have := hsb.1; omega) (by have := HW.out; have := hsb.1; omega)
            rw [← hwi] at hP
            simp only [hl4] at hP
            have HP := hid hP
            obtain ⟨c1, c2⟩ := (T_I64 HVW.out HW.out HT.out HD.out (q, j)).2 c hTq
            obtain ⟨p1, p2⟩ := hpb
            have HTQ := hid hTq
            have hL2 := fun m => ((HI.out.1.map.same (W' := W4.drewN m) rfl).look1 (p, i))
            simp only [HTb.out, Option.getD_some] at hL2
            clear hTq hP hwi hsb
            generalize hpr : priceL X width (p, i) (q, j) = pr at *
            by_cases hcb : c + pr = bb
            · have hcq : (c + pr == bb) = true := by simpa using hcb
              generalize hnx : selM X T width (p, i) bb (pre.map Subtype.val) = nx at *
              obtain ⟨nq', nj'⟩ := nx
              dsimp only at n0 n1
              rcases Nat.lt_trichotomy nq' q with hA | hA | hA
              · have hA' : (nq' : Int) < q := by omega
                gi_wp2
                (refine wpIn_quiet_lit hO2 (by kernel_rfl) (by kernel_rfl) (by kernel_rfl) ?_; (repeat (go_big_quiet_step ((go_at_call 41; exact Calls.quiet_of (HP.out _))))); refine wpQuiet_nil ?_; intro _ hw'; obtain ⟨nq, hw''⟩ := hw'; subst hw'')
                gi_wp2
                simp only [ownPostG]
                rw [HMAP.out, HSN.out, selMStep, HTQ.out]
                dsimp only
                rw [hpr, if_pos ⟨hcb, by unfold Lt; dsimp only; omega⟩]
                exact store_next HI.out.1 hbW (by rw [hsz]; omega) HI.out.2 (fun e => by have := (HF.out.bld.lt _ e).2; omega) nq _ _
              · subst hA
                by_cases hB : nj' < j
                · have hB' : (nj' : Int) < j := by omega
                  gi_wp2
                  (refine wpIn_quiet_lit hO2 (by kernel_rfl) (by kernel_rfl) (by kernel_rfl) ?_; (repeat (go_big_quiet_step ((go_at_call 41; exact Calls.quiet_of (HP.out _))))); refine wpQuiet_nil ?_; intro _ hw'; obtain ⟨nq, hw''⟩ := hw'; subst hw'')
                  gi_wp2
                  simp only [ownPostG]
                  rw [HMAP.out, HSN.out, selMStep, HTQ.out]
                  dsimp only
                  rw [hpr, if_pos ⟨hcb, by unfold Lt; dsimp only; omega⟩]
                  exact store_next HI.out.1 hbW (by rw [hsz]; omega) HI.out.2 (fun e => by have := (HF.out.bld.lt _ e).2; omega) nq _ _
                · have hB' : ¬ (nj' : Int) < j := by omega
                  gi_wp2
                  (refine wpIn_quiet_lit hO2 (by kernel_rfl) (by kernel_rfl) (by kernel_rfl) ?_; (repeat (go_big_quiet_step ((go_at_call 41; exact Calls.quiet_of (HP.out _))))); refine wpQuiet_nil ?_; intro _ hw'; obtain ⟨nq, hw''⟩ := hw'; subst hw'')
                  gi_wp2
                  simp only [ownPostG]
                  rw [HMAP.out, HSN.out, selMStep, HTQ.out]
                  dsimp only
                  rw [hpr, if_neg (fun h => by have := h.2; unfold Lt at this; dsimp only at this; omega)]
                  exact ⟨⟨Nat.le_refl _, fun _ _ _ h0 _ => h0⟩, fun _ _ _ e => e, HI.out.1.below (row := none) ⟨rfl, rfl, rfl, Nat.le_refl _, fun _ _ _ => rfl⟩ (fun q e => by cases e), HI.out.2.drewN _⟩
              · have hA' : ¬ (nq' : Int) < q := by omega
                have hA2 : ¬ q = nq' := by omega
                have hA3 : ¬ nq' < q := by omega
                have hA6 : ((q : Int) == (nq' : Int)) = false := by rw [beq_eq_false_iff_ne]; omega
                have hA7 : ¬ (q : Int) = (nq' : Int) := by omega
                have hA8 : decide ((q : Int) = (nq' : Int)) = false := by rw [decide_eq_false_iff_not]; omega
                have hA4 : (q == nq') = false := by simpa using hA2
                gi_wp2
                (refine wpIn_quiet_lit hO2 (by kernel_rfl) (by kernel_rfl) (by kernel_rfl) ?_; (repeat (go_big_quiet_step ((go_at_call 41; exact Calls.quiet_of (HP.out _))))); refine wpQuiet_nil ?_; intro _ hw'; obtain ⟨nq, hw''⟩ := hw'; subst hw'')
                gi_wp2
                simp only [ownPostG]
                rw [HMAP.out, HSN.out, selMStep, HTQ.out]
                dsimp only
                rw [hpr, if_neg (fun h => by have := h.2; unfold Lt at this; dsimp only at this; omega)]
                exact ⟨⟨Nat.le_refl _, fun _ _ _ h0 _ => h0⟩, fun _ _ _ e => e, HI.out.1.below (row := none) ⟨rfl, rfl, rfl, Nat.le_refl _, fun _ _ _ => rfl⟩ (fun q e => by cases e), HI.out.2.drewN _⟩
            · have hcq : (c + pr == bb) = false := by simpa using hcb
              gi_wp2
              (refine wpIn_quiet_lit hO2 (by kernel_rfl) (by kernel_rfl) (by kernel_rfl) ?_; (repeat (go_big_quiet_step ((go_at_call 41; exact Calls.quiet_of (HP.out _))))); refine wpQuiet_nil ?_; intro _ hw'; obtain ⟨nq, hw''⟩ := hw'; subst hw'')
              gi_wp2
              simp only [ownPostG]
              rw [HMAP.out, HSN.out, selMStep, HTQ.out]
              dsimp only
              rw [hpr, if_neg (fun h => hcb h.1)]
              exact ⟨⟨Nat.le_refl _, fun _ _ _ h0 _ => h0⟩, fun _ _ _ e => e, HI.out.1.below (row := none) ⟨rfl, rfl, rfl, Nat.le_refl _, fun _ _ _ => rfl⟩ (fun q e => by cases e), HI.out.2.drewN _⟩
        case done =>
          intro D xs W4 hD4 hxs hi hK4
          subst hxs
          obtain ⟨hi1, hi2⟩ := hi
          rw [List.attach_map_subtype_val, selM_lines HVW.out hpl HPT.out] at hi2
          obtain ⟨tq, tj⟩ := t
          have HI := hid hi1; have HI2 := hid hi2; have HK4 := hid hK4
          obtain ⟨n0, n1, nf0, nf1⟩ := hi2.cells
          obtain ⟨b0, b1, b2, b3⟩ := hi1.out.cells
          obtain ⟨t0, t1, t2, t3⟩ := hi1.at_.cells
          clear hi1 hi2 hK4 hcap e0 e1 e2 e3 r0 r1 r2 r3 q0 q1 cw
          obtain ⟨i0, hi, hz0, hz1, hz2⟩ := info_parts info64
          obtain ⟨m1, m2, m3⟩ := pick_pl HVW.out HT.out hpl HPK.out
          have hq : I64 (tq : Int) ∧ I64 (tj : Int) := by
            have h5 := HVW.out.1
            rcases m2.cases with h | ⟨h, h2⟩
            · obtain ⟨rfl, rfl⟩ := Prod.mk.inj h
              unfold I64; omega
            · have := (HVW.out.2 _ h).2.1
              dsimp only at h h2 this
              unfold I64; omega
          have hrl := rem_lt HVW.out hpl m1 m2
          have HQ := hid hq; have HM2 := hid m2; have HM3 := hid m3; have HRL := hid hrl
          have htl : (toI ends).length = ends.length := by simp [toI]
          have HTLn := hid htl
          have hs2 := HI.out.s2
          have hs3 := HI.out.s3
          clear hq m1 m2 m3 hrl htl
          gi_wp2_with (gi_at_builtin; refine wpListIn_append_at (w := W4) pairR Any (w3.heap.size + 1) rfl _ _ 27 rfl 64 i0 _ 16 Try.underlying27 hi hz0 hz1 hz2 rfl (by decide) _ _ rfl HI.out.bld _ _ [.int .i64 tq, .int .i64 tj] ((tq : Int), (tj : Int)) rfl ⟨[_], [_], rfl, ⟨rfl, HQ.out.1⟩, ⟨rfl, HQ.out.2⟩⟩ (by rw [HTLn.out]; omega) (by rw [HTLn.out]; omega) (by have := HI.out.out.lt; omega) rfl ?_ rfl; intro g cp w4 hB4 hg4 hg5 hg6; have HB4 := hid hB4; have HG4 := hid hg4; rw [HTLn.out]; have ho4 : Box2 30 w4 w3.heap.size (.slice va ln vc) (.slice ra K.length rc) := heap_grown hg4 HI.out.out (fun e => by have := (HI.out.bld.lt _ e).1; omega); have ha4 : PairBox 64 w4 (w2.heap.size + 1) (p, i) := heap_grown hg4 HI.out.at_ (fun e => by have := (HI.out.bld.lt _ e).1; omega); have hne4 : (Value.slice va ln vc).ownBlock ≠ some W.heap.size := fun e => by { obtain ⟨o, h1, h2⟩ := HFL.out.bld.obj _ e; have := (HF.out.bld.lt _ e).2; omega }; have hx4 : PairBox 64 w4 W.heap.size (tq, tj) := heap_grown hg4 HI2.out hne4; obtain ⟨y0, y1, y2, y3⟩ := (ho4.set0 (.slice (some ⟨g, 0, none⟩) (ends.length + 1) cp)).cells; obtain ⟨c0, c1, c2, c3⟩ := ho4.cells; obtain ⟨v0, v1, v2, v3⟩ := (ha4.other (a := ⟨w3.heap.size, 0, none⟩) (.slice (some ⟨g, 0, none⟩) (ends.length + 1) cp) (by show w2.heap.size + 1 ≠ w3.heap.size; omega)).cells; obtain ⟨x0, x1, x2, x3⟩ := (hx4.other (a := ⟨w3.heap.size, 0, none⟩) (.slice (some ⟨g, 0, none⟩) (ends.length + 1) cp) (by show W.heap.size ≠ w3.heap.size; omega)).cells; clear hB4 hg4 ho4 ha4 hx4 hne4)
          have hDD : ∀ D' ∈ Ds, D' < D := fun D' hd => Nat.lt_of_lt_of_le (Array.getElem?_eq_some_iff.1 (HFL.out.marks D' hd).2).1 hD4
          have hfm : Fst w W4 w2.heap.size w3.heap.size r width X T K (p, i) ends (.slice va ln vc) (.slice ra K.length rc) (D :: Ds) := { HI.out with
            nodup := List.nodup_cons.2 ⟨fun hd => Nat.lt_irrefl _ (hDD D hd), HI.out.nodup⟩
            marks := fun D' hd => by
              rcases List.mem_cons.1 hd with rfl | hd
              · exact ⟨by omega, HK4.out⟩
              · exact HI.out.marks D' hd }
          have hb5 := HB4.out
          rw [HTLn.out] at hb5
          have hst := hfm.step (q := (tq, tj)) HG4.out hb5
          refine ⟨⟨(tq, tj), ends ++ [(tq, tj)], _, D :: Ds, _, _, _, _, _, _, _, _, _, _, _, _, _, _, _, _, _, _, _, _, _, _, _, _, _, _, _, _, _, _, _, _, _, _, _, _, _, _, _, _, _, _, _, _, _, _, _, _, _, _, _, _, _, _, _, _, _, _, _, _, _, _, _, _, _, _, _, _, _, _, _, _, _, _, _, _, _, _, _, _, _, _, _, _, _, _, _, _, _, _, _, _, _, _, HM2.out, HM3.out, fun r hr => ?_, ?_, hst, rfl⟩, ?_⟩
          · rw [List.append_assoc]
            exact HEnds.out ((tq, tj) :: r) ⟨hpl, ⟨bb, HPK.out⟩, hr⟩
          · have := HRL.out
            rw [List.length_append, List.length_singleton]; omega
          · rw [atOf_eq hst.at_, atOf_eq HF.out.at_]
            exact HRL.out
        case stop =>
          intro D c pre W4 _ _ h _
          exact h.elim
  · rw [Bool.not_eq_true] at hv
    rw [hv] at hVal
    have HV := hid hv; have HVal := hid hVal
    clear hv hVal hX
    refine callsIn_of_wp_marks Try.func13 rfl (hO.fn _) ?_ rfl
    simp only [Try.ntmps13, List.size_toArray, List.length_cons, List.length_nil, Nat.reduceAdd, Nat.reduceSub, Array.replicate_succ, Array.replicate_zero, List.push_toArray, List.append_toArray, List.nil_append, List.cons_append]
    gi_wp2_with (gi_at_call 37; refine (hO.calls (HVal.out _ (by repeat (first | exact Below.refl _ _ | refine Below.alloc ?_ (by simp) _)))).mono ?_; rintro e w1 ⟨rfl, x1⟩; have HX1 := hid (Ext.then (Ext.then (Ext.alloc _ _) (Ext.alloc _ _)) x1); have kw := x1.cell ((Ext.alloc _ (.cells #[.slice none 0 0, .slice none 0 0] 30)).cell (cell_alloc0 w #[.int .i64 width] 3 0 rfl)); have HB1 := hid ((Box2.new (t := 30) (w.alloc (.cells #[.int .i64 width] 3)) (.slice none 0 0) (.slice none 0 0) (by simp : w.heap.size + 1 = _)).ext x1); clear x1; obtain ⟨p0, p1, p2, p3⟩ := HB1.out.cells)
    obtain ⟨z0, z1, -, -⟩ := ((HB1.out.set0 (.slice none 0 0)).set1 (.slice none 0 0)).cells
    refine ⟨.tuple #[nilCert, .int .i64 1], by simp [results, Try.results13, go_sem, nilCert, z0, z1], ?_, .inl ⟨HV.out, rfl⟩⟩
    refine Below.setCell (Below.setCell HX1.out ?_ _) ?_ _ <;> simp
end Go.Proofs.Ytehelanfgepcmaa
