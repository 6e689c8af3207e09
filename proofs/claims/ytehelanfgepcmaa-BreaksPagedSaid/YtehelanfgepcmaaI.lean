import Derived.Test.YtehelanfgepcmaaH
import Derived.Deep.LoopGhost
set_option linter.unusedSimpArgs false
set_option linter.unusedVariables false
set_option linter.unusedSectionVars false
namespace Go.Proofs.Ytehelanfgepcmaa
open Go.RowKit Dac

theorem PairBox.new' {t : TypeId} (w : World) (x y : Int) {B : Nat} (hB : B = w.heap.size) : PairBox t (w.alloc (.cells #[.int .i64 x, .int .i64 y] t)) B (x, y) := by subst hB; exact PairBox.new w x y
/-- The local variables of Least that lie in memory, from block B on. -/
structure LBox (w : World) (B : Nat) (f at_ to : Nat × Nat) (n : Nat) : Prop where
  f : PairBox 64 w B (f.1, f.2)
  r : PairBox 64 w (B + 1) (0, 0)
  e : PairBox 64 w (B + 2) (n, 0)
  a : PairBox 64 w (B + 3) (at_.1, at_.2)
  t : PairBox 64 w (B + 4) (to.1, to.2)
theorem LBox.ext {w w' : World} {B : Nat} {f at_ to : Nat × Nat} {n : Nat} (h : LBox w B f at_ to n) (hx : Ext w w') : LBox w' B f at_ to n :=
  ⟨h.f.ext hx, h.r.ext hx, h.e.ext hx, h.a.ext hx, h.t.ext hx⟩
theorem LBox.setTo {w : World} {B : Nat} {f at_ to : Nat × Nat} {n : Nat} (h : LBox w B f at_ to n) (x y : Nat) :
    LBox ((w.setCell ⟨B + 4, 0, none⟩ (.int .i64 x)).setCell ⟨B + 4, 1, none⟩ (.int .i64 y)) B f at_ (x, y) n :=
  ⟨(h.f.other _ (by simp)).other _ (by simp), (h.r.other _ (by simp)).other _ (by simp), (h.e.other _ (by simp)).other _ (by simp), (h.a.other _ (by simp)).other _ (by simp), h.t.set _ _⟩
theorem LBox.setAt {w : World} {B : Nat} {f at_ to : Nat × Nat} {n : Nat} (h : LBox w B f at_ to n) (x y : Nat) :
    LBox ((w.setCell ⟨B + 3, 0, none⟩ (.int .i64 x)).setCell ⟨B + 3, 1, none⟩ (.int .i64 y)) B f (x, y) to n :=
  ⟨(h.f.other _ (by simp)).other _ (by simp), (h.r.other _ (by simp)).other _ (by simp), (h.e.other _ (by simp)).other _ (by simp), h.a.set _ _, (h.t.other _ (by simp)).other _ (by simp)⟩

/-- The cells on the way to an element of a table of costs. -/
theorem k_cells {w : World} {kv : Value} {X : List (List (List Int))} {K : List (List Int)} (hK : rowsR.rd w Any [kv] K) (hKl : K.length = X.length ∧ ∀ p (h : p < X.length) (h2 : p < K.length), K[p].length = X[p].length) {t : Nat × Nat} (ht : Pl X t) :
    ∃ kb ko kc k2 k3 kc2 N, kv = .slice (some ⟨kb, ko, none⟩) K.length kc ∧ t.1 < K.length ∧ K.length ≤ 9223372036854775807 ∧ w.cell? ⟨kb, ko + t.1, none⟩ = some (.slice (some ⟨k2, k3, none⟩) N kc2) ∧
      t.2 < N ∧ N ≤ 9223372036854775807 ∧ w.cell? ⟨k2, k3 + t.2, none⟩ = some (.int .i64 (kAt K t)) := by
  obtain ⟨h1, h2⟩ := ht
  have h3 : t.1 < K.length := by rw [hKl.1]; exact h1
  have h4 : t.2 < K[t.1].length := by rw [hKl.2 _ h1 h3]; exact h2
  obtain ⟨kb, ko, kc, rfl, l1, e1⟩ := rows_ne hK (by omega)
  obtain ⟨a2, c2, hc, r2, _⟩ := e1 _ h3
  obtain ⟨k2, k3, kc2, hv, l2, e2⟩ := ints_ne r2 (by omega)
  rw [hv] at hc
  refine ⟨kb, ko, kc, k2, k3, kc2, K[t.1].length, rfl, h3, l1, hc, h4, l2, ?_⟩
  rw [(e2 _ h4).2]
  simp [kAt, h3, h4]

set_option maxHeartbeats 2000000 in
theorem Least_ok (v kv : Value) (X : List (List (List Int))) (K : List (List Int)) (width : Int) (f : Nat × Nat) (w : World) (hX : wordsR.rd w Any [v] X) (hV : VW X) (hw0 : 1 ≤ width ∧ width ≤ 512)
    (hK : rowsR.rd w Any [kv] K) (hKl : K.length = X.length ∧ ∀ p (h : p < X.length) (h2 : p < K.length), K[p].length = X[p].length) (hf : Pl X f) :
    Calls Try.prog 44 #[v, .int .i64 width, kv, .agg #[.int .i64 f.1, .int .i64 f.2]] w (Ret w (.tuple #[.int .i64 (leastL X width K f).1, pairA (leastL X width K f).2])) := by
  obtain ⟨p, i⟩ := f
  have hR : leastGo X width K (p, i) (rem X (p, i)) (p, i) (-1) (p, i) = leastL X width K (p, i) := rfl
  generalize leastL X width K (p, i) = R at *
  obtain ⟨b, o, cap, rfl, l2, -⟩ := rows_ne hX (by obtain ⟨h, _⟩ := hf; omega)
  obtain ⟨R1, R2, R3⟩ := R
  unfold pairA
  have HX := hid hX; clear hX
  have HK := hid hK; clear hK
  have HV := hid hV; clear hV
  have HF := hid hf; clear hf
  have HR := hid hR; clear hR
  have HL := hid hKl; clear hKl
  go_enter Try.func44, Try.ntmps44
  go_wp2
  go_loopg [11] (rem X (p, i)) (fun gk u wr => ∃ (to at_ : Nat × Nat) (best : Int), En X to ∧ ((p, i) = to ∨ Lt (p, i) to) ∧ rem X to = gk ∧ u = .int .i64 best ∧ leastGo X width K (p, i) gk to best at_ = (R1, R2, R3) ∧ Below w.heap.size w wr ∧ LBox wr w.heap.size (p, i) at_ to X.length)
  case atStart =>
    refine ⟨(p, i), (p, i), -1, .inr HF.out, .inl rfl, rfl, rfl, HR.out, ?_, ?_⟩
    · repeat (first | exact Below.refl _ _ | refine Below.alloc ?_ (by simp; try omega) _)
    · refine ⟨?_, ?_, ?_, ?_, ?_⟩
      · exact ((((PairBox.new' w _ _ rfl).ext (Ext.alloc _ _)).ext (Ext.alloc _ _)).ext (Ext.alloc _ _)).ext (Ext.alloc _ _)
      · exact (((PairBox.new' _ _ _ (by simp)).ext (Ext.alloc _ _)).ext (Ext.alloc _ _)).ext (Ext.alloc _ _)
      · exact ((PairBox.new' _ _ _ (by simp)).ext (Ext.alloc _ _)).ext (Ext.alloc _ _)
      · exact (PairBox.new' _ _ _ (by simp)).ext (Ext.alloc _ _)
      · exact PairBox.new' _ _ _ (by simp)
  case round =>
    obtain ⟨⟨q, j⟩, ⟨aq, aj⟩, best, he, hlt, hg, rfl, hgo, hw, hb⟩ := hrel
    obtain ⟨f0, f1, f2, f3⟩ := hb.f.cells
    obtain ⟨e0, e1, -, -⟩ := hb.e.cells
    obtain ⟨t0, t1, t2, t3⟩ := hb.t.cells
    by_cases hend : (q, j) = endP X
    · obtain ⟨rfl, rfl⟩ := Prod.mk.inj hend
      obtain rfl : gk = 0 := by rw [← hg, rem_end]
      obtain ⟨rfl, hgo2⟩ := Prod.mk.inj hgo
      obtain ⟨rfl, rfl⟩ := Prod.mk.inj hgo2
      obtain ⟨a0, a1, -, -⟩ := hb.a.cells
      obtain ⟨r0, r1, r2, r3⟩ := hb.r.cells
      have hneq := fun W => neq_pair isPair X.length 0 X.length 0 W
      simp only [show ((0 : Nat) : Int) = 0 from rfl, beq_self_eq_true, Bool.and_self, Bool.not_true] at *
      have HW := hid hw; clear hw
      have HB := hid hb; clear hb
      clear he hlt hg hgo hgo2 hend f0 f1 f2 f3
      go_wp2
      go_region
      all_goals
        go_wp2
        obtain ⟨z0, z1, -, -⟩ := (HB.out.r.set aq aj).cells
        refine bodyPost_ret (v := .tuple #[.int .i64 best, .agg #[.int .i64 aq, .int .i64 aj]]) (by simp [results, Try.results44, go_sem, z0, z1]) rfl ⟨rfl, ?_⟩
        refine Below.setCell (Below.setCell (Below.drew HW.out) ?_ _) ?_ _ <;> first | (simp; done) | (simp; omega)
    · have hpl : Pl X (q, j) := by
        rcases he with h | h
        · exact absurd (Prod.ext h.1 h.2) hend
        · exact h
      have hneq1 : ((q : Int) == X.length && (j : Int) == 0) = false := by
        rw [Bool.eq_false_iff]; intro h; simp at h; exact hend (Prod.ext (by simp; omega) h.2)
      have hneq := fun W => neq_pair isPair q j X.length 0 W
      simp only [hneq1, Bool.not_false] at hneq
      clear hneq1
      obtain ⟨hn1, hn2, hn3⟩ := next_ok HV.out hpl
      have hnx := fun W (hx : Ext w W) => Next_ok _ X q j W (Rdr.ext _ HX.out hx) hpl.1 hpl.2
      have hlt2 : Lt (p, i) (next X (q, j)) := by
        rcases hlt with h | h
        · rw [h]; exact hn2
        · exact h.trans hn2
      have hsz := fun W (hx : Ext w W) => Size_ok _ X p i (next X (q, j)).1 (next X (q, j)).2 W (Rdr.ext _ HX.out hx) HV.out HF.out.1 HF.out.2 hlt2 hn1
      have hpr := fun W (hx : Ext w W) => Price_ok _ X width (p, i) (next X (q, j)) W (Rdr.ext _ HX.out hx) HV.out hw0 HF.out hlt2 hn1
      obtain ⟨m, rfl⟩ : ∃ m, gk = m + 1 := ⟨rem X (next X (q, j)), by omega⟩
      have hgm : rem X (next X (q, j)) = m := by omega
      rw [leastGo] at hgo
      unfold pairA at hnx hpr
      have hkat := fun (h : Pl X (next X (q, j))) => k_cells HK.out HL.out h
      generalize next X (q, j) = t at *
      obtain ⟨tq, tj⟩ := t
      generalize sizeL X (p, i) (tq, tj) = sz at *
      generalize priceL X width (p, i) (tq, tj) = pr at *
      have heneq := fun W => neq_pair isPair tq tj X.length 0 W
      have HN := hid hnx; have HS := hid hsz; have HP := hid hpr; have HW := hid hw; have HB := hid hb
      clear hnx hsz hpr hw hb hn2 hn3 hpl he hlt hg hend
      dsimp only at hgo hkat
      by_cases c1 : width < sz
      · rw [if_pos c1] at hgo
        have HG := hid hgo; clear hgo hkat heneq
        go_wp2_with (first | (go_at_call 33; refine (HN.out _ HW.out).mono ?_; rintro e w1 ⟨rfl, x1⟩; have HB1 := hid (HB.out.ext x1); have HW1 := hid (below_ext HW.out x1 HW.out.size); have m1 := x1.size; clear x1; obtain ⟨p0, p1, p2, p3⟩ := HB1.out.t.cells; obtain ⟨p4, p5, -, -⟩ := HB1.out.f.cells) | (go_at_call 35; refine (HS.out _ (by refine Below.setCell (Below.setCell HW1.out ?_ _) ?_ _ <;> first | (simp; done) | (simp; omega))).mono ?_; rintro e w2 ⟨rfl, x2⟩; have HB2 := hid ((HB1.out.setTo tq tj).ext x2); have HW2 := hid (below_ext (Below.setCell (Below.setCell HW1.out (p := ⟨w.heap.size + 4, 0, none⟩) (by simp) _) (p := ⟨w.heap.size + 4, 1, none⟩) (by simp) _) x2 (by have := HW1.out.size; simp; omega)); clear x2; obtain ⟨q0, q1, q2, q3⟩ := HB2.out.t.cells; obtain ⟨q4, q5, -, -⟩ := HB2.out.f.cells; obtain ⟨q6, q7, -, -⟩ := HB2.out.e.cells; obtain ⟨q8, q9, q10, q11⟩ := HB2.out.a.cells) | (go_at_call 50; refine (HP.out _ HW2.out).mono ?_; rintro e w3 ⟨rfl, x3⟩; have HB3 := hid ((HB2.out).ext x3); have HW3 := hid (below_ext HW2.out x3 (by have := HW2.out.size; simp; omega)); clear x3; obtain ⟨z0, z1, z2, z3⟩ := HB3.out.t.cells; obtain ⟨z8, z9, z10, z11⟩ := HB3.out.a.cells))
        go_roundg m
        case measure => omega
        case rel => exact ⟨(tq, tj), (aq, aj), best, hn1, .inr hlt2, hgm, by go_num, HG.out, HW2.out, HB2.out⟩
      · rw [if_neg c1] at hgo
        by_cases c2 : (tq, tj) = endP X
        · obtain ⟨rfl, rfl⟩ := Prod.mk.inj c2
          rw [if_pos rfl, if_neg (by omega), Int.zero_add] at hgo
          simp only [show ((0 : Nat) : Int) = 0 from rfl, beq_self_eq_true, Bool.and_self, Bool.not_true] at heneq
          clear c2 hkat
          by_cases b1 : best < 0
          · rw [if_pos (.inl b1)] at hgo
            have HG := hid hgo; clear hgo
            go_wp2_with (first | (go_at_call 33; refine (HN.out _ HW.out).mono ?_; rintro e w1 ⟨rfl, x1⟩; have HB1 := hid (HB.out.ext x1); have HW1 := hid (below_ext HW.out x1 HW.out.size); have m1 := x1.size; clear x1; obtain ⟨p0, p1, p2, p3⟩ := HB1.out.t.cells; obtain ⟨p4, p5, -, -⟩ := HB1.out.f.cells) | (go_at_call 35; refine (HS.out _ (by refine Below.setCell (Below.setCell HW1.out ?_ _) ?_ _ <;> first | (simp; done) | (simp; omega))).mono ?_; rintro e w2 ⟨rfl, x2⟩; have HB2 := hid ((HB1.out.setTo X.length 0).ext x2); have HW2 := hid (below_ext (Below.setCell (Below.setCell HW1.out (p := ⟨w.heap.size + 4, 0, none⟩) (by simp) _) (p := ⟨w.heap.size + 4, 1, none⟩) (by simp) _) x2 (by have := HW1.out.size; simp; omega)); clear x2; obtain ⟨q0, q1, q2, q3⟩ := HB2.out.t.cells; obtain ⟨q4, q5, -, -⟩ := HB2.out.f.cells; obtain ⟨q6, q7, -, -⟩ := HB2.out.e.cells; obtain ⟨q8, q9, q10, q11⟩ := HB2.out.a.cells) | (go_at_call 50; refine (HP.out _ HW2.out).mono ?_; rintro e w3 ⟨rfl, x3⟩; have HB3 := hid ((HB2.out).ext x3); have HW3 := hid (below_ext HW2.out x3 (by have := HW2.out.size; simp; omega)); clear x3; obtain ⟨z0, z1, z2, z3⟩ := HB3.out.t.cells; obtain ⟨z8, z9, z10, z11⟩ := HB3.out.a.cells))
            go_roundg m
            case measure => omega
            case rel => exact ⟨(X.length, 0), (X.length, 0), _, hn1, .inr hlt2, hgm, by go_num, HG.out, (by refine Below.setCell (Below.setCell HW3.out ?_ _) ?_ _ <;> first | (simp; done) | (simp; omega)), (HB3.out.setAt X.length 0)⟩
          · by_cases b2 : wrap64 pr ≤ best
            · rw [if_pos (.inr b2)] at hgo
              have HG := hid hgo; clear hgo
              go_wp2_with (first | (go_at_call 33; refine (HN.out _ HW.out).mono ?_; rintro e w1 ⟨rfl, x1⟩; have HB1 := hid (HB.out.ext x1); have HW1 := hid (below_ext HW.out x1 HW.out.size); have m1 := x1.size; clear x1; obtain ⟨p0, p1, p2, p3⟩ := HB1.out.t.cells; obtain ⟨p4, p5, -, -⟩ := HB1.out.f.cells) | (go_at_call 35; refine (HS.out _ (by refine Below.setCell (Below.setCell HW1.out ?_ _) ?_ _ <;> first | (simp; done) | (simp; omega))).mono ?_; rintro e w2 ⟨rfl, x2⟩; have HB2 := hid ((HB1.out.setTo X.length 0).ext x2); have HW2 := hid (below_ext (Below.setCell (Below.setCell HW1.out (p := ⟨w.heap.size + 4, 0, none⟩) (by simp) _) (p := ⟨w.heap.size + 4, 1, none⟩) (by simp) _) x2 (by have := HW1.out.size; simp; omega)); clear x2; obtain ⟨q0, q1, q2, q3⟩ := HB2.out.t.cells; obtain ⟨q4, q5, -, -⟩ := HB2.out.f.cells; obtain ⟨q6, q7, -, -⟩ := HB2.out.e.cells; obtain ⟨q8, q9, q10, q11⟩ := HB2.out.a.cells) | (go_at_call 50; refine (HP.out _ HW2.out).mono ?_; rintro e w3 ⟨rfl, x3⟩; have HB3 := hid ((HB2.out).ext x3); have HW3 := hid (below_ext HW2.out x3 (by have := HW2.out.size; simp; omega)); clear x3; obtain ⟨z0, z1, z2, z3⟩ := HB3.out.t.cells; obtain ⟨z8, z9, z10, z11⟩ := HB3.out.a.cells))
              go_roundg m
              case measure => omega
              case rel => exact ⟨(X.length, 0), (X.length, 0), _, hn1, .inr hlt2, hgm, by go_num, HG.out, (by refine Below.setCell (Below.setCell HW3.out ?_ _) ?_ _ <;> first | (simp; done) | (simp; omega)), (HB3.out.setAt X.length 0)⟩
            · rw [if_neg (by intro h; rcases h with h | h; exact b1 h; exact b2 h)] at hgo
              have HG := hid hgo; clear hgo
              go_wp2_with (first | (go_at_call 33; refine (HN.out _ HW.out).mono ?_; rintro e w1 ⟨rfl, x1⟩; have HB1 := hid (HB.out.ext x1); have HW1 := hid (below_ext HW.out x1 HW.out.size); have m1 := x1.size; clear x1; obtain ⟨p0, p1, p2, p3⟩ := HB1.out.t.cells; obtain ⟨p4, p5, -, -⟩ := HB1.out.f.cells) | (go_at_call 35; refine (HS.out _ (by refine Below.setCell (Below.setCell HW1.out ?_ _) ?_ _ <;> first | (simp; done) | (simp; omega))).mono ?_; rintro e w2 ⟨rfl, x2⟩; have HB2 := hid ((HB1.out.setTo X.length 0).ext x2); have HW2 := hid (below_ext (Below.setCell (Below.setCell HW1.out (p := ⟨w.heap.size + 4, 0, none⟩) (by simp) _) (p := ⟨w.heap.size + 4, 1, none⟩) (by simp) _) x2 (by have := HW1.out.size; simp; omega)); clear x2; obtain ⟨q0, q1, q2, q3⟩ := HB2.out.t.cells; obtain ⟨q4, q5, -, -⟩ := HB2.out.f.cells; obtain ⟨q6, q7, -, -⟩ := HB2.out.e.cells; obtain ⟨q8, q9, q10, q11⟩ := HB2.out.a.cells) | (go_at_call 50; refine (HP.out _ HW2.out).mono ?_; rintro e w3 ⟨rfl, x3⟩; have HB3 := hid ((HB2.out).ext x3); have HW3 := hid (below_ext HW2.out x3 (by have := HW2.out.size; simp; omega)); clear x3; obtain ⟨z0, z1, z2, z3⟩ := HB3.out.t.cells; obtain ⟨z8, z9, z10, z11⟩ := HB3.out.a.cells))
              go_roundg m
              case measure => omega
              case rel => exact ⟨(X.length, 0), (aq, aj), best, hn1, .inr hlt2, hgm, by go_num, HG.out, HW3.out, HB3.out⟩
        · rw [if_neg c2] at hgo
          have hpt : Pl X (tq, tj) := by
            rcases hn1 with h | h
            · exact absurd (Prod.ext h.1 h.2) c2
            · exact h
          have hne1 : ((tq : Int) == X.length && (tj : Int) == 0) = false := by
            rw [Bool.eq_false_iff]; intro h; simp at h; exact c2 (Prod.ext (by simp; omega) h.2)
          simp only [hne1, Bool.not_false] at heneq
          clear hne1 c2
          obtain ⟨kb, ko, kc, kk2, kk3, kc2, N, rfl, n1, n2, k1, n3, n4, k2⟩ := hkat hpt
          generalize kAt K (tq, tj) = c at *
          try dsimp only at k1 k2 n1 n3
          clear hkat hpt
          by_cases c3 : c < 0
          · rw [if_pos c3] at hgo
            have HG := hid hgo; clear hgo
            go_wp2_with (first | (go_at_call 33; refine (HN.out _ HW.out).mono ?_; rintro e w1 ⟨rfl, x1⟩; have HB1 := hid (HB.out.ext x1); have HW1 := hid (below_ext HW.out x1 HW.out.size); have m1 := x1.size; clear x1; obtain ⟨p0, p1, p2, p3⟩ := HB1.out.t.cells; obtain ⟨p4, p5, -, -⟩ := HB1.out.f.cells) | (go_at_call 35; refine (HS.out _ (by refine Below.setCell (Below.setCell HW1.out ?_ _) ?_ _ <;> first | (simp; done) | (simp; omega))).mono ?_; rintro e w2 ⟨rfl, x2⟩; have HB2 := hid ((HB1.out.setTo tq tj).ext x2); have HW2 := hid (below_ext (Below.setCell (Below.setCell HW1.out (p := ⟨w.heap.size + 4, 0, none⟩) (by simp) _) (p := ⟨w.heap.size + 4, 1, none⟩) (by simp) _) x2 (by have := HW1.out.size; simp; omega)); clear x2; obtain ⟨q0, q1, q2, q3⟩ := HB2.out.t.cells; obtain ⟨q4, q5, -, -⟩ := HB2.out.f.cells; obtain ⟨q6, q7, -, -⟩ := HB2.out.e.cells; obtain ⟨q8, q9, q10, q11⟩ := HB2.out.a.cells; have y1 := Ext.cell HW2.out k1; have y2 := Ext.cell HW2.out k2))
            go_quiet (fail)
            go_wp2
            go_roundg m
            case measure => omega
            case rel => exact ⟨(tq, tj), (aq, aj), best, hn1, .inr hlt2, hgm, by go_num, HG.out, (below_dn HW2.out _), (HB2.out.ext (Ext.drewN _ _))⟩
          · rw [if_neg c3] at hgo
            by_cases b1 : best < 0
            · rw [if_pos (.inl b1)] at hgo
              have HG := hid hgo; clear hgo
              go_wp2_with (first | (go_at_call 33; refine (HN.out _ HW.out).mono ?_; rintro e w1 ⟨rfl, x1⟩; have HB1 := hid (HB.out.ext x1); have HW1 := hid (below_ext HW.out x1 HW.out.size); have m1 := x1.size; clear x1; obtain ⟨p0, p1, p2, p3⟩ := HB1.out.t.cells; obtain ⟨p4, p5, -, -⟩ := HB1.out.f.cells) | (go_at_call 35; refine (HS.out _ (by refine Below.setCell (Below.setCell HW1.out ?_ _) ?_ _ <;> first | (simp; done) | (simp; omega))).mono ?_; rintro e w2 ⟨rfl, x2⟩; have HB2 := hid ((HB1.out.setTo tq tj).ext x2); have HW2 := hid (below_ext (Below.setCell (Below.setCell HW1.out (p := ⟨w.heap.size + 4, 0, none⟩) (by simp) _) (p := ⟨w.heap.size + 4, 1, none⟩) (by simp) _) x2 (by have := HW1.out.size; simp; omega)); clear x2; obtain ⟨q0, q1, q2, q3⟩ := HB2.out.t.cells; obtain ⟨q4, q5, -, -⟩ := HB2.out.f.cells; obtain ⟨q6, q7, -, -⟩ := HB2.out.e.cells; obtain ⟨q8, q9, q10, q11⟩ := HB2.out.a.cells; have y1 := Ext.cell HW2.out k1; have y2 := Ext.cell HW2.out k2))
              go_quiet (fail)
              go_wp2_with (go_at_call 50; refine (HP.out _ (below_dn HW2.out _)).mono ?_; rintro e w3 ⟨rfl, x3⟩; have HB3 := hid ((LBox.ext HB2.out (Ext.drewN _ _)).ext x3); have HW3 := hid (below_ext (below_dn HW2.out _) x3 (by have := HW2.out.size; simp; omega)); clear x3; obtain ⟨z0, z1, z2, z3⟩ := HB3.out.t.cells; obtain ⟨z8, z9, z10, z11⟩ := HB3.out.a.cells)
              go_roundg m
              case measure => omega
              case rel => exact ⟨(tq, tj), (tq, tj), _, hn1, .inr hlt2, hgm, by go_num, HG.out, (by refine Below.setCell (Below.setCell HW3.out ?_ _) ?_ _ <;> first | (simp; done) | (simp; omega)), (HB3.out.setAt tq tj)⟩
            · by_cases b2 : wrap64 (c + pr) ≤ best
              · rw [if_pos (.inr b2)] at hgo
                have HG := hid hgo; clear hgo
                go_wp2_with (first | (go_at_call 33; refine (HN.out _ HW.out).mono ?_; rintro e w1 ⟨rfl, x1⟩; have HB1 := hid (HB.out.ext x1); have HW1 := hid (below_ext HW.out x1 HW.out.size); have m1 := x1.size; clear x1; obtain ⟨p0, p1, p2, p3⟩ := HB1.out.t.cells; obtain ⟨p4, p5, -, -⟩ := HB1.out.f.cells) | (go_at_call 35; refine (HS.out _ (by refine Below.setCell (Below.setCell HW1.out ?_ _) ?_ _ <;> first | (simp; done) | (simp; omega))).mono ?_; rintro e w2 ⟨rfl, x2⟩; have HB2 := hid ((HB1.out.setTo tq tj).ext x2); have HW2 := hid (below_ext (Below.setCell (Below.setCell HW1.out (p := ⟨w.heap.size + 4, 0, none⟩) (by simp) _) (p := ⟨w.heap.size + 4, 1, none⟩) (by simp) _) x2 (by have := HW1.out.size; simp; omega)); clear x2; obtain ⟨q0, q1, q2, q3⟩ := HB2.out.t.cells; obtain ⟨q4, q5, -, -⟩ := HB2.out.f.cells; obtain ⟨q6, q7, -, -⟩ := HB2.out.e.cells; obtain ⟨q8, q9, q10, q11⟩ := HB2.out.a.cells; have y1 := Ext.cell HW2.out k1; have y2 := Ext.cell HW2.out k2))
                go_quiet (fail)
                go_wp2_with (go_at_call 50; refine (HP.out _ (below_dn HW2.out _)).mono ?_; rintro e w3 ⟨rfl, x3⟩; have HB3 := hid ((LBox.ext HB2.out (Ext.drewN _ _)).ext x3); have HW3 := hid (below_ext (below_dn HW2.out _) x3 (by have := HW2.out.size; simp; omega)); clear x3; obtain ⟨z0, z1, z2, z3⟩ := HB3.out.t.cells; obtain ⟨z8, z9, z10, z11⟩ := HB3.out.a.cells)
                go_roundg m
                case measure => omega
                case rel => exact ⟨(tq, tj), (tq, tj), _, hn1, .inr hlt2, hgm, by go_num, HG.out, (by refine Below.setCell (Below.setCell HW3.out ?_ _) ?_ _ <;> first | (simp; done) | (simp; omega)), (HB3.out.setAt tq tj)⟩
              · rw [if_neg (by intro h; rcases h with h | h; exact b1 h; exact b2 h)] at hgo
                have HG := hid hgo; clear hgo
                go_wp2_with (first | (go_at_call 33; refine (HN.out _ HW.out).mono ?_; rintro e w1 ⟨rfl, x1⟩; have HB1 := hid (HB.out.ext x1); have HW1 := hid (below_ext HW.out x1 HW.out.size); have m1 := x1.size; clear x1; obtain ⟨p0, p1, p2, p3⟩ := HB1.out.t.cells; obtain ⟨p4, p5, -, -⟩ := HB1.out.f.cells) | (go_at_call 35; refine (HS.out _ (by refine Below.setCell (Below.setCell HW1.out ?_ _) ?_ _ <;> first | (simp; done) | (simp; omega))).mono ?_; rintro e w2 ⟨rfl, x2⟩; have HB2 := hid ((HB1.out.setTo tq tj).ext x2); have HW2 := hid (below_ext (Below.setCell (Below.setCell HW1.out (p := ⟨w.heap.size + 4, 0, none⟩) (by simp) _) (p := ⟨w.heap.size + 4, 1, none⟩) (by simp) _) x2 (by have := HW1.out.size; simp; omega)); clear x2; obtain ⟨q0, q1, q2, q3⟩ := HB2.out.t.cells; obtain ⟨q4, q5, -, -⟩ := HB2.out.f.cells; obtain ⟨q6, q7, -, -⟩ := HB2.out.e.cells; obtain ⟨q8, q9, q10, q11⟩ := HB2.out.a.cells; have y1 := Ext.cell HW2.out k1; have y2 := Ext.cell HW2.out k2))
                go_quiet (fail)
                go_wp2_with (go_at_call 50; refine (HP.out _ (below_dn HW2.out _)).mono ?_; rintro e w3 ⟨rfl, x3⟩; have HB3 := hid ((LBox.ext HB2.out (Ext.drewN _ _)).ext x3); have HW3 := hid (below_ext (below_dn HW2.out _) x3 (by have := HW2.out.size; simp; omega)); clear x3; obtain ⟨z0, z1, z2, z3⟩ := HB3.out.t.cells; obtain ⟨z8, z9, z10, z11⟩ := HB3.out.a.cells)
                go_roundg m
                case measure => omega
                case rel => exact ⟨(tq, tj), (aq, aj), best, hn1, .inr hlt2, hgm, by go_num, HG.out, HW3.out, HB3.out⟩
end Go.Proofs.Ytehelanfgepcmaa
