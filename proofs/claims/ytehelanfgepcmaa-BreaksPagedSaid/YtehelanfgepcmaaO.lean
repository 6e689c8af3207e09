import Derived.Test.YtehelanfgepcmaaN
set_option linter.unusedSimpArgs false
set_option linter.unusedVariables false
set_option linter.unusedSectionVars false
namespace Dac
open Go Go.RowKit
theorem Rdr.slice_v {α : Type} {R : Rdr α} {w : World} {F : Nat → Prop} {v : Value} {xs : List α} (h : R.slice.rd w F [v] xs) : ∃ ad cap, v = .slice ad xs.length cap := by
  obtain ⟨ad, cap, hv, _⟩ := h; exact ⟨ad, cap, by simpa using hv⟩
/-- Block b holds two cells, not frozen. -/
def Box2 (t : TypeId) (w : World) (b : Nat) (x y : Value) : Prop := w.heap[b]? = some (.cells #[x, y] t (0, 0))
theorem Box2.cells {t : TypeId} {w : World} {b : Nat} {x y : Value} (h : Box2 t w b x y) : w.cell? ⟨b, 0, none⟩ = some x ∧ w.cell? ⟨b, 1, none⟩ = some y ∧ w.frozen? ⟨b, 0, none⟩ = false ∧ w.frozen? ⟨b, 1, none⟩ = false := by
  unfold Box2 at h
  refine ⟨?_, ?_, ?_, ?_⟩ <;> simp [World.cell?, World.frozen?, h]
theorem Box2.lt {t : TypeId} {w : World} {b : Nat} {x y : Value} (h : Box2 t w b x y) : b < w.heap.size := (Array.getElem?_eq_some_iff.1 h).1
theorem Box2.ext {t : TypeId} {w w' : World} {b : Nat} {x y : Value} (h : Box2 t w b x y) (hx : Ext w w') : Box2 t w' b x y := (hx.block b h.lt).trans h
theorem Box2.other {t : TypeId} {w : World} {b : Nat} {x y : Value} (h : Box2 t w b x y) {a : Addr} (v : Value) (hb : b ≠ a.block) : Box2 t (w.setCell a v) b x y :=
  (Below.heap_setCell w a v b hb).trans h
theorem Box2.grown {t : TypeId} {w w' : World} {b : Nat} {x y : Value} {row : Option Nat} (h : Box2 t w b x y) (hg : w.grownBy w' row) (hb : some b ≠ row) : Box2 t w' b x y :=
  (hg.block b h.lt hb).trans h
theorem Box2.new {t : TypeId} (w : World) (x y : Value) {B : Nat} (hB : B = w.heap.size) : Box2 t (w.alloc (.cells #[x, y] t)) B x y := by subst hB; exact heap_alloc_new w _
/-- A store, as a change of one row. -/
theorem grownBy_setCell (w : World) (a : Addr) (v : Value) : w.grownBy (w.setCell a v) (some a.block) :=
  ⟨rfl, rfl, rfl, by simp [World.setCell], fun k _ hne => Below.heap_setCell w a v k (fun e => hne (by rw [e]))⟩
/-- Elements that meet no memory stay whatever is written elsewhere. -/
theorem Bld.free {α : Type} {R : Rdr α} (hR : ∀ {w w' F G cs x}, R.rd w F cs x → R.rd w' G cs x) {F : Nat → Prop} {w w' : World} {B : Nat} {e : TypeId} {v : Value} {xs : List α} {row : Option Nat} (h : Bld R F w B e v xs) (hg : w.grownBy w' row) (hne : ∀ k, v.ownBlock = some k → some k ≠ row) : Bld R F w' B e v xs := by
  obtain ⟨us, ho, hr⟩ := h
  refine ⟨us, ho.kept hg ?_, fun i hi => hR (hr i hi)⟩
  cases hv : v.ownBlock with
  | none => exact .inl rfl
  | some k => exact .inr (hne k hv)
theorem Bld.refoot {α : Type} {R : Rdr α} (hR : ∀ {w w' F G cs x}, R.rd w F cs x → R.rd w' G cs x) {F G : Nat → Prop} {w : World} {B : Nat} {e : TypeId} {v : Value} {xs : List α} (h : Bld R F w B e v xs) : Bld R G w B e v xs := by
  obtain ⟨us, ho, hr⟩ := h
  exact ⟨us, ho, fun i hi => hR (hr i hi)⟩
theorem pairR_free : ∀ {w w' : World} {F G : Nat → Prop} {cs : List Value} {x : Int × Int}, pairR.rd w F cs x → pairR.rd w' G cs x := fun h => h
theorem intR_free : ∀ {w w' : World} {F G : Nat → Prop} {cs : List Value} {x : Int}, intR.rd w F cs x → intR.rd w' G cs x := fun h => h
theorem boolR_free : ∀ {w w' : World} {F G : Nat → Prop} {cs : List Value} {x : Bool}, boolR.rd w F cs x → boolR.rd w' G cs x := fun h => h
theorem Box2.set0 {t : TypeId} {w : World} {b : Nat} {x y : Value} (h : Box2 t w b x y) (v : Value) : Box2 t (w.setCell ⟨b, 0, none⟩ v) b v y := heap_setCell_same w b 0 _ t _ v h
theorem Box2.set1 {t : TypeId} {w : World} {b : Nat} {x y : Value} (h : Box2 t w b x y) (v : Value) : Box2 t (w.setCell ⟨b, 1, none⟩ v) b x v := heap_setCell_same w b 1 _ t _ v h
end Dac
namespace Go.Proofs.Ytehelanfgepcmaa
open Go.RowKit Dac

/-- Places as pairs of ints. -/
def toI (l : List Place) : List (Int × Int) := l.map fun p => ((p.1 : Int), (p.2 : Int))
def nilCert : Value := .agg #[.slice none 0 0, .slice none 0 0]
/-- What both Fills return. -/
def FillQ (X : List (List (List Int))) (width : Int) (w : World) (e : Ending) (w' : World) : Prop :=
  Ext w w' ∧ ((validB X width = false ∧ e = .returned (.tuple #[nilCert, .int .i64 1])) ∨
    (validB X width = true ∧ ∃ K, IsTab X width K ∧ ((0 < X.length ∧ kAt K (0, 0) < 0 ∧ e = .returned (.tuple #[nilCert, .int .i64 14])) ∨
      (∃ ends ve vl, IsEnds X width K (0, 0) ends ∧ e = .returned (.tuple #[.agg #[ve, vl], .int .i64 0]) ∧ pairR.slice.rd w' (fun k => w.heap.size ≤ k) [ve] (toI ends) ∧ rowsR.rd w' (fun k => w.heap.size ≤ k) [vl] K))))

theorem toI_snoc (l : List Place) (p : Place) : toI (l ++ [p]) = toI l ++ [((p.1 : Int), (p.2 : Int))] := by simp [toI]

theorem pick_pl {X : List (List (List Int))} {width : Int} {K : List (List Int)} (hV : VW X) (hT : IsTab X width K) {f t : Place} {b : Int} (hf : Pl X f) (h : pick X width (tOf X K) f = some (b, t)) : Lt f t ∧ En X t ∧ (Pl X t → 0 ≤ kAt K t) := by
  obtain ⟨h1, h2, c, h3, _⟩ := pick_mem h
  obtain ⟨h4, h5⟩ := lat_mem hV hf t h1
  refine ⟨h4, h5, fun hp => ?_⟩
  unfold tOf at h3
  split at h3
  · rename_i e; obtain ⟨a, _⟩ := hp; rw [e] at a; simp at a
  · split at h3
    · cases h3
    · omega

set_option maxRecDepth 100000 in
set_option maxHeartbeats 4000000 in
theorem RefFill_ok (v : Value) (X : List (List (List Int))) (width : Int) (w : World) (hX : wordsR.rd w Any [v] X) (hwi : I64 width) :
    Calls Try.prog 15 #[v, .int .i64 width] w (FillQ X width w) := by
  obtain ⟨ad, cap, rfl, l1, l2, el⟩ := rows hX
  unfold maxLen at l2
  have hVal := fun W (h : Ext w W) => toRet (Valid_ok _ X width W (Rdr.ext _ hX h) hwi)
  by_cases hv : validB X width = true
  · obtain ⟨hV, hw⟩ := validB_VW hv
    rw [hv] at hVal
    have hTab := fun W (h : Ext w W) => Table_ok _ X width W (Rdr.ext _ hX h) hV hw
    have hT := tableL_tab hV hw
    have hS := hT.1
    generalize tableL X width = K at *
    have HV := hid hv; have HVW := hid hV; have HT := hid hT; have HVal := hid hVal; have HTab := hid hTab; have HS := hid hS
    have HX := hid hX; have HW := hid hw
    clear hv hV hT hVal hTab hS el hX hw
    by_cases hX0 : X.length = 0
    · obtain rfl : X = [] := List.eq_nil_of_length_eq_zero hX0
      have heq := fun W => neq_pair isPair 0 0 0 0 W
      simp only [beq_self_eq_true, Bool.and_self, Bool.not_true] at heq
      clear hX0
      go_enter Try.func15, Try.ntmps15
      go_wp2_with (first
        | (go_at_call 42; refine (HVal.out _ (by repeat (first | exact Below.refl _ _ | refine Below.alloc ?_ (by simp) _))).mono ?_; rintro e w1 ⟨rfl, x1⟩; have HX1 := hid ((Ext.alloc _ _).then x1); have HB1 := hid ((Box2.new (t := 36) w (.slice none 0 0) (.slice none 0 0) rfl).ext x1); have hs1 := x1.size; clear x1; obtain ⟨p0, p1, p2, p3⟩ := HB1.out.cells)
        | (go_at_call 43; refine (HTab.out _ HX1.out).mono ?_; rintro e w2 ⟨r, gs, rfl, x2, hG⟩; have HX2 := hid (HX1.out.then x2); have HR2 := hid hG.read; have HB2 := hid (HB1.out.ext x2); obtain ⟨ra, rc, rfl⟩ := Rdr.slice_v hG.read; have HB3 := hid ((HB2.out.ext (Ext.alloc _ (.cells #[.slice none 0 0, .slice ra K.length rc] 36))).ext (Ext.alloc _ (.cells #[.int .i64 0, .int .i64 0] 64))); obtain ⟨q0, q1, q2, q3⟩ := HB3.out.cells; clear x2 hG))
      refine wp_loop_rounds 1 ?_; rw [rounds_succ]
      go_wp2
      obtain ⟨z0, z1, -, -⟩ := ((HB3.out.set0 (.slice none 0 0)).set1 (.slice ra K.length rc)).cells
      refine bodyPost_ret (v := .tuple #[.agg #[.slice none 0 0, .slice ra K.length rc], .int .i64 0]) (by simp [results, Try.results15, go_sem, z0, z1]) rfl ⟨?_, .inr ⟨HV.out, K, HT.out, .inr ⟨[], _, _, rfl, rfl, ⟨none, 0, rfl, by simp [toI], by simp, fun i hi => absurd hi (by simp [toI])⟩, ?_⟩⟩⟩
      · refine Below.setCell (Below.setCell (below_ext HX2.out ((Ext.alloc _ _).then (Ext.alloc _ _)) HX2.out.size) ?_ _) ?_ _ <;> simp
      · refine Rdr.stay _ HR2.out fun k hk hl => ⟨?_, (by have := HX1.out.size; omega)⟩
        have hne : k ≠ w.heap.size := by have := HB1.out.lt; omega
        rw [Below.heap_setCell _ _ _ _ hne, Below.heap_setCell _ _ _ _ hne, heap_alloc_old _ _ (by simp; omega), heap_alloc_old _ _ hl]
    · have hp0 : 0 < X.length := by omega
      have hpl0 : Pl X (0, 0) := ⟨hp0, (HVW.out.2 0 hp0).1⟩
      by_cases hk0 : kAt K (0, 0) < 0
      · go_enter Try.func15, Try.ntmps15
        go_wp2_with (first
          | (go_at_call 42; refine (HVal.out _ (by repeat (first | exact Below.refl _ _ | refine Below.alloc ?_ (by simp) _))).mono ?_; rintro e w1 ⟨rfl, x1⟩; have HX1 := hid ((Ext.alloc _ _).then x1); have HB1 := hid ((Box2.new (t := 36) w (.slice none 0 0) (.slice none 0 0) rfl).ext x1); have hs1 := x1.size; clear x1; obtain ⟨p0, p1, p2, p3⟩ := HB1.out.cells)
          | (go_at_call 43; refine (HTab.out _ HX1.out).mono ?_; rintro e w2 ⟨r, gs, rfl, x2, hG⟩; have HX2 := hid (HX1.out.then x2); have HR2 := hid hG.read; have HB2 := hid (HB1.out.ext x2); obtain ⟨kb, ko, kc, k2, k3, kc2, N, rfl, n1, n2, c1, n3, n4, c2⟩ := k_cells (Rdr.any _ hG.read) HS.out hpl0; have j0 := (HB2.out.ext (Ext.alloc _ (.cells #[.slice none 0 0, .slice (some ⟨kb, ko, none⟩) K.length kc] 36))).cells; obtain ⟨q0, q1, q2, q3⟩ := j0; have d1 := (Ext.alloc w2 (.cells #[.slice none 0 0, .slice (some ⟨kb, ko, none⟩) K.length kc] 36)).cell c1; have d2 := (Ext.alloc w2 (.cells #[.slice none 0 0, .slice (some ⟨kb, ko, none⟩) K.length kc] 36)).cell c2; rw [Nat.add_zero] at d1 d2; have HG2 := hid hG; clear x2 hG c1 c2))
        have HZ := hid (HB2.out.ext (Ext.alloc _ (.cells #[.slice none 0 0, .slice (some ⟨kb, ko, none⟩) K.length kc] 36)))
        obtain ⟨z0, z1, -, -⟩ := ((HZ.out.set0 (.slice none 0 0)).set1 (.slice none 0 0)).cells
        refine bodyPost_ret (v := .tuple #[nilCert, .int .i64 14]) (by simp [results, Try.results15, go_sem, nilCert, z0, z1]) rfl ⟨?_, .inr ⟨HV.out, K, HT.out, .inl ⟨hp0, hk0, rfl⟩⟩⟩
        refine Below.setCell (Below.setCell (below_ext HX2.out (Ext.alloc _ _) HX2.out.size) ?_ _) ?_ _ <;> simp
      · go_enter Try.func15, Try.ntmps15
        go_wp2_with (first
          | (go_at_call 42; refine (HVal.out _ (by repeat (first | exact Below.refl _ _ | refine Below.alloc ?_ (by simp) _))).mono ?_; rintro e w1 ⟨rfl, x1⟩; have HX1 := hid ((Ext.alloc _ _).then x1); have HB1 := hid ((Box2.new (t := 36) w (.slice none 0 0) (.slice none 0 0) rfl).ext x1); have hs1 := x1.size; clear x1; obtain ⟨p0, p1, p2, p3⟩ := HB1.out.cells)
          | (go_at_call 43; refine (HTab.out _ HX1.out).mono ?_; rintro e w2 ⟨r, gs, rfl, x2, hG⟩; have HX2 := hid (HX1.out.then x2); have HR2 := hid hG.read; have HB2 := hid (HB1.out.ext x2); obtain ⟨kb, ko, kc, k2, k3, kc2, N, rfl, n1, n2, c1, n3, n4, c2⟩ := k_cells (Rdr.any _ hG.read) HS.out hpl0; have j0 := (HB2.out.ext (Ext.alloc _ (.cells #[.slice none 0 0, .slice (some ⟨kb, ko, none⟩) K.length kc] 36))).cells; obtain ⟨q0, q1, q2, q3⟩ := j0; have d1 := (Ext.alloc w2 (.cells #[.slice none 0 0, .slice (some ⟨kb, ko, none⟩) K.length kc] 36)).cell c1; have d2 := (Ext.alloc w2 (.cells #[.slice none 0 0, .slice (some ⟨kb, ko, none⟩) K.length kc] 36)).cell c2; rw [Nat.add_zero] at d1 d2; have HG2 := hid hG; clear x2 hG c1 c2))
        go_loopg [] (rem X (0, 0)) (fun gk wr => ∃ (p : Place) (ends : List Place) (ve : Value), En X p ∧ rem X p = gk ∧ (Pl X p → 0 ≤ kAt K p) ∧ (∀ r, IsEnds X width K p r → IsEnds X width K (0, 0) (ends ++ r)) ∧ ends.length + gk ≤ 8192 ∧ Ext w2 wr ∧ Box2 36 wr w2.heap.size ve (.slice (some ⟨kb, ko, none⟩) K.length kc) ∧ PairBox 64 wr (w2.heap.size + 1) (p.1, p.2) ∧ Bld pairR Any wr (w2.heap.size + 2) 64 ve (toI ends))
        case atStart =>
          refine ⟨(0, 0), [], .slice none 0 0, .inr hpl0, rfl, fun _ => by omega, fun r h => h, ?_, (Ext.alloc _ _).then (Ext.alloc _ _), ?_, ?_, Bld.nil _ _ _ _ _⟩
          · have := rem_le HVW.out (0, 0); simpa using this
          · exact (Box2.new _ _ _ rfl).ext (Ext.alloc _ _)
          · exact PairBox.new' _ _ _ (by simp)
        case round =>
          obtain ⟨⟨p, i⟩, ends, ve, he, hg, hk, hends, hlen, hx, hb, ht, hB⟩ := hrel
          obtain ⟨t0, t1, t2, t3⟩ := ht.cells
          obtain ⟨b0, b1, b2, b3⟩ := hb.cells
          have HK2 := hid hk; have HE := hid hends; have HX3 := hid hx; have HCB := hid hb; have HPB := hid ht; have HBl := hid hB
          clear hk hends hx hb ht hB d1 d2 q0 q1 q2 q3 p0 p1 p2 p3
          by_cases hend : (p, i) = endP X
          · obtain ⟨rfl, rfl⟩ := Prod.mk.inj hend
            have hneq := fun W => neq_pair isPair X.length 0 X.length 0 W
            simp only [show ((0 : Nat) : Int) = 0 from rfl, beq_self_eq_true, Bool.and_self, Bool.not_true] at *
            have HR := hid (HB2.out.ext HX3.out)
            obtain ⟨r0, r1, r2, r3⟩ := HR.out.cells
            clear he hg hend hlen
            have hv : ∃ va vl vc, ve = .slice va vl vc := by
              obtain ⟨a, c, h⟩ := Rdr.slice_v (HBl.out.read (G := Any) (fun _ _ => trivial) (fun _ _ => trivial))
              exact ⟨a, _, c, h⟩
            obtain ⟨va, vl, vc, rfl⟩ := hv
            go_wp2
            obtain ⟨z0, z1, -, -⟩ := ((HR.out.set0 (.slice va vl vc)).set1 (.slice (some ⟨kb, ko, none⟩) K.length kc)).cells
            have hends := HE.out [] rfl
            rw [List.append_nil] at hends
            have hlt := HB1.out.lt
            refine bodyPost_ret (v := .tuple #[.agg #[.slice va vl vc, .slice (some ⟨kb, ko, none⟩) K.length kc], .int .i64 0]) (by simp [results, Try.results15, go_sem, z0, z1]) rfl ⟨?_, .inr ⟨HV.out, K, HT.out, .inr ⟨ends, _, _, hends, rfl, ?_, ?_⟩⟩⟩
            · refine Below.setCell (Below.setCell (below_ext HX2.out HX3.out HX2.out.size) ?_ _) ?_ _ <;> simp
            · have hrd := (Bld.refoot pairR_free (G := fun k => w2.heap.size ≤ k) HBl.out).read (G := fun k => w2.heap.size ≤ k) (fun k hk => by have := (HBl.out.lt k hk).1; omega) (fun _ h => h)
              refine Rdr.stay _ hrd fun k hk hl => ⟨?_, (by have := HX2.out.size; omega)⟩
              have hne : k ≠ w.heap.size := by have := HB2.out.lt; omega
              rw [Below.heap_setCell _ _ _ _ hne, Below.heap_setCell _ _ _ _ hne]
            · refine Rdr.stay _ (Rdr.ext _ HR2.out HX3.out) fun k hk hl => ⟨?_, (by have := HX1.out.size; omega)⟩
              have hne : k ≠ w.heap.size := by omega
              rw [Below.heap_setCell _ _ _ _ hne, Below.heap_setCell _ _ _ _ hne]
          · have hpl : Pl X (p, i) := he.cases.resolve_left hend
            have hneq1 : ((p : Int) == X.length && (i : Int) == 0) = false := by
              rw [Bool.eq_false_iff]; intro h; simp at h; exact hend (Prod.ext (by simp; omega) h.2)
            have hneq := fun W => neq_pair isPair p i X.length 0 W
            simp only [hneq1, Bool.not_false] at hneq
            clear hneq1
            have hkk := HK2.out hpl
            rw [HT.out.2 _ hpl] at hkk
            obtain ⟨bb, t, hpk⟩ : ∃ bb t, pick X width (tOf X K) (p, i) = some (bb, t) := by
              cases h : pick X width (tOf X K) (p, i) with
              | none => rw [h] at hkk; simp [encB] at hkk
              | some x => exact ⟨x.1, x.2, rfl⟩
            have hLe := leastL_pick HVW.out HW.out hpl (HT.out.Bd HVW.out HW.out (p, i))
            rw [hpk] at hLe
            obtain ⟨tq, tj⟩ := t
            simp only [encB, encA] at hLe
            obtain ⟨m1, m2, m3⟩ := pick_pl HVW.out HT.out hpl hpk
            have hrl := rem_lt HVW.out hpl m1 m2
            have hL := fun W (hx : Ext wr W) => Least_ok _ (.slice (some ⟨kb, ko, none⟩) K.length kc) X K width (p, i) W (Rdr.ext _ HX.out (HX2.out.then (HX3.out.then hx))) HVW.out HW.out (Rdr.ext _ (Rdr.any _ HR2.out) (HX3.out.then hx)) HS.out hpl
            rw [hLe] at hL
            have hq : I64 (tq : Int) ∧ I64 (tj : Int) := by
              have h5 := HVW.out.1
              rcases m2.cases with h | ⟨h, h2⟩
              · obtain ⟨rfl, rfl⟩ := Prod.mk.inj h
                unfold I64; omega
              · have := (HVW.out.2 _ h).2.1
                dsimp only at h h2 this
                unfold I64; omega
            have HL := hid hL; have HQ := hid hq; have HPK := hid hpk; have HM := hid m3; have HM2 := hid m2; have HRL := hid hrl
            have htl : (toI ends).length = ends.length := by simp [toI]
            have HTL := hid htl
            have hv : ∃ va vl vc, ve = .slice va vl vc := by
              obtain ⟨a, c, h⟩ := Rdr.slice_v (HBl.out.read (G := Any) (fun _ _ => trivial) (fun _ _ => trivial))
              exact ⟨a, _, c, h⟩
            obtain ⟨va, vl, vc, rfl⟩ := hv
            clear hL hq hpk m3 m2 hrl htl hLe hkk m1 he
            unfold pairA at HL
            obtain ⟨i0, hi, hz0, hz1, hz2⟩ := info_parts info64
            go_wp2_with (first
              | (go_at_call 44; refine (HL.out _ (Below.refl _ _)).mono ?_; rintro e w3 ⟨rfl, x3⟩; have X3 := hid x3; clear x3; have HP3 := hid (HPB.out.ext X3.out); have HC3 := hid (HCB.out.ext X3.out); obtain ⟨u0, u1, u2, u3⟩ := HP3.out.cells; obtain ⟨v0, v1, v2, v3⟩ := HC3.out.cells; have HB3 := hid (Bld.free pairR_free (Bld.free pairR_free (HBl.out.ext X3.out) (grownBy_setCell _ ⟨w2.heap.size + 1, 0, none⟩ (.int .i64 tq)) (fun k hk e => by have := (HBl.out.lt k hk).1; simp at e; omega)) (grownBy_setCell _ ⟨w2.heap.size + 1, 1, none⟩ (.int .i64 tj)) (fun k hk e => by have := (HBl.out.lt k hk).1; simp at e; omega)); have hs3 := X3.out.size)
              | (at_builtin; refine wpList_append_at (w := (w3.setCell ⟨w2.heap.size + 1, 0, none⟩ (.int .i64 tq)).setCell ⟨w2.heap.size + 1, 1, none⟩ (.int .i64 tj)) pairR Any (w2.heap.size + 2) rfl _ _ 27 rfl 64 i0 _ 16 Try.underlying27 hi hz0 hz1 hz2 rfl (by decide) _ _ rfl HB3.out _ _ [.int .i64 tq, .int .i64 tj] ((tq : Int), (tj : Int)) rfl ⟨[_], [_], rfl, ⟨rfl, HQ.out.1⟩, ⟨rfl, HQ.out.2⟩⟩ (by rw [HTL.out]; omega) (by rw [HTL.out]; omega) (by have := HPB.out.lt; simp; omega) (by simp) ?_ rfl; intro g cp w4 hB4 hg4 hg5 hg6; rw [HTL.out] at hB4 ⊢; have HB4 := hid hB4; have HG4 := hid hg4; clear hB4 hg4; have HC4 := hid (Box2.grown ((HC3.out.other (a := ⟨w2.heap.size + 1, 0, none⟩) (.int .i64 tq) (by simp)).other (a := ⟨w2.heap.size + 1, 1, none⟩) (.int .i64 tj) (by simp)) HG4.out (fun e => by have := (HBl.out.lt _ e.symm).1; omega)); obtain ⟨y0, y1, y2, y3⟩ := HC4.out.cells))
            have hHR := HRL.out
            go_roundg (rem X (tq, tj))
            case measure => omega
            case rel =>
              refine ⟨(tq, tj), ends ++ [(tq, tj)], .slice (some ⟨g, 0, none⟩) (ends.length + 1) cp, HM2.out, rfl, HM.out, fun r hr => ?_, ?_, ?_, ?_, ?_, ?_⟩
              · rw [List.append_assoc]
                exact HE.out ((tq, tj) :: r) ⟨hpl, ⟨bb, HPK.out⟩, hr⟩
              · rw [List.length_append, List.length_singleton]; omega
              · refine Below.setCell (Below.grown (Below.setCell (Below.setCell (HX3.out.then X3.out) ?_ _) ?_ _) HG4.out ?_ ?_) ?_ _
                · simp
                · simp
                · have := HX3.out.size; have := X3.out.size; simp; omega
                · intro k hk; have := (HBl.out.lt k hk).1; omega
                · simp
              · exact HC4.out.set0 _
              · refine PairBox.other ?_ _ (by simp)
                have h1 := HP3.out.set tq tj
                exact (HG4.out.block _ h1.lt (fun e => by have := (HBl.out.lt _ e.symm).1; omega)).trans h1
              · rw [toI_snoc]
                exact Bld.free pairR_free HB4.out (grownBy_setCell _ _ _) (fun k hk e => by simp [Value.ownBlock] at hk; simp at e; omega)
  · rw [Bool.not_eq_true] at hv
    rw [hv] at hVal
    have HV := hid hv; have HVal := hid hVal
    clear hv hVal el hX
    go_enter Try.func15, Try.ntmps15
    go_wp2_with (go_at_call 42; refine (HVal.out _ (by repeat (first | exact Below.refl _ _ | refine Below.alloc ?_ (by simp) _))).mono ?_; rintro e w1 ⟨rfl, x1⟩; have HX1 := hid ((Ext.alloc _ _).then x1); have HB1 := hid ((Box2.new (t := 36) w (.slice none 0 0) (.slice none 0 0) rfl).ext x1); clear x1; obtain ⟨p0, p1, p2, p3⟩ := HB1.out.cells)
    obtain ⟨z0, z1, -, -⟩ := ((HB1.out.set0 (.slice none 0 0)).set1 (.slice none 0 0)).cells
    refine bodyPost_ret (v := .tuple #[nilCert, .int .i64 1]) (by simp [results, Try.results15, go_sem, nilCert, z0, z1]) rfl ⟨?_, .inl ⟨HV.out, rfl⟩⟩
    refine Below.setCell (Below.setCell HX1.out ?_ _) ?_ _ <;> simp
end Go.Proofs.Ytehelanfgepcmaa
