/- Both Fills, by contract. -/
import Derived.Test.YtehelanfgepcmaaZ
import Derived.Test.YtehelanfgepcmaaPc
set_option linter.unusedSimpArgs false
set_option linter.unusedVariables false
set_option linter.unusedSectionVars false
namespace Dak
open Go Go.RowKit
/-- What a contract hands over, as the old readings have it. -/
theorem rd_of_TR {α : Type} (R : Dac.Rdr α) (enc : α → AV) {w : World} {F : Nat → Prop} {v : Value} {xs : List α} (h : TR w F (.list R.size (xs.map enc)) v)
    (hE : ∀ x ∈ xs, ∀ es : List Value, es.length = (enc x).cells.length → (∀ j (h1 : j < (enc x).cells.length) (h2 : j < es.length), TR w F (enc x).cells[j] es[j]) → R.rd w Dac.Any es x) : R.slice.rd w Dac.Any [v] xs := by
  generalize hL : AV.list R.size (xs.map enc) = A at h
  cases h with
  | nolist size ad cap hc =>
    injection hL with h1 h2
    obtain rfl : xs = [] := by simpa using h2
    exact ⟨ad, cap, rfl, Nat.zero_le _, hc, fun i hi => absurd hi (by simp)⟩
  | list size ys b o cap us hF hb hn hm hs hc h1 hr =>
    injection hL with e1 e2
    subst e1; subst e2
    simp only [List.length_map] at hn ⊢
    refine ⟨_, cap, rfl, hn, hm, fun i hi => ?_⟩
    have hi' : i < (xs.map enc).length := by simpa using hi
    have hsz := hs i hi'
    have hr' := hr i hi'
    simp only [List.getElem_map] at hsz hr'
    refine ⟨b, o, (List.range R.size).map (us i), rfl, trivial, hb, hE _ (List.getElem_mem hi) _ (by simp [hsz]) fun j h2 h3 => ?_, fun j u hu => ?_⟩
    · simp only [List.getElem_map, List.getElem_range]
      exact hr' j h2
    · rw [List.getElem?_map] at hu
      rcases hj : (List.range R.size)[j]? with _ | k
      · rw [hj] at hu; cases hu
      · rw [hj] at hu
        obtain ⟨h5, h6⟩ := List.getElem?_eq_some_iff.1 hj
        simp only [List.getElem_range] at h6
        simp only [List.length_range] at h5
        subst h6
        simp only [Option.map_some, Option.some.injEq] at hu
        subst hu
        exact hc i j hi' h5
  | _ => cases hL
/-- And back. -/
theorem TR_of_rd {α : Type} (R : Dac.Rdr α) (enc : α → AV) {w : World} {G : Nat → Prop} {v : Value} {xs : List α} (h : R.slice.rd w G [v] xs)
    (hE : ∀ x ∈ xs, ∀ es : List Value, R.rd w G es x → (enc x).cells.length = R.size ∧ ∀ j (h1 : j < (enc x).cells.length) (h2 : j < es.length), TR w G (enc x).cells[j] es[j]) : TR w G (.list R.size (xs.map enc)) v := by
  obtain ⟨ad, cap, hv, hn, hm, hel⟩ := h
  obtain rfl : v = _ := by simpa using hv
  by_cases h0 : xs = []
  · subst h0; exact .nolist _ _ _ hm
  · have hp : 0 < xs.length := List.length_pos_iff.2 h0
    obtain ⟨b, o, _, rfl, hF, hb, _, _⟩ := hel 0 hp
    have hel' : ∀ i (h : i < xs.length), ∃ es, R.rd w G es xs[i] ∧ ∀ j u, es[j]? = some u → w.cell? ⟨b, o + i * R.size + j, none⟩ = some u := by
      intro i hi
      obtain ⟨b', o', es, e, _, _, h1, h2⟩ := hel i hi
      simp only [Option.some.injEq, Addr.mk.injEq] at e
      obtain ⟨rfl, rfl, _⟩ := e
      exact ⟨es, h1, h2⟩
    let es : Nat → List Value := fun i => if h : i < xs.length then Classical.choose (hel' i h) else []
    have hes : ∀ i (h : i < xs.length), R.rd w G (es i) xs[i] ∧ ∀ j u, (es i)[j]? = some u → w.cell? ⟨b, o + i * R.size + j, none⟩ = some u := by
      intro i hi
      simp only [es, hi, dif_pos]
      exact Classical.choose_spec (hel' i hi)
    have hlen : ∀ i (h : i < xs.length), (es i).length = R.size := fun i hi => R.len (hes i hi).1
    have key : ∀ i j, i < xs.length → (hj : j < R.size) → ∃ u, (es i)[j]? = some u ∧ (es i).getD j undef = u := by
      intro i j hi hj
      have : j < (es i).length := by rw [hlen i hi]; exact hj
      exact ⟨(es i)[j], List.getElem?_eq_getElem this, by rw [List.getD_eq_getElem?_getD, List.getElem?_eq_getElem this]; rfl⟩
    have := TR.list (w := w) (F := G) R.size (xs.map enc) b o cap (fun i j => (es i).getD j undef) hF hb (by simpa using hn) hm
      (fun i hi => by
        have hi' : i < xs.length := by simpa using hi
        simp only [List.getElem_map]
        exact (hE _ (List.getElem_mem hi') _ (hes i hi').1).1)
      (fun i j hi hj => by
        have hi' : i < xs.length := by simpa using hi
        obtain ⟨u, h1, h2⟩ := key i j hi' hj
        rw [h2]
        exact (hes i hi').2 j u h1)
      (fun i j hi hj => by
        have hi' : i < xs.length := by simpa using hi
        obtain ⟨u, h1, h2⟩ := key i j hi' hj
        rw [h2]
        exact R.one (hes i hi').1 u (List.mem_of_getElem? h1))
      (fun i hi j hj => by
        have hi' : i < xs.length := by simpa using hi
        simp only [List.getElem_map] at hj ⊢
        have h3 := hE _ (List.getElem_mem hi') _ (hes i hi').1
        obtain ⟨u, h1, h2⟩ := key i j hi' (by rw [← h3.1]; exact hj)
        obtain ⟨h4, h5⟩ := List.getElem?_eq_some_iff.1 h1
        rw [h2, ← h5]
        exact h3.2 j hj h4)
    simpa using this
end Dak
namespace Go.Proofs.Ytehelanfgepcmaa
open Go.RowKit Dak
def I64s (l : List Int) : Prop := ∀ n ∈ l, I64 n
theorem rd_ints {w : World} {F : Nat → Prop} {v : Value} {l : List Int} (h : TR w F (vints l) v) (hl : I64s l) : Dac.intR.slice.rd w Dac.Any [v] l := by
  refine rd_of_TR Dac.intR vi h fun x hx es he hr => ?_
  match es, he with
  | [u], _ =>
    have e : u = .int .i64 x := (hr 0 (by simp [AV.cells]) (by simp)).val_inv
    exact ⟨by rw [e], hl x hx⟩
theorem rd_rows {w : World} {F : Nat → Prop} {v : Value} {l : List (List Int)} (h : TR w F (vrows l) v) (hl : ∀ r ∈ l, I64s r) : Dac.rowsR.rd w Dac.Any [v] l := by
  refine rd_of_TR Dac.intR.slice vints h fun x hx es he hr => ?_
  match es, he with
  | [u], _ => exact rd_ints (hr 0 (by simp [AV.cells]) (by simp)) (hl x hx)
theorem rd_words {w : World} {F : Nat → Prop} {v : Value} {l : List (List (List Int))} (h : TR w F (vwords l) v) (hl : ∀ x ∈ l, ∀ r ∈ x, I64s r) : Dac.wordsR.rd w Dac.Any [v] l := by
  refine rd_of_TR Dac.rowsR vword h fun x hx es he hr => ?_
  match es, he with
  | [u], _ => exact rd_rows (hr 0 (by simp [AV.cells]) (by simp)) (hl x hx)
theorem tr_ints {w : World} {G : Nat → Prop} {v : Value} {l : List Int} (h : Dac.intR.slice.rd w G [v] l) : TR w G (vints l) v := by
  refine TR_of_rd Dac.intR vi h fun x hx es he => ⟨rfl, fun j h1 h2 => ?_⟩
  obtain ⟨rfl, _⟩ := he
  match j, h1 with
  | 0, _ => exact .val _
theorem tr_rows {w : World} {G : Nat → Prop} {v : Value} {l : List (List Int)} (h : Dac.rowsR.rd w G [v] l) : TR w G (vrows l) v := by
  refine TR_of_rd Dac.intR.slice vints h fun x hx es he => ⟨rfl, fun j h1 h2 => ?_⟩
  have hlen := Dac.intR.slice.len he
  match es, hlen with
  | [u], _ =>
    match j, h1 with
    | 0, _ => exact tr_ints he
theorem tr_pairs {w : World} {G : Nat → Prop} {v : Value} {l : List (Int × Int)} (h : Dac.pairR.slice.rd w G [v] l) : TR w G (vpairs l) v := by
  refine TR_of_rd Dac.pairR vpair h fun x hx es he => ⟨rfl, fun j h1 h2 => ?_⟩
  obtain ⟨c1, c2, rfl, ⟨rfl, _⟩, ⟨rfl, _⟩⟩ := he
  match j, h1 with
  | 0, _ => exact .val _
  | 1, _ => exact .val _

/-- The ends of the lines of the best division. -/
def endsGo (X : List (List (List Int))) (width : Int) (K : List (List Int)) : Nat → Place → List Place
  | 0, _ => []
  | n + 1, f => if f = endP X then [] else match pick X width (tOf X K) f with
    | some (_, t) => t :: endsGo X width K n t
    | none => []
theorem endsGo_ok {X : List (List (List Int))} {width : Int} {K : List (List Int)} : ∀ (n : Nat) (f : Place) (r : List Place), IsEnds X width K f r → r.length ≤ n → endsGo X width K n f = r
  | 0, f, [], _, _ => rfl
  | n + 1, f, [], h, _ => by rw [endsGo, if_pos (show f = endP X from h)]
  | n + 1, f, t :: r, ⟨h1, ⟨b, h2⟩, h3⟩, hl => by
    rw [endsGo, if_neg (fun e => by rw [e] at h1; exact absurd h1.1 (by simp)), h2]
    dsimp only
    rw [endsGo_ok n t r h3 (by simpa using hl)]
theorem ends_len {X : List (List (List Int))} {width : Int} {K : List (List Int)} (hV : VW X) (hT : IsTab X width K) : ∀ (r : List Place) (f : Place), IsEnds X width K f r → r.length ≤ rem X f
  | [], f, _ => Nat.zero_le _
  | t :: r, f, ⟨h1, ⟨b, h2⟩, h3⟩ => by
    have h4 := ends_len hV hT r t h3
    obtain ⟨m1, m2, _⟩ := pick_pl hV hT h1 h2
    have := rem_lt hV h1 m1 m2
    simp only [List.length_cons]; omega

/-- What Fill returns: the error, the ends and the table. -/
def fillM (X : List (List (List Int))) (width : Int) : Int × List (Int × Int) × List (List Int) :=
  if validB X width then
    let K := tableL X width
    if 0 < X.length ∧ kAt K (0, 0) < 0 then (14, [], []) else (0, toI (endsGo X width K (rem X (0, 0)) (0, 0)), K)
  else (1, [], [])
abbrev vcert (c : List (Int × Int) × List (List Int)) : AV := .agg [vpairs c.1, vrows c.2]
abbrev fillV (m : Int × List (Int × Int) × List (List Int)) : AV := .tup [vcert m.2, vi m.1]

theorem fill_of {X : List (List (List Int))} {width : Int} {w : World} {F : Nat → Prop} {e : Ending} {w' : World} (h : FillQ X width w e w') : ∃ v, e = .returned v ∧ Ext w w' ∧ TR w' (fun b => F b ∨ (w.heap.size ≤ b)) (fillV (fillM X width)) v := by
  obtain ⟨hx, h⟩ := h
  have nil : ∀ n : Int, TR w' (fun b => F b ∨ (w.heap.size ≤ b)) (fillV (n, [], [])) (.tuple #[nilCert, .int .i64 n]) := by
    intro n
    refine .tup _ _ rfl fun i h1 h2 => ?_
    match i, h1 with
    | 0, _ =>
      refine .agg _ _ rfl (fun i hi => ?_) fun i h1 h2 => ?_
      · match i, hi with
        | 0, _ => rfl
        | 1, _ => rfl
      · match i, h1 with
        | 0, _ => exact .nolist _ _ _ (Nat.zero_le _)
        | 1, _ => exact .nolist _ _ _ (Nat.zero_le _)
    | 1, _ => exact .val _
  rcases h with ⟨hv, rfl⟩ | ⟨hv, K, hT, h⟩
  · refine ⟨_, rfl, hx, ?_⟩
    have : fillM X width = (1, [], []) := by simp [fillM, hv]
    rw [this]; exact nil 1
  · obtain ⟨hV, hw⟩ := validB_VW hv
    obtain rfl : tableL X width = K := (tableL_tab hV hw).uniq hV hT
    rcases h with ⟨h0, h1, rfl⟩ | ⟨ends, ve, vl, hE, rfl, h2, h3⟩
    · refine ⟨_, rfl, hx, ?_⟩
      have : fillM X width = (14, [], []) := by simp [fillM, hv, h0, h1]
      rw [this]; exact nil 14
    · refine ⟨_, rfl, hx, ?_⟩
      have hno : ¬ (0 < X.length ∧ kAt (tableL X width) (0, 0) < 0) := by
        rintro ⟨h4, h5⟩
        match ends, hE with
        | [], h => 
          have : X.length = 0 := (congrArg Prod.fst h).symm
          omega
        | t :: r, ⟨g1, ⟨b, g2⟩, g3⟩ =>
          have g4 := hT.2 _ g1
          rw [g2] at g4
          simp only [encB] at g4
          obtain ⟨q1, q2, c, q3, q4⟩ := pick_mem g2
          obtain ⟨m1, m2, _⟩ := pick_pl hV hT g1 g2
          have := tOf_bd hV hw hT m2 q3
          have := priceL_bd hV hw g1 m1 m2
          omega
      have : fillM X width = (0, toI ends, tableL X width) := by
        rw [fillM, if_pos hv]
        simp only [if_neg hno]
        rw [endsGo_ok _ _ ends hE (ends_len hV hT _ _ hE)]
      rw [this]
      refine .tup _ _ rfl fun i h1 h2' => ?_
      match i, h1 with
      | 0, _ =>
        refine .agg _ _ rfl (fun i hi => ?_) fun i h1 h2' => ?_
        · match i, hi with
          | 0, _ => exact Dac.pairR.slice.one h2 _ (by simp)
          | 1, _ => exact Dac.rowsR.one h3 _ (by simp)
        · match i, h1 with
          | 0, _ => exact (tr_pairs h2).mono fun b hb _ => .inr hb
          | 1, _ => exact (tr_rows h3).mono fun b hb _ => .inr hb
      | 1, _ => exact .val _

def I64w (X : List (List (List Int))) : Prop := ∀ x ∈ X, ∀ r ∈ x, I64s r
theorem Fill_s (X : List (List (List Int))) (width : Int) (hX : I64w X) (hw : I64 width) : Ctr Try.prog 13 [vwords X, vi width] (fillV (fillM X width)) := by
  refine ⟨by kernel_rfl, fun w F vs hs hv => ?_⟩
  obtain ⟨l⟩ := vs
  match l, hs with
  | [a, b], _ =>
    have h0 := hv 0 (by simp) (by simp)
    have h1 := (hv 1 (by simp) (by simp)).val_inv
    simp only [List.getElem_cons_zero, List.getElem_cons_succ, List.getElem_toArray] at h0 h1
    rw [h1]
    exact (Fill_ok a X width w (rd_words h0 hX) hw).mono fun e w' h => fill_of h
theorem refFill_s (X : List (List (List Int))) (width : Int) (hX : I64w X) (hw : I64 width) : Ctr Try.prog 15 [vwords X, vi width] (fillV (fillM X width)) := by
  refine ⟨by kernel_rfl, fun w F vs hs hv => ?_⟩
  obtain ⟨l⟩ := vs
  match l, hs with
  | [a, b], _ =>
    have h0 := hv 0 (by simp) (by simp)
    have h1 := (hv 1 (by simp) (by simp)).val_inv
    simp only [List.getElem_cons_zero, List.getElem_cons_succ, List.getElem_toArray] at h0 h1
    rw [h1]
    exact (RefFill_ok a X width w (rd_words h0 hX) hw).mono fun e w' h => fill_of h
end Go.Proofs.Ytehelanfgepcmaa
