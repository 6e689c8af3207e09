import Derived.Test.YtehelanfgepcmaaHd
import Derived.Test.YtehelanfgepcmaaHh
import Derived.Test.YtehelanfgepcmaaHf
set_option linter.unusedSimpArgs false
set_option linter.unusedVariables false
set_option linter.unusedSectionVars false
namespace Go.Proofs.Ytehelanfgepcmaa
open Go Go.RowKit Dak
open Dac (MapAt)
/-- What is handed over. -/
abbrev lineA (x : Place × Int) : List AV := [vpair ((x.1.1 : Int), (x.1.2 : Int)), vi x.2]
abbrev lineRows (X : List (List (List Int))) (width : Int) (f : Place) : List (List AV) := (linesX X width f).map lineA
abbrev linesC (X : List (List (List Int))) (width : Int) (f : Place) : AV := .clo (.func 54) [.ptr [vi f.1, vi f.2], .ptr [vwords X], .ptr [vi width]]

theorem VW_I64 {X : List (List (List Int))} (hV : VW X) : I64w X := by
  intro x hx r hr n hn
  obtain ⟨p, hp, rfl⟩ := List.getElem_of_mem hx
  obtain ⟨i, hi, rfl⟩ := List.getElem_of_mem hr
  have := ((hV.2 p hp).2.2 i hi).2 n hn
  exact ⟨by omega, by omega⟩

open Classical in
/-- An iterator told by one row of things is told by its places too. -/
theorem stops_fin {F : Fence} {n : Nat} {P : Program} {g : Nat} {lb : Array Value} {Kp : World → World → Prop} {w : World} {β : Type} (l : List β) (encs : { x : β // x ∈ l } → Array Value)
    (h : SeqStopsK F n P g lb encs Kp (fun xs => xs = l.attach) (fun pre => pre.map (·.1) <+: l) l.length w) (N : Nat) (hN : N = l.length) (enc2 : Fin N → Array Value) (he : ∀ k : Fin N, enc2 k = encs ⟨l[k.val]'(by have := k.isLt; omega), List.getElem_mem _⟩) :
    SeqStopsK F n P g lb enc2 Kp (fun xs => xs = List.finRange N) (fun xs => ∃ k, xs = (List.finRange N).take k) N w := by
  subst hN
  intro L J Jx W hW hJ hJx hY h0
  -- an index of a thing: the next one, if it is that
  let at_ : Nat → { x : β // x ∈ l } → Fin l.length := fun k x => if hk : ∃ h : k < l.length, l[k] = x.1 then ⟨k, hk.1⟩ else ⟨Classical.choose (List.getElem_of_mem x.2), Classical.choose (Classical.choose_spec (List.getElem_of_mem x.2))⟩
  have hat : ∀ k x, l[(at_ k x).val] = x.1 := by
    intro k x
    simp only [at_]
    split
    · rename_i hk; exact hk.2
    · exact Classical.choose_spec (Classical.choose_spec (List.getElem_of_mem x.2))
  have henc : ∀ k x, enc2 (at_ k x) = encs x := fun k x => by
    rw [he]; congr 1; exact Subtype.ext (hat k x)
  let R : List { x : β // x ∈ l } → List (Fin l.length) → Prop := fun pre fin => pre.length = fin.length ∧ (pre.map (·.1) <+: l → fin = (List.finRange l.length).take pre.length)
  have hR : ∀ pre fin x, R pre fin → R (pre ++ [x]) (fin ++ [at_ pre.length x]) := by
    rintro pre fin x ⟨h1, h2⟩
    refine ⟨by simp [h1], fun hp => ?_⟩
    rw [List.map_append] at hp
    have hp1 : pre.map (·.1) <+: l := (List.prefix_append _ _).trans hp
    obtain ⟨t, ht⟩ := hp
    have hlt : pre.length < l.length := by
      have := congrArg List.length ht; simp at this; omega
    have hx : l[pre.length] = x.1 := by
      have h9 : (pre.map (·.1) ++ [x].map (·.1) ++ t)[pre.length]? = some x.1 := by
        rw [List.append_assoc, List.getElem?_append_right (by simp)]; simp
      rw [ht, List.getElem?_eq_getElem hlt] at h9; exact Option.some.inj h9
    have e : at_ pre.length x = ⟨pre.length, hlt⟩ := by
      simp only [at_]
      rw [dif_pos ⟨hlt, hx⟩]
    rw [h2 hp1, e, List.length_append, List.length_singleton, List.take_succ_eq_append_getElem (by simpa using hlt)]
    simp
  have := h L (fun pre W => ∃ fin, R pre fin ∧ J fin W) (fun pre W => ∃ fin, R pre fin ∧ Jx fin W) W hW
    (fun s A B row ⟨fin, hr, hj⟩ hg hrow => ⟨fin, hr, hJ _ _ _ _ hj hg hrow⟩) (fun s A B row ⟨fin, hr, hj⟩ hg hrow => ⟨fin, hr, hJx _ _ _ _ hj hg hrow⟩)
    (by
      rintro pre x W ⟨fin, hr, hj⟩ hlen
      have := hY fin (at_ pre.length x) W hj (by rw [← hr.1]; exact hlen)
      rw [henc] at this
      obtain ⟨fn, tmps, assign, body, hy, hB⟩ := this
      refine ⟨fn, tmps, assign, body, hy, hB.mono ?_⟩
      rintro e W' (⟨h1, h2, h3⟩ | ⟨h1, h2⟩)
      · exact .inl ⟨h1, ⟨_, hR _ _ x hr, h2⟩, h3⟩
      · exact .inr ⟨h1, ⟨_, hR _ _ x hr, h2⟩⟩)
    ⟨[], ⟨rfl, fun _ => rfl⟩, h0⟩
  refine this.mono ?_
  rintro e W' ⟨h1, ⟨xs, rfl, fin, hr, hj⟩ | ⟨pre, hp, fin, hr, hj⟩⟩
  · have := hr.2 (by rw [List.attach_map_subtype_val]; exact List.prefix_rfl)
    rw [List.length_attach, List.take_of_length_le (by simp)] at this
    exact ⟨h1, .inl ⟨fin, this, hj⟩⟩
  · exact ⟨h1, .inr ⟨fin, ⟨_, hr.2 hp⟩, hj⟩⟩

theorem seq_lines (X : List (List (List Int))) (width : Int) (f : Place) (hV : VW X) (hw : 1 ≤ width ∧ width ≤ 512) (hf : En X f) : SeqA Try.prog 54 [.ptr [vi f.1, vi f.2], .ptr [vwords X], .ptr [vi width]] 2 (lineRows X width f) := by
  refine ⟨by kernel_rfl, fun x hx => ?_, fun w F vs hgl hF hsz hv => ?_⟩
  · obtain ⟨c, _, rfl⟩ := List.mem_map.1 hx
    rfl
  obtain ⟨v0, v1, v2, rfl⟩ : ∃ a b c, vs = #[a, b, c] := by
    have h2 : vs.size = 3 := hsz
    refine ⟨vs[0], vs[1], vs[2], ?_⟩
    apply Array.ext
    · simp [h2]
    · intro i h1 h3
      have : i = 0 ∨ i = 1 ∨ i = 2 := by omega
      rcases this with rfl | rfl | rfl <;> rfl
  have hv0 := hv 0 (by simp) (by simp)
  have hv1 := hv 1 (by simp) (by simp)
  have hv2 := hv 2 (by simp) (by simp)
  simp only [List.getElem_cons_zero, List.getElem_cons_succ, List.getElem_toArray] at hv0 hv1 hv2
  cases hv0 with
  | ptr _ BF oF usF hFF hbF hcF h1F hrF =>
  cases hv1 with
  | ptr _ BL oL usL hFL hbL hcL h1L hrL =>
  cases hv2 with
  | ptr _ BW oW usW hFW hbW hcW h1W hrW =>
  have f0 := hcF 0 (by simp)
  have f1 := hcF 1 (by simp)
  have l0 := hcL 0 (by simp)
  have w0 := hcW 0 (by simp)
  have ef0 := (hrF 0 (by simp)).val_inv
  have ef1 := (hrF 1 (by simp)).val_inv
  have ew0 := (hrW 0 (by simp)).val_inv
  have el0 := hrL 0 (by simp)
  simp only [List.getElem_cons_zero, List.getElem_cons_succ, Nat.add_zero] at f0 f1 l0 w0 ef0 ef1 ew0 el0
  rw [ef0] at f0; rw [ef1] at f1; rw [ew0] at w0
  generalize usL 0 = u at l0 el0
  have hlen : (lineRows X width f).length = (linesX X width f).length := by simp
  let enc2 : Fin (lineRows X width f).length → Array Value := fun k => #[.agg #[.int .i64 ((linesX X width f)[k.val]'(by have := k.isLt; omega)).1.1, .int .i64 ((linesX X width f)[k.val]'(by have := k.isLt; omega)).1.2], .int .i64 ((linesX X width f)[k.val]'(by have := k.isLt; omega)).2]
  refine ⟨enc2, fun k => ⟨rfl, fun i h h2 => ?_⟩, fun r => ?_⟩
  · have hx : (lineRows X width f)[k] = lineA ((linesX X width f)[k.val]'(by have := k.isLt; omega)) := by simp
    have hi : i < 2 := by rw [hx] at h; exact h
    have e : (lineRows X width f)[k][i] = (lineA ((linesX X width f)[k.val]'(by have := k.isLt; omega)))[i]'(by simpa using hi) := by simp only [hx]
    rw [e]
    match i, hi, h2 with
    | 0, _, _ =>
      refine .agg _ _ rfl (fun i hi => ?_) fun i hi h2 => ?_
      · match i, hi with
        | 0, _ => rfl
        | 1, _ => rfl
      · match i, hi with
        | 0, _ => exact .val _
        | 1, _ => exact .val _
    | 1, _, _ => exact .val _
  · have hkp : ∀ A C : World, KpF F A C → ∀ (a : Addr) (u : Value), F a.block → A.cell? a = some u → C.cell? a = some u := fun A C hk a u ha hc => (World.cell?_of_block (hk _ ha)).trans hc
    rcases hf with ⟨e1, e2⟩ | hf
    · obtain ⟨p, i⟩ := f
      dsimp only at e1 e2
      subst e1; subst e2
      obtain ⟨ad, cap, rfl⟩ := Dac.Rdr.slice_v (rd_words el0 (VW_I64 hV))
      have hn : linesX X width (X.length, 0) = [] := rest_end X width (X.length, 0)
      refine lines_none Fence.wide (r + 2) trivial rfl (by omega) (KpF F) _ enc2 _ _ ?_ X ad BL oL BF oF cap _ w (by have := hV.1; omega) l0 f0 f1
      have h0 : (lineRows X width (X.length, 0)).length = 0 := by rw [hlen, hn]; rfl
      exact (List.eq_nil_of_length_eq_zero (by rw [List.length_finRange]; exact h0)).symm
    · have hne : 0 < X.length := Nat.lt_of_le_of_lt (Nat.zero_le _) hf.1
      have hrd : Dac.wordsR.rd w F [u] X := by
        exact rd_wordsG (fun _ h => h) el0 (VW_I64 hV)
      obtain ⟨ad, cap, rfl⟩ := Dac.Rdr.slice_v hrd
      obtain ⟨b, o, hb⟩ : ∃ b o, ad = some ⟨b, o, none⟩ := by
        obtain ⟨ad', cap', hv', _, _, hel⟩ := hrd
        obtain ⟨b, o, _, e, _⟩ := hel 0 hne
        simp only [List.cons.injEq, Value.slice.injEq, and_true] at hv'
        exact ⟨b, o, by rw [hv'.1, e]⟩
      subst hb
      obtain ⟨A2, A3, a1, a2, a3⟩ := words_addr hrd hV
      have hc : CapG F w BL oL BW oW BF oF b o cap width f X A2 A3 := ⟨⟨hFL, hFW, hFF⟩, l0, w0, f0, f1, a1, a2, a3⟩
      have := lines_stopsG Fence.wide (r + 2) trivial rfl (by omega) (KpF F) F X width f BL oL BW oW BF oF b o cap A2 A3 w hV hw hf hkp hc
      exact stops_fin (linesX X width f) _ this _ hlen enc2 fun k => rfl
end Go.Proofs.Ytehelanfgepcmaa
set_option linter.unusedSimpArgs false
set_option linter.unusedVariables false
set_option linter.unusedSectionVars false
namespace Go.Proofs.Ytehelanfgepcmaa
open Go Go.RowKit Dak
open Dac (MapAt)
/-- What the map of least costs holds at a place. -/
def tT (X : List (List (List Int))) (K : List (List Int)) (p : Place) : Option Int := if p = endP X then some 0 else if p.1 < X.length ∧ p.2 < (X.getD p.1 []).length then (if kAt K p < 0 then none else some (kAt K p)) else none
theorem pl_iff {X : List (List (List Int))} {p : Place} : Pl X p ↔ p.1 < X.length ∧ p.2 < (X.getD p.1 []).length := by
  constructor
  · rintro ⟨h1, h2⟩
    have : X.getD p.1 [] = X[p.1] := by simp [h1]
    exact ⟨h1, by rw [this]; exact h2⟩
  · rintro ⟨h1, h2⟩
    have : X.getD p.1 [] = X[p.1] := by simp [h1]
    exact ⟨h1, by rw [this] at h2; exact h2⟩
theorem tT_dict {X : List (List (List Int))} {K : List (List Int)} {T : Place → Option Int} (h : Dict X K (0, 0) T) : T = tT X K := by
  funext p
  have hlt : ¬ Lt p (0, 0) := by rintro (h | ⟨_, h⟩) <;> simp at h
  by_cases h0 : p = endP X
  · rw [h.1 p (.inl h0), tT, tOf, if_pos h0, if_pos h0]
  · by_cases h1 : Pl X p
    · rw [h.1 p (.inr ⟨h1, hlt⟩), tT, tOf, if_neg h0, if_neg h0, if_pos (pl_iff.1 h1)]
    · rw [h.2 p (by rintro (h2 | ⟨h2, _⟩); exact h0 h2; exact h1 h2), tT, if_neg h0, if_neg (fun h2 => h1 (pl_iff.2 h2))]
/-- .. by keys. -/
def mapL (X : List (List (List Int))) (K : List (List Int)) : MK → Option Value
  | .a [x, y] => if 0 ≤ x ∧ 0 ≤ y then (tT X K (x.toNat, y.toNat)).map (Value.int .i64) else none
  | _ => none
theorem mapL_nat (X : List (List (List Int))) (K : List (List Int)) (a b : Nat) : mapL X K (.a [(a : Int), (b : Int)]) = (tT X K (a, b)).map (Value.int .i64) := by
  simp [mapL]
theorem kget_pairs : ∀ (ks : List ((Int × Int) × Value)) (x y : Int), kget (ks.map fun p => (MK.a [p.1.1, p.1.2], p.2)) (.a [x, y]) = Dac.mget ks (x, y)
  | [], x, y => rfl
  | p :: ks, x, y => by
    rw [List.map_cons, kget_cons, Dac.mget_cons, kget_pairs ks x y]
    obtain ⟨⟨a, b⟩, v⟩ := p
    by_cases h : (x, y) = (a, b)
    · obtain ⟨rfl, rfl⟩ := Prod.mk.inj h
      rw [if_pos rfl, if_pos rfl]
    · rw [if_neg h, if_neg (fun e => h (by simp only [MK.a.injEq, List.cons.injEq, and_true] at e; rw [e.1, e.2]))]
theorem eq_of_holds {w : World} {r : Nat} {X : List (List (List Int))} {K : List (List Int)} (h : Holds w r (tT X K)) : MapEq 6 (mapL X K) (w.heap[r]?) := by
  obtain ⟨ks, ⟨es, clock, h1, h2⟩, h3, h4⟩ := h
  refine ⟨ks.map fun p => (MK.a [p.1.1, p.1.2], p.2), ⟨es, clock, h1, ?_, ?_⟩, ?_⟩
  · rw [h2, List.map_map]; rfl
  · intro p hp
    obtain ⟨q, _, rfl⟩ := List.mem_map.1 hp
    exact ⟨by omega, rfl⟩
  · intro k hk
    cases k with
    | a l =>
      match l, hk with
      | [x, y], _ =>
        rw [kget_pairs]
        simp only [mapL]
        split
        · rename_i hxy
          have := h3 (x.toNat, y.toNat)
          rw [show (((x.toNat : Nat) : Int), ((y.toNat : Nat) : Int)) = (x, y) from Prod.ext (by show ((x.toNat : Nat) : Int) = x; omega) (by show ((y.toNat : Nat) : Int) = y; omega)] at this
          exact this
        · exact h4 (x, y) (by dsimp only; omega)
      | [], hk => simp [MK.ok] at hk
      | [_], hk => simp [MK.ok] at hk
      | _ :: _ :: _ :: _, hk => simp [MK.ok] at hk
    | i => simp [MK.ok] at hk
    | s => simp [MK.ok] at hk
/-- A key as a pair. -/
def unPair : MK → Int × Int
  | .a [x, y] => (x, y)
  | _ => (0, 0)
theorem unPair_ok {k : MK} (h : k.ok 6) : k = .a [(unPair k).1, (unPair k).2] := by
  cases k with
  | a l =>
    match l, h with
    | [x, y], _ => rfl
    | [], hk => simp [MK.ok] at hk
    | [_], hk => simp [MK.ok] at hk
    | _ :: _ :: _ :: _, hk => simp [MK.ok] at hk
  | i => simp [MK.ok] at h
  | s => simp [MK.ok] at h
theorem holds_of_eq {w : World} {r : Nat} {X : List (List (List Int))} {K : List (List Int)} (h : MapEq 6 (mapL X K) (w.heap[r]?)) : Holds w r (tT X K) := by
  obtain ⟨ks, ⟨es, clock, h1, h2, h3⟩, h4⟩ := h
  have hk : ks = (ks.map fun p => (unPair p.1, p.2)).map fun p => (MK.a [p.1.1, p.1.2], p.2) := by
    rw [List.map_map]
    conv => lhs; rw [← List.map_id ks]
    refine List.map_congr_left fun p hp => ?_
    have := unPair_ok (h3 p hp)
    exact Prod.ext this rfl
  have key : ∀ x y : Int, Dac.mget (ks.map fun p => (unPair p.1, p.2)) (x, y) = mapL X K (.a [x, y]) := fun x y => by
    rw [← kget_pairs, ← hk]
    exact h4 _ ⟨by omega, rfl⟩
  refine ⟨ks.map fun p => (unPair p.1, p.2), ⟨es, clock, h1, ?_⟩, fun p => ?_, fun p hp => ?_⟩
  · rw [h2, List.map_map]
    refine List.map_congr_left fun p hp => ?_
    have := unPair_ok (h3 p hp)
    rw [this]
    rfl
  · rw [key, mapL_nat]
  · obtain ⟨x, y⟩ := p
    rw [key]
    simp only [mapL]
    rw [if_neg (by dsimp only at hp; omega)]

theorem costs_s (X : List (List (List Int))) (width : Int) (hV : VW X) (hw : 1 ≤ width ∧ width ≤ 512) : Ctr Try.prog 38 [vwords X, vi width] (.mapd 6 (mapL X (tableL X width))) := by
  refine ⟨by kernel_rfl, fun w F vs _ hs hv => ?_⟩
  obtain ⟨l⟩ := vs
  match l, hs with
  | [a, b], _ =>
    have h0 := hv 0 (by simp) (by simp)
    have h1 := (hv 1 (by simp) (by simp)).val_inv
    simp only [List.getElem_cons_zero, List.getElem_cons_succ, List.getElem_toArray] at h0 h1
    rw [h1]
    refine (costs_ok a X width w (rd_words h0 (VW_I64 hV)) hV hw).mono ?_
    rintro e w' ⟨hx, r, T, K, hr, rfl, hH, hT, hD⟩
    obtain rfl : tableL X width = K := (tableL_tab hV hw).uniq hV hT
    rw [tT_dict hD] at hH
    exact ⟨_, rfl, hx, .mapd _ _ r (.inr hr) (eq_of_holds hH)⟩
theorem table_s (X : List (List (List Int))) (width : Int) (hV : VW X) (hw : 1 ≤ width ∧ width ≤ 512) : Ctr Try.prog 39 [vwords X, .mapd 6 (mapL X (tableL X width))] (vrows (tableL X width)) := by
  refine ⟨by kernel_rfl, fun w F vs _ hs hv => ?_⟩
  obtain ⟨l⟩ := vs
  match l, hs with
  | [a, b], _ =>
    have h0 := hv 0 (by simp) (by simp)
    have h1 := hv 1 (by simp) (by simp)
    simp only [List.getElem_cons_zero, List.getElem_cons_succ, List.getElem_toArray] at h0 h1
    cases h1 with
    | mapd _ _ r hF hm =>
    have hT := tableL_tab hV hw
    have hD : Dict X (tableL X width) (0, 0) (tT X (tableL X width)) := by
      have hlt : ∀ p : Place, ¬ Lt p (0, 0) := by rintro p (h | ⟨_, h⟩) <;> simp at h
      refine ⟨fun p hp => ?_, fun p hp => ?_⟩
      · rcases hp with h | ⟨h, _⟩
        · rw [tT, tOf, if_pos h, if_pos h]
        · rw [tT, tOf, if_neg (pl_end h), if_neg (pl_end h), if_pos (pl_iff.1 h)]
      · rw [tT, if_neg (fun h => hp (.inl h)), if_neg (fun h => hp (.inr ⟨pl_iff.2 h, hlt p⟩))]
    refine (table_ok a X (tT X (tableL X width)) r w (rd_words h0 (VW_I64 hV)) hV (fun p => (T_I64 hV hw hT hD p).1) (holds_of_eq hm)).mono ?_
    rintro e w' ⟨vl, gs, rfl, hx, hG⟩
    rw [tabT_eq hV hw hT hD] at hG
    exact ⟨_, rfl, hx, (tr_rows hG.read).mono fun b hb _ => .inr hb⟩
theorem lines_s (X : List (List (List Int))) (width : Int) (f : Place) : Ctr Try.prog 40 [vwords X, vi width, vpair (f.1, f.2)] (linesC X width f) := by
  refine specE f40 (by simp) fun F0 w0 => ?_
  simp only [c40, go_sem, List.replicate_succ, Nat.reducePow, Nat.reduceLeDiff, ↓reduceIte, reduceCtorEq, Nat.reduceLT, Nat.reduceEqDiff, Nat.reduceAdd, Nat.reduceSub, Nat.reduceMul, Int.reduceToNat]
  refine .clo _ _ _ rfl fun i h1 h2 => ?_
  match i, h1 with
  | 0, _ => exact .ref _ _ _ _ _ _ rfl rfl fun i h1 h2 => by match i, h1 with | 0, _ => exact .tree _ rfl | 1, _ => exact .tree _ rfl
  | 1, _ => exact .ref _ _ _ _ _ _ rfl rfl fun i h1 h2 => by match i, h1 with | 0, _ => exact .tree _ rfl
  | 2, _ => exact .ref _ _ _ _ _ _ rfl rfl fun i h1 h2 => by match i, h1 with | 0, _ => exact .tree _ rfl
end Go.Proofs.Ytehelanfgepcmaa
set_option linter.unusedSimpArgs false
set_option linter.unusedVariables false
set_option linter.unusedSectionVars false
namespace Go.Proofs.Ytehelanfgepcmaa
open Go.RowKit
/-- A walk from place to place: each is the end of a line that fits. -/
def isAt (e : Int × Int) (x : Place × Int) : Bool := decide (((x.1.1 : Nat) : Int) = e.1) && decide (((x.1.2 : Nat) : Int) = e.2)
def stepE (X : List (List (List Int))) (width : Int) (p : Place) (e : Int × Int) : Option (Place × Int) := (linesX X width p).find? (isAt e)
def payE (X : List (List (List Int))) (width : Int) (x : Place × Int) : Int := if x.1 = endP X then 4294967296 else 4294967296 + (width - x.2) * (width - x.2)
def walkE (X : List (List (List Int))) (width : Int) : List (Int × Int) → Place → Int → Option (Place × Int)
  | [], p, s => some (p, s)
  | e :: es, p, s => match stepE X width p e with
    | some x => walkE X width es x.1 (s + payE X width x)
    | none => none
/-- What Check returns. -/
def checkM (X : List (List (List Int))) (width : Int) (ends : List (Int × Int)) (least : List (List Int)) : Int :=
  if validB X width then
    if least = tableL X width then
      match walkE X width ends (0, 0) 0 with
      | some (p, s) => if p = endP X ∧ tT X (tableL X width) (0, 0) = some s then 0 else 19
      | none => 19
    else 19
  else 1
/-- The cost of a division, -1 if it is none. -/
def costM (X : List (List (List Int))) (width : Int) (ends : List (Int × Int)) : Int :=
  match walkE X width ends (0, 0) 0 with
  | some (p, s) => if p = endP X then s else -1
  | none => -1

theorem isAt_iff {e : Int × Int} {x : Place × Int} : isAt e x = true ↔ ((x.1.1 : Nat) : Int) = e.1 ∧ ((x.1.2 : Nat) : Int) = e.2 := by simp [isAt]
theorem lines_end (X : List (List (List Int))) (width : Int) : linesX X width (endP X) = [] := rest_end X width _
/-- A step. -/
theorem stepE_some {X : List (List (List Int))} {width : Int} {p : Place} {e : Int × Int} {x : Place × Int} (hV : VW X) (hw : 1 ≤ width ∧ width ≤ 512) (hp : En X p) (h : stepE X width p e = some x) :
    Pl X p ∧ Lt p x.1 ∧ En X x.1 ∧ x.2 = sizeL X p x.1 ∧ x.2 ≤ width ∧ (((x.1.1 : Nat) : Int), ((x.1.2 : Nat) : Int)) = e ∧ payE X width x = priceL X width p x.1 ∧ x ∈ linesX X width p := by
  have hm := List.mem_of_find?_eq_some h
  have hq := List.find?_some h
  have hpl : Pl X p := by
    rcases hp.cases with rfl | hpl
    · rw [lines_end] at hm; simp at hm
    · exact hpl
  obtain ⟨_, h2, h3, h4, h5⟩ := line_mem hV hpl hm
  obtain ⟨q1, q2⟩ := isAt_iff.1 hq
  refine ⟨hpl, h2, h3, h4, h5, Prod.ext q1 q2, ?_, hm⟩
  rw [payE, priceL, h4]
theorem walkE_bd {X : List (List (List Int))} {width : Int} (hV : VW X) (hw : 1 ≤ width ∧ width ≤ 512) : ∀ (es : List (Int × Int)) (p : Place) (s : Int) (q : Place) (t : Int), En X p → walkE X width es p s = some (q, t) → En X q ∧ s ≤ t ∧ t + (rem X q : Int) * 10000000000000 ≤ s + (rem X p : Int) * 10000000000000
  | [], p, s, q, t, hp, h => by
    simp only [walkE, Option.some.injEq, Prod.mk.injEq] at h
    obtain ⟨rfl, rfl⟩ := h
    exact ⟨hp, Int.le_refl _, Int.le_refl _⟩
  | e :: es, p, s, q, t, hp, h => by
    simp only [walkE] at h
    cases hs : stepE X width p e with
    | none => rw [hs] at h; cases h
    | some x =>
      rw [hs] at h
      obtain ⟨hpl, hl, he, _, _, _, hpay, _⟩ := stepE_some hV hw hp hs
      have hb := priceL_bd hV hw hpl hl he
      have hr := rem_lt hV hpl hl he
      obtain ⟨h1, h2, h3⟩ := walkE_bd hV hw es x.1 _ q t he h
      rw [hpay] at h2 h3
      exact ⟨h1, by omega, by omega⟩
/-- A place is the end of a line that fits exactly if it is one, comes later, and the line is not too wide. -/
theorem line_iff {X : List (List (List Int))} {width : Int} {p t : Place} (hV : VW X) (hp : Pl X p) : (t, sizeL X p t) ∈ linesX X width p ↔ En X t ∧ Lt p t ∧ sizeL X p t ≤ width := by
  constructor
  · intro h
    obtain ⟨_, h2, h3, _, h5⟩ := line_mem hV hp h
    exact ⟨h3, h2, h5⟩
  · rintro ⟨h1, h2, h3⟩
    unfold linesX restL
    rw [List.mem_filterMap]
    exact ⟨t, laters_all hV _ p t (.inr hp) rfl h2 h1, by rw [if_neg (by omega)]⟩
theorem stepE_iff {X : List (List (List Int))} {width : Int} {p : Place} (hV : VW X) (hp : Pl X p) (t : Place) : stepE X width p ((t.1 : Int), (t.2 : Int)) = if (t, sizeL X p t) ∈ linesX X width p then some (t, sizeL X p t) else none := by
  unfold stepE
  have key : ∀ x ∈ linesX X width p, isAt ((t.1 : Int), (t.2 : Int)) x = true → x = (t, sizeL X p t) := by
    rintro x hx hq
    obtain ⟨q1, q2⟩ := isAt_iff.1 hq
    have h1 : x.1 = t := Prod.ext (by dsimp only at q1; omega) (by dsimp only at q2; omega)
    obtain ⟨_, _, _, h4, _⟩ := line_mem hV hp hx
    exact Prod.ext h1 (by rw [h4, h1])
  split
  · rename_i hm
    cases hf : (linesX X width p).find? (isAt ((t.1 : Int), (t.2 : Int))) with
    | none =>
      have := List.find?_eq_none.1 hf _ hm
      simp [isAt] at this
    | some x => rw [key x (List.mem_of_find?_eq_some hf) (List.find?_some hf)]
  · rename_i hm
    rw [List.find?_eq_none]
    intro x hx hq
    rw [key x hx hq] at hx
    exact hm hx
theorem walk_div {X : List (List (List Int))} {width : Int} (hV : VW X) (hw : 1 ≤ width ∧ width ≤ 512) : ∀ (r : List Place) (p : Place) (s : Int), IsDiv X width p r → walkE X width (toI r) p s = some (endP X, s + costL X width p r)
  | [], p, s, h => by
    have h : p = endP X := h
    simp [toI, walkE, costL, h]
  | t :: r, p, s, ⟨h1, h2, h3, h4, h5⟩ => by
    have ih := walk_div hV hw r t (s + priceL X width p t) h5
    simp only [toI, List.map_cons, walkE, costL]
    rw [stepE_iff hV h1, if_pos ((line_iff hV h1).2 ⟨h3, h2, h4⟩)]
    have hp : payE X width (t, sizeL X p t) = priceL X width p t := rfl
    simp only [hp]
    rw [show List.map (fun p : Place => ((p.1 : Int), (p.2 : Int))) r = toI r from rfl, ih]
    congr 2; omega
theorem div_of_walk {X : List (List (List Int))} {width : Int} (hV : VW X) (hw : 1 ≤ width ∧ width ≤ 512) : ∀ (es : List (Int × Int)) (p : Place) (s t : Int), En X p → walkE X width es p s = some (endP X, t) → ∃ r, es = toI r ∧ IsDiv X width p r ∧ t = s + costL X width p r
  | [], p, s, t, hp, h => by
    simp only [walkE, Option.some.injEq, Prod.mk.injEq] at h
    exact ⟨[], rfl, h.1, by rw [costL]; omega⟩
  | e :: es, p, s, t, hp, h => by
    simp only [walkE] at h
    cases hs : stepE X width p e with
    | none => rw [hs] at h; cases h
    | some x =>
      rw [hs] at h
      obtain ⟨hpl, hl, he, h4, h5, h6, hpay, _⟩ := stepE_some hV hw hp hs
      obtain ⟨r, r1, r2, r3⟩ := div_of_walk hV hw es x.1 _ t he h
      refine ⟨x.1 :: r, ?_, ⟨hpl, hl, he, by rw [← h4]; exact h5, r2⟩, ?_⟩
      · rw [toI, List.map_cons, ← h6, r1]; rfl
      · rw [costL, r3, hpay]; omega
/-- What Fill finds, what a division costs, and what is accepted. -/
theorem others_law {X : List (List (List Int))} {w : Int} (hv : validB X w = true) (other : List (Int × Int)) (h0 : 0 ≤ costM X w other) :
    ∃ A : List (Int × Int), fillM X w = (0, A, tableL X w) ∧ 0 ≤ costM X w A ∧ costM X w A ≤ costM X w other ∧ checkM X w other (tableL X w) = if costM X w A < costM X w other then 19 else 0 := by
  obtain ⟨hV, hw⟩ := validB_VW hv
  have key : ∃ r, other = toI r ∧ IsDiv X w (0, 0) r ∧ walkE X w other (0, 0) 0 = some (endP X, costL X w (0, 0) r) := by
    unfold costM at h0
    split at h0
    · rename_i p s hwk
      split at h0
      · rename_i hp
        subst hp
        obtain ⟨r, r1, r2, r3⟩ := div_of_walk hV hw other (0, 0) 0 s (En.zero hV) hwk
        exact ⟨r, r1, r2, by rw [hwk, r3, Int.zero_add]⟩
      · omega
    · omega
  obtain ⟨r, rfl, hr, hwk⟩ := key
  have hc : costM X w (toI r) = costL X w (0, 0) r := by simp [costM, hwk]
  rcases fill_best hv with ⟨_, hno⟩ | ⟨r0, h1, h2, hT, h3, h4⟩
  · exact absurd hr (hno r)
  have hw0 := walk_div hV hw r0 (0, 0) 0 h1
  rw [Int.zero_add] at hw0
  have hc0 : costM X w (toI r0) = costL X w (0, 0) r0 := by simp [costM, hw0]
  have hb := cost_bd hV hw r0 (0, 0) h1
  refine ⟨toI r0, h2, by rw [hc0]; omega, by rw [hc0, hc]; exact h4 r hr, ?_⟩
  rw [hc0, hc, checkM, if_pos hv, if_pos rfl, hwk]
  have htT : tT X (tableL X w) (0, 0) = some (costL X w (0, 0) r0) := by
    rw [← h3]
    rcases (En.zero hV).cases with e | e
    · rw [tT, tOf, if_pos e, if_pos e]
    · rw [tT, tOf, if_neg (pl_end e), if_neg (pl_end e), if_pos (pl_iff.1 e)]
  simp only [htT, true_and, Option.some.injEq]
  have := h4 r hr
  by_cases e : costL X w (0, 0) r0 = costL X w (0, 0) r
  · rw [if_pos e, if_neg (by omega)]
  · rw [if_neg e, if_pos (by omega)]
theorem check_aux (X : List (List (List Int))) (o : Option (Place × Int)) (best : Int) :
    (∀ q t, o = some (q, t) → 0 ≤ t) → (match o with | some (p, s) => if p = endP X ∧ (if best < 0 then none else some best) = some s then (0 : Int) else 19 | none => 19) =
    if best < 0 ∨ ¬ (match o with | some (p, s) => if p = endP X then s else -1 | none => -1) = best then 19 else 0 := by
  intro hb
  cases o with
  | none =>
    simp only []
    by_cases hb : best < 0
    · simp [hb]
    · rw [if_pos (.inr (by omega))]
  | some q =>
    obtain ⟨q, t⟩ := q
    have h2 := hb q t rfl
    simp only []
    by_cases hb : best < 0
    · simp [hb]
    · by_cases hq : q = endP X
      · simp only [hq, hb, if_false, Option.some.injEq, true_and, false_or, if_true]
        by_cases e : best = t
        · simp [e]
        · rw [if_neg e, if_pos (fun e' => e e'.symm)]
      · simp only [hq, false_and, if_false, hb, false_or]
        rw [if_pos (by omega)]
/-- Both ways of checking do the same. -/
theorem check_cost {X : List (List (List Int))} {width : Int} (hv : validB X width = true) (ends : List (Int × Int)) (least : List (List Int)) :
    checkM X width ends least = (let best := if 0 < X.length then kAt (tableL X width) (0, 0) else 0
      if ¬ (least = tableL X width) ∨ best < 0 ∨ ¬ costM X width ends = best then 19 else 0) := by
  obtain ⟨hV, hw⟩ := validB_VW hv
  rw [checkM, if_pos hv]
  by_cases hl : least = tableL X width
  · rw [if_pos hl]
    simp only [hl, not_true_eq_false, false_or]
    have htT : tT X (tableL X width) (0, 0) = (let best := if 0 < X.length then kAt (tableL X width) (0, 0) else 0
        if best < 0 then none else some best) := by
      by_cases h0 : 0 < X.length
      · have hpl : Pl X (0, 0) := ⟨h0, by have := hV.2 0 h0; dsimp only; omega⟩
        rw [tT, if_neg (pl_end hpl), if_pos (pl_iff.1 hpl)]
        simp [h0]
      · have : endP X = (0, 0) := by
          have : X.length = 0 := by omega
          simp [this]
        rw [tT, if_pos this.symm]
        simp [h0]
    rw [htT]
    generalize (if 0 < X.length then kAt (tableL X width) (0, 0) else 0) = best
    unfold costM
    dsimp only
    exact check_aux X _ best fun q t h => (walkE_bd hV hw ends (0, 0) 0 q t (En.zero hV) h).2.1
  · rw [if_neg hl]
    simp [hl]
end Go.Proofs.Ytehelanfgepcmaa
set_option linter.unusedSimpArgs false
set_option linter.unusedVariables false
set_option linter.unusedSectionVars false
namespace Go.Proofs.Ytehelanfgepcmaa
open Go Go.RowKit Dak
theorem bool_of_QRet {w : World} {F : Nat → Prop} {b : Bool} {e : Ending} {w' : World} (h : Dac.QRet w (.bool b) e w') : ∃ v, e = .returned v ∧ Ext w w' ∧ TR w' (fun k => F k ∨ (w.heap.size ≤ k)) (vb b) v := by
  obtain ⟨rfl, n, rfl⟩ := h
  exact ⟨_, rfl, Ext.drewN w n, .val _⟩
theorem val_of_Ret {w : World} {F : Nat → Prop} {v : Value} {e : Ending} {w' : World} (h : Dac.Ret w v e w') : ∃ u, e = .returned u ∧ Ext w w' ∧ TR w' (fun k => F k ∨ (w.heap.size ≤ k)) (.val v) u := by
  obtain ⟨rfl, hx⟩ := h
  exact ⟨_, rfl, hx, .val _⟩
theorem Valid_s (X : List (List (List Int))) (width : Int) (hX : I64w X) (hw : I64 width) : Ctr Try.prog 42 [vwords X, vi width] (vb (validB X width)) := by
  refine ⟨by kernel_rfl, fun w F vs _ hs hv => ?_⟩
  obtain ⟨l⟩ := vs
  match l, hs with
  | [a, b], _ =>
    have h0 := hv 0 (by simp) (by simp)
    have h1 := (hv 1 (by simp) (by simp)).val_inv
    simp only [List.getElem_cons_zero, List.getElem_cons_succ, List.getElem_toArray] at h0 h1
    rw [h1]
    exact (Valid_ok a X width w (rd_words h0 hX) hw).mono fun e w' h => bool_of_QRet h
theorem valid_s (X : List (List (List Int))) (width : Int) (hX : I64w X) (hw : I64 width) : Ctr Try.prog 37 [vwords X, vi width] (vb (validB X width)) := by
  refine ⟨by kernel_rfl, fun w F vs _ hs hv => ?_⟩
  obtain ⟨l⟩ := vs
  match l, hs with
  | [a, b], _ =>
    have h0 := hv 0 (by simp) (by simp)
    have h1 := (hv 1 (by simp) (by simp)).val_inv
    simp only [List.getElem_cons_zero, List.getElem_cons_succ, List.getElem_toArray] at h0 h1
    rw [h1]
    exact (PValid_ok a X width w (rd_words h0 hX) hw).mono fun e w' h => val_of_Ret h
theorem Table_s (X : List (List (List Int))) (width : Int) (hV : VW X) (hw : 1 ≤ width ∧ width ≤ 512) : Ctr Try.prog 43 [vwords X, vi width] (vrows (tableL X width)) := by
  refine ⟨by kernel_rfl, fun w F vs _ hs hv => ?_⟩
  obtain ⟨l⟩ := vs
  match l, hs with
  | [a, b], _ =>
    have h0 := hv 0 (by simp) (by simp)
    have h1 := (hv 1 (by simp) (by simp)).val_inv
    simp only [List.getElem_cons_zero, List.getElem_cons_succ, List.getElem_toArray] at h0 h1
    rw [h1]
    refine (Table_ok a X width w (rd_words h0 (VW_I64 hV)) hV hw).mono ?_
    rintro e w' ⟨r, gs, rfl, hx, hG⟩
    exact ⟨_, rfl, hx, (tr_rows hG.read).mono fun b hb _ => .inr hb⟩
theorem pair_inv {w : World} {F : Nat → Prop} {x y : Int} {v : Value} (h : TR w F (vpair (x, y)) v) : v = .agg #[.int .i64 x, .int .i64 y] := by
  cases h with
  | agg _ vs hl h1 hr =>
    obtain ⟨l⟩ := vs
    match l, hl with
    | [a, b], _ =>
      have h0 := (hr 0 (by simp) (by simp)).val_inv
      have h2 := (hr 1 (by simp) (by simp)).val_inv
      simp only [List.getElem_cons_zero, List.getElem_cons_succ, List.getElem_toArray] at h0 h2
      rw [h0, h2]
abbrev vplace (p : Place) : AV := vpair ((p.1 : Int), (p.2 : Int))
theorem Size_s (X : List (List (List Int))) (p t : Place) (hV : VW X) (hp : Pl X p) (hl : Lt p t) (ht : En X t) : Ctr Try.prog 35 [vwords X, vplace p, vplace t] (vi (sizeL X p t)) := by
  refine ⟨by kernel_rfl, fun w F vs _ hs hv => ?_⟩
  obtain ⟨l⟩ := vs
  match l, hs with
  | [a, b, c], _ =>
    have h0 := hv 0 (by simp) (by simp)
    have h1 := hv 1 (by simp) (by simp)
    have h2 := hv 2 (by simp) (by simp)
    simp only [List.getElem_cons_zero, List.getElem_cons_succ, List.getElem_toArray] at h0 h1 h2
    rw [pair_inv h1, pair_inv h2]
    obtain ⟨p1, i⟩ := p
    obtain ⟨q, j⟩ := t
    obtain ⟨hp1, hi⟩ := hp
    refine (Size_ok a X p1 i q j w (rd_words h0 (VW_I64 hV)) hV hp1 hi (hl.imp id fun h => h) ?_).mono fun e w' h => val_of_Ret h
    exact ht
theorem Price_s (X : List (List (List Int))) (width : Int) (p t : Place) (hV : VW X) (hw : 1 ≤ width ∧ width ≤ 512) (hp : Pl X p) (hl : Lt p t) (ht : En X t) : Ctr Try.prog 50 [vwords X, vi width, vplace p, vplace t] (vi (priceL X width p t)) := by
  refine ⟨by kernel_rfl, fun w F vs _ hs hv => ?_⟩
  obtain ⟨l⟩ := vs
  match l, hs with
  | [a, b, c, d], _ =>
    have h0 := hv 0 (by simp) (by simp)
    have hb := (hv 1 (by simp) (by simp)).val_inv
    have h1 := hv 2 (by simp) (by simp)
    have h2 := hv 3 (by simp) (by simp)
    simp only [List.getElem_cons_zero, List.getElem_cons_succ, List.getElem_toArray] at h0 h1 h2 hb
    rw [pair_inv h1, pair_inv h2, hb]
    exact (Price_ok a X width p t w (rd_words h0 (VW_I64 hV)) hV hw hp hl ht).mono fun e w' h => val_of_Ret h
theorem Next_s (X : List (List (List Int))) (p : Place) (hV : VW X) (hp : Pl X p) : Ctr Try.prog 33 [vwords X, vplace p] (vplace (next X p)) := by
  refine ⟨by kernel_rfl, fun w F vs _ hs hv => ?_⟩
  obtain ⟨l⟩ := vs
  match l, hs with
  | [a, b], _ =>
    have h0 := hv 0 (by simp) (by simp)
    have h1 := hv 1 (by simp) (by simp)
    simp only [List.getElem_cons_zero, List.getElem_cons_succ, List.getElem_toArray] at h0 h1
    rw [pair_inv h1]
    obtain ⟨p1, i⟩ := p
    obtain ⟨hp1, hi⟩ := hp
    refine (Next_ok a X p1 i w (rd_words h0 (VW_I64 hV)) hp1 hi).mono ?_
    intro e w' h
    obtain ⟨u, h1, h2, h3⟩ := val_of_Ret (F := F) h
    refine ⟨u, h1, h2, ?_⟩
    rw [h3.val_inv]
    refine .agg _ _ rfl (fun i hi => ?_) fun i hi h2 => ?_
    · match i, hi with
      | 0, _ => rfl
      | 1, _ => rfl
    · match i, hi with
      | 0, _ => exact .val _
      | 1, _ => exact .val _
end Go.Proofs.Ytehelanfgepcmaa
set_option linter.unusedSimpArgs false
set_option linter.unusedVariables false
set_option linter.unusedSectionVars false
namespace Go.Proofs.Ytehelanfgepcmaa
open Go.RowKit Dak
set_option maxRecDepth 100000 in
theorem Equal47_s (A B : List Int) (hA : A.length ≤ 9223372036854775806) : Ctr Try.prog 47 [vints A, vints B] (vb (decide (A = B))) := by
  refine specE f47 (by simp) fun F0 w0 => ?_
  by_cases hl : A.length = B.length
  · have hl' : (A.length : Int) = (B.length : Int) := by omega
    simp only [c47, go_sem, ↓reduceIte, reduceCtorEq, Nat.reduceLT, Nat.reduceEqDiff, hl', List.length_map]
    refine loopX 0 (fun m s => ∃ k : Nat, m = B.length - k ∧ k ≤ B.length ∧ A.take k = B.take k ∧ s = ⟨[(0, vints A), (1, vints B), (12, vi B.length), (13, vi k)], []⟩) (fun _ => A = B) B.length ⟨[(0, vints A), (1, vints B), (12, vi B.length), (13, vi (0 : Nat))], []⟩ (WkE.keep (by simp only [go_sem, ↓reduceIte, reduceCtorEq, Nat.reduceEqDiff]; rfl)) ⟨0, by omega, by omega, rfl, rfl⟩ ?_ ?_
    rotate_left
    · rintro s e
      simp only [go_sem, ↓reduceIte, Nat.reduceLT, e]
      exact .tree _ rfl
    rintro m s ⟨k, rfl, hk, ht, rfl⟩
    by_cases hlt : k < B.length
    · have hltA : k < A.length := by omega
      have h1 : (k : Int) < (B.length : Int) := by omega
      have h0 : (0 : Int) ≤ (k : Int) := by omega
      have hw : IntKind.i64.wrap ((k : Int) + 1) = ((k + 1 : Nat) : Int) := by rw [wrap_id (by omega) (by omega)]; omega
      by_cases he : A[k] = B[k]
      · simp only [go_sem, ↓reduceIte, reduceCtorEq, Nat.reduceLT, Nat.reduceEqDiff, h1, h0, List.getElem?_map, List.getElem?_eq_getElem hlt, List.getElem?_eq_getElem hltA, he, hw]
        exact ⟨B.length - (k + 1), ⟨[(0, vints A), (1, vints B), (12, vi B.length), (13, vi (k + 1 : Nat))], []⟩, by omega, WkE.keep (by simp only [go_sem, ↓reduceIte, reduceCtorEq, Nat.reduceEqDiff]), k + 1, rfl, by omega, takeS_eq ht hltA hlt he, rfl⟩
      · simp only [go_sem, ↓reduceIte, reduceCtorEq, Nat.reduceLT, Nat.reduceEqDiff, h1, h0, List.getElem?_map, List.getElem?_eq_getElem hlt, List.getElem?_eq_getElem hltA, he]
        have : decide (A = B) = false := by rw [decide_eq_false_iff_not]; rintro rfl; exact he rfl
        rw [this]; exact .tree _ rfl
    · have hkB : k = B.length := by omega
      have h1 : ¬ (k : Int) < (B.length : Int) := by omega
      simp only [go_sem, ↓reduceIte, reduceCtorEq, Nat.reduceLT, Nat.reduceEqDiff, h1]
      refine ⟨⟨[], []⟩, WkE.keep trivial, ?_⟩
      rw [hkB, List.take_length, ← hl, List.take_length] at ht
      exact ht
  · have hl' : ¬ (A.length : Int) = (B.length : Int) := by omega
    simp only [c47, go_sem, ↓reduceIte, reduceCtorEq, Nat.reduceLT, Nat.reduceEqDiff, hl', List.length_map]
    have : decide (A = B) = false := by rw [decide_eq_false_iff_not]; rintro rfl; exact hl rfl
    rw [this]; exact .tree _ rfl
set_option maxRecDepth 100000 in
theorem EqualFunc46_s (A B : List (List Int)) (hA : A.length ≤ 9223372036854775806) (hr : ∀ x ∈ A, x.length ≤ 9223372036854775806) : Ctr Try.prog 46 [vrows A, vrows B, .clo (.func 47) []] (vb (decide (A = B))) := by
  refine specE f46 (by simp) fun F0 w0 => ?_
  by_cases hl : A.length = B.length
  · have hl' : (A.length : Int) = (B.length : Int) := by omega
    simp only [c46, go_sem, ↓reduceIte, reduceCtorEq, Nat.reduceLT, Nat.reduceEqDiff, Nat.reduceAdd, hl', List.length_map]
    refine loopX 0 (fun m s => ∃ k : Nat, m = B.length - k ∧ k ≤ B.length ∧ A.take k = B.take k ∧ s = ⟨[(1, vrows B), (2, .clo (.func 47) []), (15, vrows A), (16, vi B.length), (17, vi k)], []⟩) (fun _ => A = B) B.length ⟨[(1, vrows B), (2, .clo (.func 47) []), (15, vrows A), (16, vi B.length), (17, vi (0 : Nat))], []⟩ (WkE.keep (by simp only [go_sem, ↓reduceIte, reduceCtorEq, Nat.reduceEqDiff]; rfl)) ⟨0, by omega, by omega, rfl, rfl⟩ ?_ ?_
    rotate_left
    · rintro s e
      simp only [go_sem, ↓reduceIte, Nat.reduceLT, e]
      exact .tree _ rfl
    rintro m s ⟨k, rfl, hk, ht, rfl⟩
    by_cases hlt : k < B.length
    · have hltA : k < A.length := by omega
      have h1 : (k : Int) < (B.length : Int) := by omega
      have h0 : (0 : Int) ≤ (k : Int) := by omega
      have hw : IntKind.i64.wrap ((k : Int) + 1) = ((k + 1 : Nat) : Int) := by rw [wrap_id (by omega) (by omega)]; omega
      simp only [go_sem, ↓reduceIte, Nat.reduceLT, Nat.reduceEqDiff, h1, h0, List.getElem?_map, List.getElem?_eq_getElem hlt, List.getElem?_eq_getElem hltA]
      refine callT (Equal47_s A[k] B[k] (hr _ (List.getElem_mem hltA))) rfl ?_
      by_cases he : A[k] = B[k]
      · simp only [go_sem, ↓reduceIte, Nat.reduceLT, Nat.reduceEqDiff, he, hw]
        exact ⟨B.length - (k + 1), ⟨[(1, vrows B), (2, .clo (.func 47) []), (15, vrows A), (16, vi B.length), (17, vi (k + 1 : Nat))], []⟩, by omega, WkE.keep (by simp only [go_sem, ↓reduceIte, Nat.reduceEqDiff]), k + 1, rfl, by omega, takeS_eq ht hltA hlt he, rfl⟩
      · simp only [go_sem, ↓reduceIte, Nat.reduceLT, he]
        have : decide (A = B) = false := by rw [decide_eq_false_iff_not]; rintro rfl; exact he rfl
        rw [this]; exact .tree _ rfl
    · have hkB : k = B.length := by omega
      have h1 : ¬ (k : Int) < (B.length : Int) := by omega
      simp only [go_sem, ↓reduceIte, Nat.reduceLT, Nat.reduceEqDiff, h1]
      refine ⟨⟨[], []⟩, WkE.keep trivial, ?_⟩
      rw [hkB, List.take_length, ← hl, List.take_length] at ht
      exact ht
  · have hl' : ¬ (A.length : Int) = (B.length : Int) := by omega
    simp only [c46, go_sem, ↓reduceIte, reduceCtorEq, Nat.reduceLT, Nat.reduceEqDiff, Nat.reduceAdd, hl', List.length_map]
    have : decide (A = B) = false := by rw [decide_eq_false_iff_not]; rintro rfl; exact hl rfl
    rw [this]; exact .tree _ rfl
theorem price_last_s (f : Int) : Ctr Try.prog 41 [vb true, vi f] (vi 4294967296) := by
  refine specE f41 (by simp) fun F0 w0 => ?_
  simp only [c41, go_sem, ↓reduceIte, reduceCtorEq, Nat.reduceLT]
  exact .tree _ rfl
theorem price_s (f : Int) (hf : 0 ≤ f ∧ f ≤ 512) : Ctr Try.prog 41 [vb false, vi f] (vi (4294967296 + f * f)) := by
  refine specE f41 (by simp) fun F0 w0 => ?_
  have hq := sq_bd f (by omega)
  have e1 : IntKind.i64.wrap (f * f) = f * f := wrap_id (by omega) (by omega)
  have e2 : IntKind.i64.wrap (4294967296 + f * f) = 4294967296 + f * f := wrap_id (by omega) (by omega)
  simp only [c41, go_sem, ↓reduceIte, reduceCtorEq, Nat.reduceLT, Nat.reduceEqDiff, e1, e2]
  exact .tree _ rfl
end Go.Proofs.Ytehelanfgepcmaa
set_option linter.unusedSimpArgs false
set_option linter.unusedVariables false
set_option linter.unusedSectionVars false
namespace Go.Proofs.Ytehelanfgepcmaa
open Go.RowKit Dak
/-- A pair as a place. -/
def plE (X : List (List (List Int))) (e : Int × Int) : Option Place :=
  if 0 ≤ e.1 ∧ 0 ≤ e.2 ∧ ((e.1 < X.length ∧ e.2 < (X.getD e.1.toNat []).length) ∨ (e.1 = X.length ∧ e.2 = 0)) then some (e.1.toNat, e.2.toNat) else none
theorem plE_some {X : List (List (List Int))} {e : Int × Int} {t : Place} (h : plE X e = some t) : e = ((t.1 : Int), (t.2 : Int)) ∧ En X t := by
  unfold plE at h
  split at h
  · rename_i hc
    obtain ⟨h1, h2, h3⟩ := hc
    obtain rfl := (Option.some.inj h).symm
    refine ⟨Prod.ext (by show e.1 = ((e.1.toNat : Nat) : Int); omega) (by show e.2 = ((e.2.toNat : Nat) : Int); omega), ?_⟩
    rcases h3 with ⟨h3, h4⟩ | ⟨h3, h4⟩
    · exact .inr (pl_iff.2 ⟨by dsimp only; omega, by dsimp only; omega⟩)
    · exact .inl ⟨by dsimp only; omega, by dsimp only; omega⟩
  · cases h
theorem plE_of {X : List (List (List Int))} {t : Place} (h : En X t) : plE X ((t.1 : Int), (t.2 : Int)) = some t := by
  unfold plE
  rw [if_pos]
  · simp
  · refine ⟨by dsimp only; omega, by dsimp only; omega, ?_⟩
    rcases h with ⟨h1, h2⟩ | h
    · exact .inr ⟨by dsimp only; omega, by dsimp only; omega⟩
    · obtain ⟨h1, h2⟩ := pl_iff.1 h
      exact .inl ⟨by dsimp only; omega, by simpa using h2⟩
set_option maxRecDepth 100000 in
theorem Is_s (X : List (List (List Int))) (e : Int × Int) (hV : VW X) : Ctr Try.prog 48 [vwords X, vpair e] (vb (plE X e).isSome) := by
  obtain ⟨a, b⟩ := e
  have hl := hV.1
  refine specE f48 (by simp) fun F0 w0 => ?_
  have hw : IntKind.i64.wrap ((X.length : Int) - 1) = (X.length : Int) - 1 := wrap_id (by omega) (by omega)
  have u0 : (0 : Int) ≤ 0 := by omega
  have u1 : (0 : Int) < ((2 : Nat) : Int) := by omega
  have u2 : (0 : Int) ≤ 1 := by omega
  have u3 : (1 : Int) < ((2 : Nat) : Int) := by omega
  have last : ((a = (X.length : Int) ∧ b = 0) ↔ ([a, b] = [(X.length : Int), 0])) := by simp
  by_cases h1 : 0 ≤ a
  · obtain ⟨k, rfl⟩ : ∃ k : Nat, a = k := ⟨a.toNat, by omega⟩
    by_cases h2 : (k : Int) < (X.length : Int)
    · have hk : k < X.length := by omega
      have hg : X.getD k [] = X[k] := by simp [hk]
      have hne : ([(k : Int), b] = [(X.length : Int), 0]) = False := eq_false fun h => by simp at h; omega
      by_cases h3 : 0 ≤ b
      · have n1 : ¬ (k : Int) < 0 := by omega
        have n2 : ¬ ((X.length : Int) - 1 < (k : Int)) := by omega
        by_cases h4 : b < (X[k].length : Int)
        · simp only [c48, go_sem, ↓reduceIte, reduceCtorEq, Nat.reduceLT, Nat.reduceEqDiff, Nat.reduceAdd, Nat.reduceMul, Int.reduceToNat, h1, h2, h3, u0, u1, u2, u3, n1, n2, hw, List.length_map, List.getElem?_map, List.getElem?_eq_getElem hk, h4, Int.toNat_natCast, Int.reduceToNat]
          have : (plE X ((k : Int), b)).isSome = true := by
            rw [plE, if_pos ⟨h1, h3, .inl ⟨h2, by dsimp only; rw [Int.toNat_natCast, hg]; exact h4⟩⟩]; rfl
          rw [this]; exact .tree _ rfl
        · simp only [c48, go_sem, Nat.reduceLeDiff, ↓reduceIte, reduceCtorEq, Nat.reduceLT, Nat.reduceEqDiff, Nat.reduceAdd, Nat.reduceMul, Int.reduceToNat, h1, h2, h3, u0, u1, u2, u3, n1, n2, hw, List.length_map, List.getElem?_map, List.getElem?_eq_getElem hk, h4, hne, Int.toNat_natCast, Int.reduceToNat]
          have : (plE X ((k : Int), b)).isSome = false := by
            rw [plE, if_neg]; · rfl
            rintro ⟨_, _, ⟨_, q⟩ | ⟨q, _⟩⟩
            · dsimp only at q; rw [Int.toNat_natCast, hg] at q; exact h4 q
            · dsimp only at q; omega
          rw [this]; exact .tree _ rfl
      · simp only [c48, go_sem, Nat.reduceLeDiff, ↓reduceIte, reduceCtorEq, Nat.reduceLT, Nat.reduceEqDiff, Nat.reduceAdd, Nat.reduceMul, Int.reduceToNat, h1, h2, h3, u0, u1, u2, u3, List.length_map, hne, Int.reduceToNat]
        have : (plE X ((k : Int), b)).isSome = false := by
          rw [plE, if_neg]; · rfl
          rintro ⟨_, q, _⟩
          exact h3 q
        rw [this]; exact .tree _ rfl
    · simp only [c48, go_sem, Nat.reduceLeDiff, ↓reduceIte, reduceCtorEq, Nat.reduceLT, Nat.reduceEqDiff, Nat.reduceAdd, Nat.reduceMul, Int.reduceToNat, h1, h2, u0, u1, List.length_map, Int.reduceToNat]
      have : (plE X ((k : Int), b)).isSome = decide ([(k : Int), b] = [(X.length : Int), 0]) := by
        by_cases he : [(k : Int), b] = [(X.length : Int), 0]
        · obtain ⟨q1, q2⟩ := last.2 he
          rw [plE, if_pos ⟨h1, by dsimp only; omega, .inr ⟨q1, q2⟩⟩]; simp [he]
        · rw [plE, if_neg]
          · simp [he]
          · rintro ⟨_, _, ⟨q, _⟩ | ⟨q1, q2⟩⟩
            · exact h2 q
            · exact he (last.1 ⟨q1, q2⟩)
      rw [this]; exact .tree _ rfl
  · simp only [c48, go_sem, Nat.reduceLeDiff, ↓reduceIte, reduceCtorEq, Nat.reduceLT, Nat.reduceEqDiff, Nat.reduceAdd, Nat.reduceMul, Int.reduceToNat, h1, u0, u1, List.length_map, Int.reduceToNat]
    have hne : ([a, b] = [(X.length : Int), 0]) = False := eq_false fun h => by simp at h; omega
    have : (plE X (a, b)).isSome = decide ([a, b] = [(X.length : Int), 0]) := by
      rw [plE, if_neg (by rintro ⟨q, _⟩; exact h1 q)]; simp [hne]
    rw [this]; exact .tree _ rfl
theorem Before_s (a b : Int × Int) : Ctr Try.prog 49 [vpair a, vpair b] (vb (decide (a.1 < b.1 ∨ (a.1 = b.1 ∧ a.2 < b.2)))) := by
  refine specE f49 (by simp) fun F0 w0 => ?_
  have u0 : (0 : Int) ≤ 0 := by omega
  have u1 : (0 : Int) < ((2 : Nat) : Int) := by omega
  have u2 : (0 : Int) ≤ 1 := by omega
  have u3 : (1 : Int) < ((2 : Nat) : Int) := by omega
  by_cases h1 : a.1 < b.1
  · simp only [c49, go_sem, ↓reduceIte, reduceCtorEq, Nat.reduceLT, Nat.reduceEqDiff, Nat.reduceAdd, Nat.reduceMul, Int.reduceToNat, h1, u0, u1, Int.reduceToNat]
    exact .tree _ rfl
  · by_cases h2 : a.1 = b.1
    · by_cases h3 : a.2 < b.2
      · have h1' : ¬ b.1 < b.1 := by omega
        simp only [c49, go_sem, ↓reduceIte, reduceCtorEq, Nat.reduceLT, Nat.reduceEqDiff, Nat.reduceAdd, Nat.reduceMul, Int.reduceToNat, h1', h2, h3, u0, u1, u2, u3, Int.reduceToNat]
        exact .tree _ rfl
      · have h1' : ¬ b.1 < b.1 := by omega
        simp only [c49, go_sem, ↓reduceIte, reduceCtorEq, Nat.reduceLT, Nat.reduceEqDiff, Nat.reduceAdd, Nat.reduceMul, Int.reduceToNat, h1', h2, h3, u0, u1, u2, u3, Int.reduceToNat]
        exact .tree _ rfl
    · simp only [c49, go_sem, ↓reduceIte, reduceCtorEq, Nat.reduceLT, Nat.reduceEqDiff, Nat.reduceAdd, Nat.reduceMul, Int.reduceToNat, h1, h2, u0, u1, Int.reduceToNat]
      exact .tree _ rfl
theorem walkE_append {X : List (List (List Int))} {width : Int} : ∀ (es fs : List (Int × Int)) (p : Place) (s : Int), walkE X width (es ++ fs) p s = (walkE X width es p s).bind fun q => walkE X width fs q.1 q.2
  | [], fs, p, s => rfl
  | a :: es, fs, p, s => by
    simp only [List.cons_append, walkE]
    cases stepE X width p a with
    | none => rfl
    | some x => exact walkE_append es fs _ _
theorem walk_take {X : List (List (List Int))} {width : Int} {E : List (Int × Int)} {k : Nat} (hk : k < E.length) {p : Place} {s : Int} (h : walkE X width (E.take k) (0, 0) 0 = some (p, s)) :
    walkE X width (E.take (k + 1)) (0, 0) 0 = (stepE X width p E[k]).map fun x => (x.1, s + payE X width x) := by
  rw [List.take_succ_eq_append_getElem hk, walkE_append, h]
  simp only [Option.bind_some, walkE]
  cases stepE X width p E[k] <;> rfl
theorem walk_fail {X : List (List (List Int))} {width : Int} {E : List (Int × Int)} {k : Nat} (hk : k < E.length) {p : Place} {s : Int} (h : walkE X width (E.take k) (0, 0) 0 = some (p, s)) (hn : stepE X width p E[k] = none) : walkE X width E (0, 0) 0 = none := by
  conv => lhs; rw [← List.take_append_drop (k + 1) E]
  rw [walkE_append, walk_take hk h, hn]; rfl
set_option maxRecDepth 100000 in
set_option maxHeartbeats 4000000 in
theorem Cost_s (X : List (List (List Int))) (width : Int) (E : List (Int × Int)) (hv : validB X width = true) (hE : E.length ≤ 1000000) : Ctr Try.prog 36 [vwords X, vi width, vpairs E] (vi (costM X width E)) := by
  obtain ⟨hV, hw⟩ := validB_VW hv
  have hl := hV.1
  refine specC f36 (by simp) fun F0 w0 => ?_
  have stt : ∀ (p : Place) (s : Int) (k : Nat), ∃ st : Est, st = ⟨[(0, vwords X), (1, vi width), (2, vpairs E), (7, .ref 0 1 0 0), (8, vi s), (9, vi k)], [.arr 1 2 64 [vplace p]]⟩ := fun p s k => ⟨_, rfl⟩
  unfold c36
  refine CwpE.cut (st := ⟨[(0, vwords X), (1, vi width), (2, vpairs E)], []⟩) ?_ ?_
  · simp only [go_sem, ↓reduceIte, Nat.reduceLT, Nat.reduceAdd]
    exact ⟨_, WkE.keep (by simp only [go_sem, ↓reduceIte, reduceCtorEq, Nat.reduceEqDiff]), rfl⟩
  refine CwpE.cut (st := ⟨[(0, vwords X), (1, vi width), (2, vpairs E), (7, .ref 0 1 0 0)], [.arr 1 2 64 [vplace (0, 0)]]⟩) ?_ ?_
  · simp only [go_sem, ↓reduceIte, Nat.reduceLT, Nat.reduceEqDiff, Nat.reduceAdd]
    exact ⟨_, WkE.keep (by simp only [go_sem, ↓reduceIte, reduceCtorEq, Nat.reduceEqDiff]), rfl⟩
  refine CwpE.cut (st := ⟨[(0, vwords X), (1, vi width), (2, vpairs E), (7, .ref 0 1 0 0), (8, vi 0)], [.arr 1 2 64 [vplace (0, 0)]]⟩) ?_ ?_
  · simp only [go_sem, ↓reduceIte, Nat.reduceLT]
    exact ⟨_, WkE.keep (by simp only [go_sem, ↓reduceIte, reduceCtorEq, Nat.reduceEqDiff]), rfl⟩
  refine CwpE.seqJ (fun st => ∃ p s, walkE X width E (0, 0) 0 = some (p, s) ∧ st = ⟨[(0, vwords X), (7, .ref 0 1 0 0), (8, vi s)], [.arr 1 2 64 [vplace p]]⟩) ?_ ?_
  · refine CwpE.cut (st := ⟨[(0, vwords X), (1, vi width), (2, vpairs E), (7, .ref 0 1 0 0), (8, vi 0), (9, vi (0 : Nat))], [.arr 1 2 64 [vplace (0, 0)]]⟩) ?_ ?_
    · simp only [go_sem, ↓reduceIte, Nat.reduceLT]
      exact ⟨_, WkE.keep (by simp only [go_sem, ↓reduceIte, reduceCtorEq, Nat.reduceEqDiff]; rfl), rfl⟩
    refine CwpE.block ?_
    refine loopXC 0 (fun m st => ∃ (k : Nat) (p : Place) (s : Int), k + m = E.length ∧ walkE X width (E.take k) (0, 0) 0 = some (p, s) ∧ st = ⟨[(0, vwords X), (1, vi width), (2, vpairs E), (7, .ref 0 1 0 0), (8, vi s), (9, vi k)], [.arr 1 2 64 [vplace p]]⟩)
      (fun st => ∃ p s, walkE X width E (0, 0) 0 = some (p, s) ∧ st = ⟨[(0, vwords X), (7, .ref 0 1 0 0), (8, vi s)], [.arr 1 2 64 [vplace p]]⟩) E.length _ (.refl _ _) ⟨0, (0, 0), 0, by omega, rfl, rfl⟩ ?_ ?_
    rotate_left
    · rintro st ⟨p, s, h1, rfl⟩
      simp only [inBlockE, if_true, thenE]
      exact ⟨_, .refl _ _, p, s, h1, rfl⟩
    rintro m st ⟨k, p, s, hk, hwk, rfl⟩
    have hbd := walkE_bd hV hw _ _ _ _ _ (En.zero hV) hwk
    have hr0 := rem_le hV (0, 0)
    by_cases hlt : k < E.length
    · have h1 : (k : Int) < (E.length : Int) := by omega
      have h0 : (0 : Int) ≤ (k : Int) := by omega
      have hww : IntKind.i64.wrap ((k : Int) + 1) = ((k + 1 : Nat) : Int) := by rw [wrap_id (by omega) (by omega)]; omega
      have hek : (E.map vpair)[k]? = some (vpair E[k]) := by rw [List.getElem?_map, List.getElem?_eq_getElem hlt]; rfl
      have hs0 := hwk
      cases hst : stepE X width p E[k] with
      | some x =>
        obtain ⟨hpl, hlx, hex, hsz, hle, he, hpay, _⟩ := stepE_some hV hw hbd.1 hst
        have hb := priceL_bd hV hw hpl hlx hex
        have hrl := rem_lt hV hpl hlx hex
        have hnext : walkE X width (E.take (k + 1)) (0, 0) 0 = some (x.1, s + priceL X width p x.1) := by rw [walk_take hlt hwk, hst, ← hpay]; rfl
        have hws : IntKind.i64.wrap (s + priceL X width p x.1) = s + priceL X width p x.1 := wrap_id (by omega) (by omega)
        have hIs := Is_s X E[k] hV
        rw [← he, plE_of hex] at hIs
        have hBf := Before_s ((p.1 : Int), (p.2 : Int)) (((x.1.1 : Nat) : Int), ((x.1.2 : Nat) : Int))
        have hBt : decide ((p.1 : Int) < (x.1.1 : Int) ∨ ((p.1 : Int) = (x.1.1 : Int) ∧ (p.2 : Int) < (x.1.2 : Int))) = true := by
          rw [decide_eq_true_iff]
          rcases hlx with h | ⟨h, h2⟩
          · exact .inl (by omega)
          · exact .inr ⟨by omega, by omega⟩
        simp only [hBt] at hBf
        have hSz := Size_s X p x.1 hV hpl hlx hex
        have hPr := Price_s X width p x.1 hV hw hpl hlx hex
        have hng : ¬ width < sizeL X p x.1 := by omega
        rw [← he] at hek
        refine CwpE.vc ?_
        simp only [go_sem, ↓reduceIte, reduceCtorEq, Nat.reduceLT, Nat.reduceEqDiff, Nat.reduceAdd, h1, h0, hek, List.length_map, Int.toNat_natCast]
        refine callT hIs rfl ?_
        simp only [go_sem, ↓reduceIte, reduceCtorEq, Nat.reduceLT, Nat.reduceEqDiff, Nat.reduceAdd, h0, hek, Int.toNat_natCast, Option.isSome_some]
        refine callT hBf rfl ?_
        simp only [go_sem, ↓reduceIte, reduceCtorEq, Nat.reduceLT, Nat.reduceEqDiff, Nat.reduceAdd, h0, hek, Int.toNat_natCast]
        refine callT hSz rfl ?_
        simp only [go_sem, ↓reduceIte, reduceCtorEq, Nat.reduceLT, Nat.reduceEqDiff, Nat.reduceAdd, h0, hek, Int.toNat_natCast, hng]
        refine callT hPr rfl ?_
        simp only [go_sem, ↓reduceIte, reduceCtorEq, Nat.reduceLT, Nat.reduceEqDiff, Nat.reduceAdd, h0, hek, Int.toNat_natCast, hws, hww]
        exact ⟨E.length - (k + 1), ⟨[(0, vwords X), (1, vi width), (2, vpairs E), (7, .ref 0 1 0 0), (8, vi (s + priceL X width p x.1)), (9, vi (k + 1 : Nat))], [.arr 1 2 64 [vplace x.1]]⟩, by omega, WkE.keep (by simp only [go_sem, ↓reduceIte, reduceCtorEq, Nat.reduceEqDiff]), k + 1, x.1, _, by omega, hnext, rfl⟩
      | none =>
        have hres : costM X width E = -1 := by rw [costM, walk_fail hlt hwk hst]
        rw [hres]
        have hIs := Is_s X E[k] hV
        cases hp : plE X E[k] with
        | none =>
          rw [hp] at hIs
          refine CwpE.vc ?_
          simp only [go_sem, ↓reduceIte, reduceCtorEq, Nat.reduceLT, Nat.reduceEqDiff, Nat.reduceAdd, h1, h0, hek, List.length_map, Int.toNat_natCast]
          refine callT hIs rfl ?_
          simp only [go_sem, ↓reduceIte, Nat.reduceLT, Nat.reduceEqDiff, Option.isSome_none]
          exact .tree _ rfl
        | some t =>
          rw [hp] at hIs
          obtain ⟨he, hEt⟩ := plE_some hp
          rw [he] at hek hIs hst
          have hBf := Before_s ((p.1 : Int), (p.2 : Int)) ((t.1 : Int), (t.2 : Int))
          by_cases hlx : Lt p t
          · have hBt : decide ((p.1 : Int) < (t.1 : Int) ∨ ((p.1 : Int) = (t.1 : Int) ∧ (p.2 : Int) < (t.2 : Int))) = true := by
              rw [decide_eq_true_iff]
              rcases hlx with h | ⟨h, h2⟩
              · exact .inl (by omega)
              · exact .inr ⟨by omega, by omega⟩
            simp only [hBt] at hBf
            have hpl : Pl X p := by
              rcases hbd.1.cases with rfl | h
              · exfalso
                rcases hEt with ⟨g1, g2⟩ | ⟨g1, g2⟩ <;> rcases hlx with h | ⟨h, h3⟩ <;> simp at * <;> omega
              · exact h
            rw [stepE_iff hV hpl] at hst
            split at hst
            · cases hst
            rename_i hnm
            rw [line_iff hV hpl] at hnm
            have hng : width < sizeL X p t := by
              have : ¬ sizeL X p t ≤ width := fun h => hnm ⟨hEt, hlx, h⟩
              omega
            have hSz := Size_s X p t hV hpl hlx hEt
            refine CwpE.vc ?_
            simp only [go_sem, ↓reduceIte, reduceCtorEq, Nat.reduceLT, Nat.reduceEqDiff, Nat.reduceAdd, h1, h0, hek, List.length_map, Int.toNat_natCast]
            refine callT hIs rfl ?_
            simp only [go_sem, ↓reduceIte, reduceCtorEq, Nat.reduceLT, Nat.reduceEqDiff, Nat.reduceAdd, h0, hek, Int.toNat_natCast, Option.isSome_some]
            refine callT hBf rfl ?_
            simp only [go_sem, ↓reduceIte, reduceCtorEq, Nat.reduceLT, Nat.reduceEqDiff, Nat.reduceAdd, h0, hek, Int.toNat_natCast]
            refine callT hSz rfl ?_
            simp only [go_sem, ↓reduceIte, reduceCtorEq, Nat.reduceLT, Nat.reduceEqDiff, hng]
            exact .tree _ rfl
          · have hBt : decide ((p.1 : Int) < (t.1 : Int) ∨ ((p.1 : Int) = (t.1 : Int) ∧ (p.2 : Int) < (t.2 : Int))) = false := by
              rw [decide_eq_false_iff_not]
              rintro (h | ⟨h, h2⟩)
              · exact hlx (.inl (by omega))
              · exact hlx (.inr ⟨by omega, by omega⟩)
            simp only [hBt] at hBf
            refine CwpE.vc ?_
            simp only [go_sem, ↓reduceIte, reduceCtorEq, Nat.reduceLT, Nat.reduceEqDiff, Nat.reduceAdd, h1, h0, hek, List.length_map, Int.toNat_natCast]
            refine callT hIs rfl ?_
            simp only [go_sem, ↓reduceIte, reduceCtorEq, Nat.reduceLT, Nat.reduceEqDiff, Nat.reduceAdd, h0, hek, Int.toNat_natCast, Option.isSome_some]
            refine callT hBf rfl ?_
            simp only [go_sem, ↓reduceIte, Nat.reduceLT, Nat.reduceEqDiff]
            exact .tree _ rfl
    · obtain rfl : k = E.length := by omega
      have h1 : ¬ (E.length : Int) < (E.length : Int) := by omega
      rw [List.take_length] at hwk
      refine CwpE.vc ?_
      simp only [go_sem, ↓reduceIte, reduceCtorEq, Nat.reduceLT, Nat.reduceEqDiff, h1, List.length_map]
      exact ⟨_, WkE.keep (by simp only [go_sem, ↓reduceIte, reduceCtorEq, Nat.reduceEqDiff]), p, s, hwk, rfl⟩
  · rintro st ⟨p, s, hwk, rfl⟩
    by_cases hp : p = endP X
    · have hres : costM X width E = s := by rw [costM, hwk]; simp [hp]
      rw [hres]
      subst hp
      have heq : ([(X.length : Int), ((0 : Nat) : Int)] = [(X.length : Int), 0]) = True := eq_true (by simp)
      refine CwpE.vc ?_
      simp only [go_sem, Nat.reduceLeDiff, ↓reduceIte, reduceCtorEq, Nat.reduceLT, Nat.reduceEqDiff, Nat.reduceAdd, List.length_map, heq]
      exact .tree _ rfl
    · have hres : costM X width E = -1 := by rw [costM, hwk]; simp [hp]
      rw [hres]
      have hne : ([(p.1 : Int), (p.2 : Int)] = [(X.length : Int), 0]) = False := eq_false fun h => by
        simp at h
        exact hp (Prod.ext (by show p.1 = X.length; omega) (by show p.2 = 0; omega))
      refine CwpE.vc ?_
      simp only [go_sem, Nat.reduceLeDiff, ↓reduceIte, reduceCtorEq, Nat.reduceLT, Nat.reduceEqDiff, Nat.reduceAdd, List.length_map, hne]
      exact .tree _ rfl
end Go.Proofs.Ytehelanfgepcmaa
set_option linter.unusedSimpArgs false
set_option linter.unusedVariables false
set_option linter.unusedSectionVars false
namespace Go.Proofs.Ytehelanfgepcmaa
open Go Go.RowKit Dak
/-- The row that is handed over for a place is the step to it. -/
theorem stepE_of {X : List (List (List Int))} {width : Int} {p : Place} {e : Int × Int} {y : Place × Int} (hV : VW X) (hp : En X p) (hy : y ∈ linesX X width p) (h : isAt e y = true) : stepE X width p e = some y := by
  have hpl : Pl X p := by
    rcases hp.cases with rfl | hpl
    · rw [lines_end] at hy; simp at hy
    · exact hpl
  have hs : (stepE X width p e).isSome = true := by
    rw [stepE, List.find?_isSome]; exact ⟨y, hy, h⟩
  obtain ⟨z, hz⟩ := Option.isSome_iff_exists.1 hs
  rw [hz]
  obtain ⟨q1, q2⟩ := isAt_iff.1 h
  obtain ⟨r1, r2⟩ := isAt_iff.1 (List.find?_some hz)
  obtain ⟨_, _, _, h4, _⟩ := line_mem hV hpl hy
  obtain ⟨_, _, _, k4, _⟩ := line_mem hV hpl (List.mem_of_find?_eq_some hz)
  have e1 : z.1 = y.1 := Prod.ext (by omega) (by omega)
  rw [Prod.ext e1 (by rw [k4, h4, e1])]
theorem lines_size {X : List (List (List Int))} {width : Int} {p : Place} {y : Place × Int} (hV : VW X) (hp : En X p) (hy : y ∈ linesX X width p) : 0 ≤ y.2 ∧ y.2 ≤ width := by
  have hpl : Pl X p := by
    rcases hp.cases with rfl | hpl
    · rw [lines_end] at hy; simp at hy
    · exact hpl
  obtain ⟨_, h2, h3, h4, h5⟩ := line_mem hV hpl hy
  exact ⟨by rw [h4]; exact (sizeL_bd hV hpl h2 h3).1, h5⟩
abbrev cObjs (X : List (List (List Int))) (width : Int) (E : List (Int × Int)) (Lt : List (List Int)) (p : Place) (s : Int) : List AObj := [.arr 1 1 3 [vi width], .arr 1 2 30 [vcert (E, Lt)], .arr 1 2 64 [vplace p], .arr 1 2 64 [vpair (X.length, 0)], .arr 1 1 3 [vi s]]
abbrev cEnv (X : List (List (List Int))) (Lt : List (List Int)) : List (Nat × AV) := [(0, vwords X), (4, .ref 0 1 0 0), (7, .mapd 6 (mapL X Lt)), (8, .ref 2 1 0 0), (9, .ref 3 1 0 0), (10, .ref 4 1 0 0)]
theorem lk_inn {m : Nat} : ∀ {env : List (Nat × AV)}, (env.all fun p => p.2.inn m) = true → ∀ t, (lk env t).inn m = true
  | [], _, t => rfl
  | p :: env, h, t => by
    simp only [List.all_cons, Bool.and_eq_true] at h
    simp only [lk]
    split
    · exact h.1
    · exact lk_inn h.2 t
theorem nmL_map {α : Type} (f : α → AV) (hf : ∀ x, (f x).nm = true) : ∀ l : List α, AV.nmL (l.map f) = true
  | [] => rfl
  | x :: l => by simp only [List.map_cons, AV.nmL, hf, nmL_map f hf l, Bool.and_self]
theorem nm_vi (n : Int) : (vi n).nm = true := by simp [AV.nm]
theorem nm_pair (p : Int × Int) : (vpair p).nm = true := by simp [AV.nm, AV.nmL]
theorem nm_pairs (l : List (Int × Int)) : (vpairs l).nm = true := by simp only [AV.nm]; exact nmL_map _ nm_pair _
theorem nm_ints (l : List Int) : (vints l).nm = true := by simp only [AV.nm]; exact nmL_map _ nm_vi _
theorem nm_rows (l : List (List Int)) : (vrows l).nm = true := by simp only [AV.nm]; exact nmL_map _ nm_ints _
theorem nm_cert (c : List (Int × Int) × List (List Int)) : (vcert c).nm = true := by simp only [AV.nm, AV.nmL, nmL_map _ nm_pair, nmL_map _ nm_ints, Bool.and_self]
theorem cObjs_nm (X : List (List (List Int))) (width : Int) (E : List (Int × Int)) (Lt : List (List Int)) (p : Place) (s : Int) (e : Int × Int) : ((cObjs X width E Lt p s ++ [AObj.arr 1 2 64 [vpair e]]).all AObj.nm) = true := by
  simp [AObj.nm, AV.nmL, nm_vi, nm_cert, nm_pair, mapT]
set_option maxRecDepth 100000 in
set_option maxHeartbeats 4000000 in
theorem Check_s (X : List (List (List Int))) (width : Int) (E : List (Int × Int)) (Lt : List (List Int)) (hX : I64w X) (hwd : I64 width) (hE : E.length ≤ 1000000) (hL : Lt.length ≤ 1000000) (hr : ∀ x ∈ Lt, x.length ≤ 1000000) : Ctr Try.prog 30 [vwords X, vi width, vcert (E, Lt)] (vi (checkM X width E Lt)) := by
  refine specC f30 (by simp) fun F0 w0 => ?_
  unfold c30
  refine CwpE.cut (st := ⟨[(0, vwords X), (4, .ref 0 1 0 0), (5, .ref 1 1 0 0)], [.arr 1 1 3 [vi width], .arr 1 2 30 [vcert (E, Lt)]]⟩) ?_ ?_
  · simp only [go_sem, ↓reduceIte, reduceCtorEq, Nat.reduceLT, Nat.reduceEqDiff, Nat.reduceAdd]
    exact ⟨_, WkE.keep (by simp only [go_sem, ↓reduceIte, reduceCtorEq, Nat.reduceEqDiff]), rfl⟩
  refine CwpE.scope ?_
  by_cases hv : validB X width = true
  rotate_left
  · refine CwpE.step (fun _ => False) ?_ (fun _ h => h.elim)
    have hres : checkM X width E Lt = 1 := by rw [checkM, if_neg hv]
    rw [hres]
    have hvs := valid_s X width hX hwd
    rw [Bool.not_eq_true] at hv
    rw [hv] at hvs
    simp only [go_sem, ↓reduceIte, reduceCtorEq, Nat.reduceLT, Nat.reduceEqDiff]
    refine callT hvs rfl ?_
    simp only [go_sem, ↓reduceIte, Nat.reduceLT]
    exact .tree _ rfl
  obtain ⟨hV, hw⟩ := validB_VW hv
  refine CwpE.cut (st := ⟨[(0, vwords X), (4, .ref 0 1 0 0), (5, .ref 1 1 0 0)], [.arr 1 1 3 [vi width], .arr 1 2 30 [vcert (E, Lt)]]⟩) ?_ ?_
  · have hvs := valid_s X width hX hwd
    rw [hv] at hvs
    simp only [go_sem, ↓reduceIte, reduceCtorEq, Nat.reduceLT, Nat.reduceEqDiff]
    refine callT hvs rfl ?_
    simp only [go_sem, ↓reduceIte, Nat.reduceLT]
    exact ⟨_, WkE.keep (by simp only [go_sem, ↓reduceIte, reduceCtorEq, Nat.reduceEqDiff]), rfl⟩
  refine CwpE.cut (st := ⟨[(0, vwords X), (4, .ref 0 1 0 0), (5, .ref 1 1 0 0), (7, .mapd 6 (mapL X (tableL X width)))], [.arr 1 1 3 [vi width], .arr 1 2 30 [vcert (E, Lt)]]⟩) ?_ ?_
  · simp only [go_sem, ↓reduceIte, reduceCtorEq, Nat.reduceLT, Nat.reduceEqDiff]
    refine callT (costs_s X width hV hw) rfl ?_
    simp only [go_sem, ↓reduceIte, Nat.reduceLT]
    exact ⟨_, WkE.keep (by simp only [go_sem, ↓reduceIte, reduceCtorEq, Nat.reduceEqDiff]), rfl⟩
  by_cases hl : Lt = tableL X width
  rotate_left
  · refine CwpE.step (fun _ => False) ?_ (fun _ h => h.elim)
    have hres : checkM X width E Lt = 19 := by rw [checkM, if_pos hv, if_neg hl]
    rw [hres]
    simp only [go_sem, ↓reduceIte, reduceCtorEq, Nat.reduceLT, Nat.reduceEqDiff]
    refine callT (table_s X width hV hw) rfl ?_
    simp only [go_sem, ↓reduceIte, reduceCtorEq, Nat.reduceLT, Nat.reduceEqDiff]
    refine callT (EqualFunc46_s Lt (tableL X width) (by omega) fun x hx => by have := hr x hx; omega) rfl ?_
    simp only [go_sem, ↓reduceIte, Nat.reduceLT, hl]
    exact .tree _ rfl
  subst hl
  refine CwpE.cut (st := ⟨[(0, vwords X), (4, .ref 0 1 0 0), (5, .ref 1 1 0 0), (7, .mapd 6 (mapL X (tableL X width)))], [.arr 1 1 3 [vi width], .arr 1 2 30 [vcert (E, tableL X width)]]⟩) ?_ ?_
  · simp only [go_sem, ↓reduceIte, reduceCtorEq, Nat.reduceLT, Nat.reduceEqDiff]
    refine callT (table_s X width hV hw) rfl ?_
    simp only [go_sem, ↓reduceIte, reduceCtorEq, Nat.reduceLT, Nat.reduceEqDiff]
    refine callT (EqualFunc46_s (tableL X width) (tableL X width) (by omega) fun x hx => by have := hr x hx; omega) rfl ?_
    simp only [go_sem, ↓reduceIte, Nat.reduceLT]
    exact ⟨_, WkE.keep (by simp only [go_sem, ↓reduceIte, reduceCtorEq, Nat.reduceEqDiff]), rfl⟩
  generalize hLt : tableL X width = Lt at *
  refine CwpE.cut (st := ⟨(5, .ref 1 1 0 0) :: cEnv X Lt, cObjs X width E Lt (0, 0) 0⟩) ?_ ?_
  · skip
    simp only [go_sem, Nat.reduceLeDiff, ↓reduceIte, reduceCtorEq, Nat.reduceLT, Nat.reduceEqDiff, Nat.reduceAdd, List.length_map]
    exact ⟨_, WkE.keep (by simp only [go_sem, ↓reduceIte, reduceCtorEq, Nat.reduceEqDiff]), rfl⟩
  refine CwpE.cut (st := ⟨(5, .ref 1 1 0 0) :: cEnv X Lt, cObjs X width E Lt (0, 0) 0⟩) ?_ ?_
  · simp only [go_sem]
    exact ⟨_, .refl _ _, rfl⟩
  refine CwpE.seqJ (fun st => ∃ p s, walkE X width E (0, 0) 0 = some (p, s) ∧ st = ⟨cEnv X Lt, cObjs X width E Lt p s⟩) ?_ ?_
  · refine CwpE.cut (st := ⟨cEnv X Lt ++ [(36, vpairs E), (37, vi E.length), (38, vi (0 : Nat))], cObjs X width E Lt (0, 0) 0⟩) ?_ ?_
    · skip
      simp only [go_sem, ↓reduceIte, Nat.reduceLT, List.length_map]
      exact ⟨_, WkE.keep (by simp only [go_sem, ↓reduceIte, reduceCtorEq, Nat.reduceEqDiff]; rfl), rfl⟩
    refine CwpE.block ?_
    refine loopXC 0 (fun m st => ∃ (k : Nat) (p : Place) (s : Int), k + m = E.length ∧ walkE X width (E.take k) (0, 0) 0 = some (p, s) ∧ st = ⟨cEnv X Lt ++ [(36, vpairs E), (37, vi E.length), (38, vi k)], cObjs X width E Lt p s⟩)
      (fun st => ∃ p s, walkE X width E (0, 0) 0 = some (p, s) ∧ st = ⟨cEnv X Lt, cObjs X width E Lt p s⟩) E.length _ (.refl _ _) ⟨0, (0, 0), 0, by omega, rfl, rfl⟩ ?_ ?_
    rotate_left
    · rintro st ⟨p, s, h1, rfl⟩
      simp only [inBlockE, if_true, thenE]
      exact ⟨_, .refl _ _, p, s, h1, rfl⟩
    rintro m st ⟨k, p, s, hk, hwk, rfl⟩
    obtain ⟨hpE, hs0, hs1⟩ := walkE_bd hV hw _ _ _ _ _ (En.zero hV) hwk
    have hr0 := rem_le hV (0, 0)
    by_cases hlt : k < E.length
    · have h1 : (k : Int) < (E.length : Int) := by omega
      have h0 : (0 : Int) ≤ (k : Int) := by omega
      have hww : IntKind.i64.wrap ((k : Int) + 1) = ((k + 1 : Nat) : Int) := by rw [wrap_id (by omega) (by omega)]; omega
      have hek : (E.map vpair)[k]? = some (vpair E[k]) := by rw [List.getElem?_map, List.getElem?_eq_getElem hlt]; rfl
      refine CwpE.cut (st := ⟨cEnv X Lt ++ [(36, vpairs E), (37, vi E.length), (38, vi k), (39, vb true)], cObjs X width E Lt p s⟩) ?_ ?_
      · skip
        simp only [go_sem, ↓reduceIte, reduceCtorEq, Nat.reduceLT, Nat.reduceEqDiff, h1]
        exact ⟨_, WkE.keep (by simp only [go_sem, ↓reduceIte, reduceCtorEq, Nat.reduceEqDiff]), rfl⟩
      refine CwpE.cut (st := ⟨cEnv X Lt ++ [(36, vpairs E), (37, vi E.length), (38, vi k)], cObjs X width E Lt p s⟩) ?_ ?_
      · skip
        simp only [go_sem, ↓reduceIte, reduceCtorEq, Nat.reduceEqDiff]
        exact ⟨_, WkE.keep (by simp only [go_sem, ↓reduceIte, reduceCtorEq, Nat.reduceEqDiff]), rfl⟩
      refine CwpE.seqJ (fun st => ∃ x, stepE X width p E[k] = some x ∧ st = ⟨cEnv X Lt ++ [(36, vpairs E), (37, vi E.length), (38, vi k)], cObjs X width E Lt x.1 (s + payE X width x)⟩) ?_ ?_
      · refine CwpE.block ?_
        refine CwpE.cut (st := ⟨cEnv X Lt ++ [(12, .ref 5 1 0 0), (36, vpairs E), (37, vi E.length), (38, vi k)], cObjs X width E Lt p s ++ [.arr 1 2 64 [vpair E[k]]]⟩) ?_ ?_
        · skip
          simp only [go_sem, ↓reduceIte, reduceCtorEq, Nat.reduceLT, Nat.reduceEqDiff, Nat.reduceAdd, h0, hek, Int.toNat_natCast]
          exact ⟨_, WkE.keep (by simp only [go_sem, ↓reduceIte, reduceCtorEq, Nat.reduceEqDiff]), rfl⟩
        refine CwpE.seqJ (fun st => stepE X width p E[k] = none ∧ st = ⟨[], cObjs X width E Lt p s⟩) ?_ ?_
        · refine CwpE.cut (st := ⟨cEnv X Lt ++ [(12, .ref 5 1 0 0), (36, vpairs E), (37, vi E.length), (38, vi k), (45, linesC X width p)], cObjs X width E Lt p s ++ [.arr 1 2 64 [vpair E[k]]]⟩) ?_ ?_
          · skip
            simp only [go_sem, ↓reduceIte, reduceCtorEq, Nat.reduceLT, Nat.reduceEqDiff, Nat.reduceAdd]
            refine callT (lines_s X width p) rfl ?_
            simp only [go_sem]
            exact ⟨_, WkE.keep (by simp only [go_sem, ↓reduceIte, reduceCtorEq, Nat.reduceEqDiff]), rfl⟩
          refine CwpE.block ?_
          have hlen : (lineRows X width p).length = (linesX X width p).length := by simp
          let at_ : Fin (lineRows X width p).length → Place × Int := fun x => (linesX X width p)[x.val]'(by have := x.isLt; omega)
          have hat : ∀ x : Fin (lineRows X width p).length, (lineRows X width p)[x] = lineA (at_ x) := fun x => by simp [at_]
          have hmem : ∀ x, at_ x ∈ linesX X width p := fun x => List.getElem_mem _
          refine CwpE.rangeF (n := 80) (gf := 54) (caps := [.ptr [vi p.1, vi p.2], .ptr [vwords X], .ptr [vi width]]) (xs := lineRows X width p) rfl rfl (seq_lines X width p hV hw hpE) ?_ ?_ rfl rfl rfl
            (fun pre o => (∀ j ∈ pre, isAt E[k] (at_ j) = false) ∧ o = cObjs X width E Lt p s ++ [.arr 1 2 64 [vpair E[k]]])
            (fun pre e o => ∃ x, stepE X width p E[k] = some x ∧ e = .exit 1 ∧ o = cObjs X width E Lt x.1 (s + payE X width x) ++ [.arr 1 2 64 [vpair E[k]]])
            ⟨by simp, rfl⟩ ?_ ?_ ?_ ?_ ?_
          · exact lk_inn rfl
          · rw [List.all_eq_true]
            intro y hy
            obtain ⟨z, _, rfl⟩ := List.mem_map.1 hy
            rfl
          · rintro pre o ⟨_, rfl⟩
            exact cObjs_nm X width E Lt p s E[k]
          · rintro pre e o ⟨x, _, _, rfl⟩
            exact cObjs_nm X width E Lt x.1 _ E[k]
          · rintro FR WR G pre x o hG ⟨hI, rfl⟩ _ hxl
            rw [show parE [46, 47] (lineRows X width p)[x] (cEnv X Lt ++ [(12, .ref 5 1 0 0), (36, vpairs E), (37, vi E.length), (38, vi k), (45, linesC X width p)]) = (47, vi (at_ x).2) :: (46, vplace (at_ x).1) :: (cEnv X Lt ++ [(12, .ref 5 1 0 0), (36, vpairs E), (37, vi E.length), (38, vi k), (45, linesC X width p)]) by rw [hat]; rfl]
            generalize hy : at_ x = y
            have hym : y ∈ linesX X width p := hy ▸ hmem x
            refine CwpE.post (Q := fun e s' => e = .normal ∧ ∃ s2, WkE 80 s' s2 ∧ s2 = ⟨cEnv X Lt ++ [(12, .ref 5 1 0 0), (13, .ref 7 1 0 0), (14, vi y.2)], cObjs X width E Lt p s ++ [.arr 1 2 64 [vpair E[k]], G, .arr 1 2 64 [vplace y.1]]⟩) ?_ ?_
            · skip
              refine CwpE.vc ?_
              simp only [go_sem, ↓reduceIte, Nat.reduceLT, Nat.reduceEqDiff, Nat.reduceAdd]
              exact ⟨_, WkE.keep (by simp only [go_sem, ↓reduceIte, reduceCtorEq, Nat.reduceEqDiff]), rfl⟩
            rintro e s' ⟨rfl, s2, hk2, rfl⟩
            refine ⟨_, hk2, rfl, ?_, fun FR WR => ?_⟩
            · intro o' ho'
              simp only [List.mem_append] at ho'
              rcases ho' with ho' | ho'
              · have := List.all_eq_true.1 (cObjs_nm X width E Lt p s E[k]) o' (List.mem_append_left _ ho')
                exact .inr this
              · simp only [List.mem_cons, List.not_mem_nil, or_false] at ho'
                rcases ho' with rfl | rfl | rfl
                · exact .inr (by simp [AObj.nm, AV.nmL, nm_pair, mapT])
                · exact .inl rfl
                · exact .inr (by simp [AObj.nm, AV.nmL, nm_pair, mapT])
            · have hGo : ∀ (q : Place) (t : Int), ((cObjs X width E Lt q t ++ [.arr 1 2 64 [vpair E[k]], G]).all fun o => o.innO 7) = true := by
                intro q t
                simp only [List.cons_append, List.nil_append, List.all_cons, List.all_nil, Bool.and_true, Bool.and_eq_true]
                exact ⟨rfl, rfl, rfl, rfl, rfl, rfl, hG 7 (by simp)⟩
              refine CwpE.block ?_
              cases hq : isAt E[k] y with
              | false =>
                have hne : ([(y.1.1 : Int), (y.1.2 : Int)] = [E[k].1, E[k].2]) = False := eq_false fun h => by
                  simp only [List.cons.injEq, and_true] at h
                  rw [isAt_iff.2 h] at hq; cases hq
                refine CwpE.vc ?_
                simp only [go_sem, ↓reduceIte, reduceCtorEq, Nat.reduceLT, Nat.reduceEqDiff, Nat.reduceAdd, hne]
                refine ⟨cObjs X width E Lt p s ++ [.arr 1 2 64 [vpair E[k]]], rfl, WkE.round trivial rfl (hGo p s) rfl, ?_, rfl⟩
                intro j hj
                rcases List.mem_append.1 hj with hj | hj
                · exact hI j hj
                · obtain rfl := List.mem_singleton.1 hj
                  rw [hy]; exact hq
              | true =>
                have heq : ([(y.1.1 : Int), (y.1.2 : Int)] = [E[k].1, E[k].2]) = True := eq_true (by
                  obtain ⟨q1, q2⟩ := isAt_iff.1 hq
                  rw [q1, q2])
                have hst := stepE_of hV hpE hym hq
                obtain ⟨hpl, hlx, hex, _, _, _, hpay, _⟩ := stepE_some hV hw hpE hst
                have hb := priceL_bd hV hw hpl hlx hex
                have hrl := rem_lt hV hpl hlx hex
                rw [← hpay] at hb
                have hsz := lines_size hV hpE hym
                have hwf : IntKind.i64.wrap (width - y.2) = width - y.2 := wrap_id (by omega) (by omega)
                have hws : IntKind.i64.wrap (s + payE X width y) = s + payE X width y := wrap_id (by omega) (by omega)
                by_cases hend : y.1 = endP X
                · have hp1 : ([(y.1.1 : Int), (y.1.2 : Int)] = [(X.length : Int), 0]) = True := eq_true (by rw [hend]; simp)
                  have hpy : payE X width y = 4294967296 := by rw [payE, if_pos hend]
                  rw [hpy] at hws
                  refine CwpE.vc ?_
                  simp only [go_sem, ↓reduceIte, reduceCtorEq, Nat.reduceLT, Nat.reduceEqDiff, Nat.reduceAdd, heq, hp1, hwf]
                  refine callT (price_last_s _) rfl ?_
                  simp only [go_sem, ↓reduceIte, reduceCtorEq, Nat.reduceLT, Nat.reduceEqDiff, Nat.reduceAdd, hws]
                  exact ⟨cObjs X width E Lt y.1 (s + 4294967296) ++ [.arr 1 2 64 [vpair E[k]]], rfl, WkE.round trivial rfl (hGo y.1 _) rfl, y, hst, rfl, by rw [hpy]; rfl⟩
                · have hp1 : ([(y.1.1 : Int), (y.1.2 : Int)] = [(X.length : Int), 0]) = False := eq_false fun h => by
                    simp at h
                    exact hend (Prod.ext (by show y.1.1 = X.length; omega) (by show y.1.2 = 0; omega))
                  have hpy : payE X width y = 4294967296 + (width - y.2) * (width - y.2) := by rw [payE, if_neg hend]
                  rw [hpy] at hws
                  refine CwpE.vc ?_
                  simp only [go_sem, ↓reduceIte, reduceCtorEq, Nat.reduceLT, Nat.reduceEqDiff, Nat.reduceAdd, heq, hp1, hwf]
                  refine callT (price_s _ (by omega)) rfl ?_
                  simp only [go_sem, ↓reduceIte, reduceCtorEq, Nat.reduceLT, Nat.reduceEqDiff, Nat.reduceAdd, hws]
                  exact ⟨cObjs X width E Lt y.1 (s + (4294967296 + (width - y.2) * (width - y.2))) ++ [.arr 1 2 64 [vpair E[k]]], rfl, WkE.round trivial rfl (hGo y.1 _) rfl, y, hst, rfl, by rw [hpy]; rfl⟩
          · rintro G o hG ⟨hI, rfl⟩ _
            refine ⟨⟨[], cObjs X width E Lt p s⟩, WkE.round trivial rfl rfl rfl, ?_, rfl⟩
            rw [stepE, List.find?_eq_none]
            intro y hy
            obtain ⟨i, hi, rfl⟩ := List.getElem_of_mem hy
            rw [Bool.not_eq_true]
            exact hI ⟨i, by omega⟩ (List.mem_finRange _)
          · rintro G o e j hG ⟨x, hst, rfl, rfl⟩ _
            refine ⟨⟨cEnv X Lt ++ [(36, vpairs E), (37, vi E.length), (38, vi k)], cObjs X width E Lt x.1 (s + payE X width x)⟩, WkE.round (by simp only [go_sem, ↓reduceIte, reduceCtorEq, Nat.reduceEqDiff]) rfl rfl rfl, x, hst, rfl⟩
        · rintro st ⟨hnone, rfl⟩
          have hres : checkM X width E Lt = 19 := by rw [checkM, if_pos hv, hLt, if_pos rfl, walk_fail hlt hwk hnone]
          rw [hres]
          refine CwpE.vc ?_
          simp only [go_sem, ↓reduceIte, Nat.reduceLT]
          exact .tree _ rfl
      · rintro st ⟨x, hx, rfl⟩
        refine CwpE.vc ?_
        simp only [go_sem, ↓reduceIte, reduceCtorEq, Nat.reduceLT, Nat.reduceEqDiff, hww]
        exact ⟨E.length - (k + 1), ⟨cEnv X Lt ++ [(36, vpairs E), (37, vi E.length), (38, vi (k + 1 : Nat))], cObjs X width E Lt x.1 (s + payE X width x)⟩, by omega, WkE.keep (by simp only [go_sem, ↓reduceIte, reduceCtorEq, Nat.reduceEqDiff]), k + 1, x.1, s + payE X width x, by omega, by rw [walk_take hlt hwk, hx]; rfl, rfl⟩
    · obtain rfl : k = E.length := by omega
      have h1 : ¬ (E.length : Int) < (E.length : Int) := by omega
      rw [List.take_length] at hwk
      refine CwpE.vc ?_
      simp only [go_sem, ↓reduceIte, reduceCtorEq, Nat.reduceLT, Nat.reduceEqDiff, h1]
      exact ⟨_, WkE.keep (by simp only [go_sem, ↓reduceIte, reduceCtorEq, Nat.reduceEqDiff]), p, s, hwk, rfl⟩
  · rintro st ⟨p, s, hwk, rfl⟩
    have hm : mapL X Lt (.a [0, 0]) = (tT X Lt (0, 0)).map (Value.int .i64) := mapL_nat X Lt 0 0
    cases ht : tT X Lt (0, 0) with
    | none =>
      have hres : checkM X width E Lt = 19 := by rw [checkM, if_pos hv, hLt, if_pos rfl, hwk, ht]; simp
      rw [hres]
      rw [ht] at hm
      refine CwpE.vc ?_
      simp only [go_sem, ↓reduceIte, reduceCtorEq, Nat.reduceLT, Nat.reduceEqDiff, hm, Option.map_none, Option.map_some, Option.isSome_none, Option.getD_none, Bool.not_false]
      exact .tree _ rfl
    | some b =>
      rw [ht] at hm
      have hc : checkM X width E Lt = if p = endP X ∧ b = s then 0 else 19 := by rw [checkM, if_pos hv, hLt, if_pos rfl, hwk, ht]; simp
      rw [hc]
      by_cases hp : p = endP X
      · subst hp
        have heq : ([(X.length : Int), ((0 : Nat) : Int)] = [(X.length : Int), 0]) = True := eq_true (by simp)
        by_cases hb : s = b
        · subst hb
          rw [if_pos ⟨rfl, rfl⟩]
          refine CwpE.vc ?_
          simp only [go_sem, ↓reduceIte, reduceCtorEq, Nat.reduceLT, Nat.reduceEqDiff, Nat.reduceAdd, hm, Option.map_some, Option.isSome_some, Option.getD_some, Bool.not_true, heq]
          exact .tree _ rfl
        · rw [if_neg (fun h => hb h.2.symm)]
          refine CwpE.vc ?_
          simp only [go_sem, ↓reduceIte, reduceCtorEq, Nat.reduceLT, Nat.reduceEqDiff, Nat.reduceAdd, hm, Option.map_some, Option.isSome_some, Option.getD_some, Bool.not_true, Bool.not_false, heq, hb]
          exact .tree _ rfl
      · have hne : ([(p.1 : Int), (p.2 : Int)] = [(X.length : Int), 0]) = False := eq_false fun h => by
          simp at h
          exact hp (Prod.ext (by show p.1 = X.length; omega) (by show p.2 = 0; omega))
        rw [if_neg (fun h => hp h.1)]
        refine CwpE.vc ?_
        simp only [go_sem, ↓reduceIte, reduceCtorEq, Nat.reduceLT, Nat.reduceEqDiff, Nat.reduceAdd, hm, Option.map_some, Option.isSome_some, Option.getD_some, Bool.not_true, Bool.not_false, hne]
        exact .tree _ rfl
end Go.Proofs.Ytehelanfgepcmaa
set_option linter.unusedSimpArgs false
set_option linter.unusedVariables false
set_option linter.unusedSectionVars false
namespace Go.Proofs.Ytehelanfgepcmaa
open Go.RowKit Dak
theorem wordL_valid (l : List Int) (w : Nat) : wordOK (wordL l w) = true := by
  have h := wordL_ok l w
  have hl : (wordL l w).length = piecesL l w := by simp [wordL]
  unfold wordOK
  rw [Bool.and_eq_true, decide_eq_true_iff, List.all_eq_true]
  refine ⟨⟨h.pos, by have := h.le; omega⟩, fun i hi => ?_⟩
  have hi : i < (wordL l w).length := List.mem_range.1 hi
  have hg : (wordL l w).getD i [] = (wordL l w)[i] := by simp [hi]
  rw [hg]
  unfold rowOK
  rw [Bool.and_eq_true, decide_eq_true_iff, List.all_eq_true]
  refine ⟨by rw [hl]; simp [wordL, rowGo_len], fun n hn => ?_⟩
  have := h.num _ (List.getElem_mem hi) n hn
  unfold elOK
  rw [decide_eq_true_iff]; omega
theorem validB_of {X : Words3} {w : Int} (h1 : X.length ≤ 512) (h2 : ∀ x ∈ X, wordOK x = true) (hw : 1 ≤ w ∧ w ≤ 512) : validB X w = true := by
  unfold validB
  rw [Bool.and_eq_true, Bool.and_eq_true, decide_eq_true_iff, decide_eq_true_iff, List.all_eq_true]
  exact ⟨⟨h1, hw⟩, h2⟩
theorem wordsL_valid (l : List Int) (most : Int) (h : 0 ≤ most) : ∀ x ∈ wordsL l most, wordOK x = true := by
  intro x hx
  obtain ⟨i, hi, rfl⟩ := List.mem_map.1 hx
  exact wordL_valid l i
theorem walkE_len {X : List (List (List Int))} {width : Int} (hV : VW X) (hw : 1 ≤ width ∧ width ≤ 512) : ∀ (es : List (Int × Int)) (p : Place) (s : Int) (q : Place) (t : Int), En X p → walkE X width es p s = some (q, t) → es.length + rem X q ≤ rem X p
  | [], p, s, q, t, hp, h => by
    simp only [walkE, Option.some.injEq, Prod.mk.injEq] at h
    obtain ⟨rfl, rfl⟩ := h
    simp
  | e :: es, p, s, q, t, hp, h => by
    simp only [walkE] at h
    cases hs : stepE X width p e with
    | none => rw [hs] at h; cases h
    | some x =>
      rw [hs] at h
      obtain ⟨hpl, hl, he, _, _, _, hpay, _⟩ := stepE_some hV hw hp hs
      have hr := rem_lt hV hpl hl he
      have := walkE_len hV hw es x.1 _ q t he h
      rw [List.length_cons]; omega
theorem costM_len {X : List (List (List Int))} {width : Int} {E : List (Int × Int)} (hV : VW X) (hw : 1 ≤ width ∧ width ≤ 512) (h : 0 ≤ costM X width E) : E.length ≤ 8192 := by
  unfold costM at h
  split at h
  · rename_i p s hwk
    have := walkE_len hV hw E _ _ _ _ (En.zero hV) hwk
    have := rem_le hV (0, 0)
    omega
  · omega
theorem costM_bd {X : List (List (List Int))} {width : Int} {E : List (Int × Int)} (hV : VW X) (hw : 1 ≤ width ∧ width ≤ 512) : -1 ≤ costM X width E ∧ costM X width E ≤ 100000000000000000 := by
  unfold costM
  split
  · rename_i p s hwk
    have := walkE_bd hV hw E _ _ _ _ (En.zero hV) hwk
    have := rem_le hV (0, 0)
    split <;> omega
  · omega
abbrev oEnv (X : Words3) (w : Int) (ends : List Int) (e : Int) (i : Nat) : List (Nat × AV) := [(2, vints ends), (7, vwords X), (8, vi w), (9, .ref 0 1 0 0), (10, vi e), (11, .own 2 i 0 i), (12, .ref 1 1 0 0), (13, vi i)]
abbrev oObjs (C : List (Int × Int) × List (List Int)) (p : Place) (oth : List (Int × Int)) : List AObj := [.arr 1 2 30 [vcert C], .arr 1 2 64 [vplace p], .arr oth.length 2 64 (oth.map vpair)]
theorem tab_rows {X : Words3} {K : List (List Int)} (hV : VW X) (h : Shp X K) : ∀ x ∈ K, x.length ≤ 1000000 := by
  intro x hx
  obtain ⟨p, hp, rfl⟩ := List.getElem_of_mem hx
  have h1 := h.1
  have h2 := h.2 p (by omega) hp
  have h3 := (hV.2 p (by omega)).2.1
  omega
theorem oObjs_inn (C : List (Int × Int) × List (List Int)) (p : Place) (oth : List (Int × Int)) (t : Place) : ((oObjs C p oth ++ [AObj.arr 1 2 64 [vplace t]]).all fun o => o.innO 4) = true := by
  have : ((oth.map vpair).all (AV.inn 4)) = true := List.all_eq_true.2 fun y hy => by obtain ⟨z, _, rfl⟩ := List.mem_map.1 hy; rfl
  simp only [List.cons_append, List.nil_append, List.all_cons, List.all_nil, Bool.and_true, Bool.and_eq_true]
  exact ⟨rfl, rfl, this, rfl⟩
end Go.Proofs.Ytehelanfgepcmaa
