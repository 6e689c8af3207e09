import Derived.Test.YtehelanfgepcmaaX
set_option linter.unusedSimpArgs false
set_option linter.unusedVariables false
set_option linter.unusedSectionVars false
namespace Dac
open Go Go.RowKit
theorem Bld.obj {α : Type} {R : Rdr α} {F : Nat → Prop} {w : World} {B : Nat} {e : TypeId} {v : Value} {xs : List α} (h : Bld R F w B e v xs) (k : Nat) (hk : v.ownBlock = some k) : ∃ o, w.heap[k]? = some o ∧ o.isCells = true := by
  obtain ⟨us, ho, hr⟩ := h
  rcases ho.2 with ⟨hn, h0⟩ | ⟨g, cap, cur, hv, hg, hc, _⟩
  · rw [hn] at hk; cases hk
  · rw [hv] at hk
    cases hk
    exact ⟨_, hc, rfl⟩
/-- 'wpList_append_at' inside a fence. -/
theorem wpListIn_append_at {Fe : Fence} {n : Nat} {P : Program} {w W : World} {ops : Array Oper} {rest : List Oper} {o : Oper} {a : Act} {Q : Exit → Act → World → Prop} {α : Type} (R : Rdr α) (F : Nat → Prop) (B : Nat) (hgd : o.guard = none) (s x : Operand) (t : TypeId)
    (ho : o.op = .call { callee := .builtin .append, args := #[s, x], argTypes := #[t, t] })
    (e : TypeId) (i : TypeInfo) (z : Value) (bytes : Nat) (ht : P.underlying t = some (.slice e)) (hi : P.info? e = some i) (hz : i.zero = some z)
    (hsize : i.size = R.size) (hby : i.bytes = bytes) (hzs : z.cells.size = R.size) (hsz : 0 < R.size)
    (v : Value) (xs : List α) (hs : a.eval s = v) (hb : Bld R F w B e v xs)
    (c N : Nat) (es : List Value) (y : α) (hx : a.eval x = .slice (some ⟨N, 0, none⟩) 1 c) (hy : R.rd w (fun k => F k ∧ some k ≠ v.ownBlock) es y)
    (h63 : xs.length + 1 ≤ 9223372036854775807) (hbytes : (xs.length + 1) * bytes ≤ 140737488355328) (hB : B ≤ w.heap.size) (hN : w.heap.size = N)
    (h : ∀ g cap w', Bld R F w' B e (.slice (some ⟨g, 0, none⟩) (xs.length + 1) cap) (xs ++ [y]) → w.grownBy w' v.ownBlock → B ≤ g → (v.ownBlock = some g ∨ w.heap.size ≤ g) →
      wpListIn Fe n P ops Q rest (a.put o.dst (.slice (some ⟨g, 0, none⟩) (xs.length + 1) cap)) w') (hW : W = w.alloc (.cells es.toArray e)) : wpListIn Fe n P ops Q (o :: rest) a W := by
  subst hW
  subst hN
  have hext := Ext.alloc w (.cells es.toArray e)
  obtain ⟨us, hown, hrd⟩ := hb
  have hown1 := hown.alloc (.cells es.toArray e)
  have hcell : ∀ j u, es[j]? = some u → (w.alloc (.cells es.toArray e)).cell? ((⟨w.heap.size, 0, none⟩ : Addr).add j) = some u := by
    intro j u hu
    have hadd : (⟨w.heap.size, 0, none⟩ : Addr).add j = ⟨w.heap.size, j, none⟩ := by unfold Addr.add; split <;> simp_all
    rw [hadd]
    unfold World.cell?
    rw [heap_alloc_new w (.cells es.toArray e)]
    simpa using hu
  obtain ⟨v', w', hr, hown', hg, hv, g, cap, rfl⟩ := own_append (P := P) _ t o.type e i z R.size bytes B ht hi hz hsize hby hzs hsz v xs.length us hown1 ⟨w.heap.size, 0, none⟩ 1 c es (by rw [R.len hy, Nat.one_mul]) hcell (R.one hy) (by omega) h63 hbytes (by rw [World.size_alloc]; omega)
  have hg0 : w.grownBy w' v.ownBlock := ⟨hg.os, hg.tape, hg.output, Nat.le_trans (by simp) hg.size, fun k hk hne => (hg.block k (by simp; omega) hne).trans (heap_alloc_old w _ hk)⟩
  have hb' := Bld.snoc hown1 (fun j hj => R.ext (hrd j hj) hext) (R.ext hy hext) hown' hg hv
  refine wpListIn_plain hgd fun K hK => ?_
  unfold Oper.wpIn
  refine ⟨?_, ?_⟩
  · simp [Oper.about, ho, resolve, Target.leads, Sem.run_pure]
  · rw [Oper.semAt_plain Fe _ _ (by rw [ho]; intro c hc'; cases hc')]
    unfold execOp
    simp only [ho, resolve, invoke, builtin, Sem.run_bind, Sem.run_pure, Result.andThen_ok, List.map_toArray, List.map_cons, List.map_nil, hs, hx, hr]
    refine hK _ _ (h g cap w' hb' hg0 ((World.ownsRow.lt hown') g rfl).1 ?_)
    rcases hv with hv | hv
    · exact .inl hv.symm
    · simp [Value.ownBlock] at hv; exact .inr (by omega)
end Dac
namespace Go.Proofs.Ytehelanfgepcmaa
open Go.RowKit Dac

theorem snoc_ind {α : Type} {P : List α → Prop} (nil : P []) (snoc : ∀ l x, P l → P (l ++ [x])) (l : List α) : P l := by
  have h : ∀ l : List α, P l.reverse := by
    intro l
    induction l with
    | nil => exact nil
    | cons x l ih => rw [List.reverse_cons]; exact snoc _ _ ih
  have := h l.reverse
  rwa [List.reverse_reverse] at this

/-- What Fill picks among the lines from f: the last that costs b. -/
def selStep (X : List (List (List Int))) (T : Place → Option Int) (width : Int) (f : Place) (b : Int) (acc : Place) (x : Place × Int) : Place :=
  match T x.1 with
  | none => acc
  | some c => if c + priceL X width f x.1 = b then x.1 else acc
def selL (X : List (List (List Int))) (T : Place → Option Int) (width : Int) (f : Place) (b : Int) (l : List (Place × Int)) : Place := l.foldl (selStep X T width f b) f
theorem selL_snoc {X : List (List (List Int))} {T : Place → Option Int} {width : Int} {f : Place} {b : Int} (l : List (Place × Int)) (x : Place × Int) :
    selL X T width f b (l ++ [x]) = selStep X T width f b (selL X T width f b l) x := by simp [selL]
theorem selL_mem {X : List (List (List Int))} {T : Place → Option Int} {width : Int} {f : Place} {b : Int} (l : List (Place × Int)) : selL X T width f b l = f ∨ ∃ x ∈ l, selL X T width f b l = x.1 := by
  induction l using snoc_ind with
  | nil => exact .inl rfl
  | snoc l x ih =>
    rw [selL_snoc, selStep]
    split
    · rcases ih with h | ⟨y, h1, h2⟩
      · exact .inl h
      · exact .inr ⟨y, by simp [h1], h2⟩
    · split
      · exact .inr ⟨x, by simp, rfl⟩
      · rcases ih with h | ⟨y, h1, h2⟩
        · exact .inl h
        · exact .inr ⟨y, by simp [h1], h2⟩

def candV (X : List (List (List Int))) (T : Place → Option Int) (width : Int) (f : Place) (x : Place × Int) : Option (Place × Int) := (T x.1).map fun c => (x.1, c + priceL X width f x.1)
def pickF (X : List (List (List Int))) (T : Place → Option Int) (width : Int) (f : Place) (l : List (Place × Int)) : Option (Int × Place) := l.foldl (fun acc x => pickStep acc (candV X T width f x)) none
theorem pickF_snoc {X : List (List (List Int))} {T : Place → Option Int} {width : Int} {f : Place} (l : List (Place × Int)) (x : Place × Int) : pickF X T width f (l ++ [x]) = pickStep (pickF X T width f l) (candV X T width f x) := by simp [pickF]
theorem pickF_go {X : List (List (List Int))} {T : Place → Option Int} {width : Int} {f : Place} : ∀ (l : List Place) (acc : Option (Int × Place)),
    (l.filterMap fun t => if width < sizeL X f t then none else some (t, sizeL X f t)).foldl (fun acc x => pickStep acc (candV X T width f x)) acc = l.foldl (fun acc t => pickStep acc (cand X width T f t)) acc
  | [], _ => rfl
  | t :: l, acc => by
    rw [List.filterMap_cons, List.foldl_cons]
    by_cases hw : width < sizeL X f t
    · have h1 : cand X width T f t = none := by rw [cand, if_pos hw]
      rw [if_pos hw, h1]
      exact pickF_go l acc
    · rw [if_neg hw]
      simp only [List.foldl_cons]
      have h1 : cand X width T f t = candV X T width f (t, sizeL X f t) := by rw [cand, if_neg hw, candV]
      rw [h1]
      exact pickF_go l _
theorem pickF_pick {X : List (List (List Int))} {T : Place → Option Int} {width : Int} {f : Place} : pickF X T width f (linesX X width f) = pick X width T f := pickF_go (lat X f) none

theorem pickF_min {X : List (List (List Int))} {T : Place → Option Int} {width : Int} {f : Place} (l : List (Place × Int)) : ∀ x ∈ l, ∀ c, T x.1 = some c → ∃ b a, pickF X T width f l = some (b, a) ∧ b ≤ c + priceL X width f x.1 := by
  induction l using snoc_ind with
  | nil => intro x hx; cases hx
  | snoc l y ih =>
    intro x hx c hc
    rw [pickF_snoc, candV]
    rcases List.mem_append.1 hx with h | h
    · obtain ⟨b, a, h1, h2⟩ := ih x h c hc
      rw [h1]
      cases hy : T y.1 with
      | none => exact ⟨b, a, rfl, h2⟩
      | some d =>
        simp only [Option.map_some, pickStep]
        by_cases h3 : d + priceL X width f y.1 ≤ b
        · rw [if_pos h3]; exact ⟨_, _, rfl, by omega⟩
        · rw [if_neg h3]; exact ⟨_, _, rfl, h2⟩
    · simp at h
      subst h
      rw [hc]
      simp only [Option.map_some, pickStep]
      cases pickF X T width f l with
      | none => exact ⟨_, _, rfl, Int.le_refl _⟩
      | some z =>
        obtain ⟨b, a⟩ := z
        dsimp only
        by_cases h3 : c + priceL X width f x.1 ≤ b
        · rw [if_pos h3]; exact ⟨_, _, rfl, Int.le_refl _⟩
        · rw [if_neg h3]; exact ⟨_, _, rfl, by omega⟩
theorem sel_pick {X : List (List (List Int))} {T : Place → Option Int} {width : Int} {f : Place} {b : Int} (l : List (Place × Int)) (hb : ∀ x ∈ l, ∀ c, T x.1 = some c → b ≤ c + priceL X width f x.1) :
    (∀ b' a, pickF X T width f l = some (b', a) → b ≤ b') ∧ selL X T width f b l = (match pickF X T width f l with | none => f | some (b', a) => if b' = b then a else f) := by
  induction l using snoc_ind with
  | nil => exact ⟨fun _ _ h => by simp [pickF] at h, rfl⟩
  | snoc l x ih =>
    obtain ⟨ih1, ih2⟩ := ih (fun y hy => hb y (by simp [hy]))
    have hx := hb x (by simp)
    rw [pickF_snoc, selL_snoc, selStep, ih2, candV]
    cases hT : T x.1 with
    | none => exact ⟨ih1, rfl⟩
    | some c =>
      have hv := hx c hT
      simp only [Option.map_some, pickStep]
      cases hp : pickF X T width f l with
      | none =>
        dsimp only
        refine ⟨fun b' a h => by simp at h; omega, rfl⟩
      | some z =>
        obtain ⟨b', a⟩ := z
        have h1 := ih1 b' a hp
        dsimp only
        by_cases h2 : c + priceL X width f x.1 ≤ b'
        · rw [if_pos h2]
          dsimp only
          refine ⟨fun b2 a2 h => by simp at h; omega, ?_⟩
          by_cases h3 : c + priceL X width f x.1 = b
          · rw [if_pos h3, if_pos h3]
          · rw [if_neg h3, if_neg h3, if_neg (by omega)]
        · rw [if_neg h2]
          dsimp only
          refine ⟨fun b2 a2 h => by simp at h; omega, ?_⟩
          rw [if_neg (show ¬ c + priceL X width f x.1 = b by omega)]
/-- What Fill comes to. -/
theorem sel_lines {X : List (List (List Int))} {T : Place → Option Int} {width : Int} {f a : Place} {b : Int} (h : pick X width T f = some (b, a)) : selL X T width f b (linesX X width f) = a := by
  rw [← pickF_pick] at h
  have h1 := sel_pick (b := b) (linesX X width f) (fun x hx c hc => by
    obtain ⟨b', a', h2, h3⟩ := pickF_min (T := T) (width := width) (f := f) (linesX X width f) x hx c hc
    rw [h] at h2
    simp only [Option.some.injEq, Prod.mk.injEq] at h2
    obtain ⟨rfl, _⟩ := h2
    exact h3)
  rw [h1.2, h]
  simp

theorem laters_sorted {X : List (List (List Int))} (hV : VW X) : ∀ (n : Nat) (p : Place), En X p → rem X p = n → (laters X n p).Pairwise Lt
  | 0, _, _, _ => List.Pairwise.nil
  | n + 1, p, he, hn => by
    have hp : Pl X p := by
      rcases he with h0 | h0
      · have : p = endP X := Prod.ext h0.1 h0.2
        rw [this, rem_end] at hn; omega
      · exact h0
    obtain ⟨h1, h2, h3⟩ := next_ok hV hp
    exact List.Pairwise.cons (fun t ht => (laters_mem hV n (next X p) h1 (by omega) t ht).1) (laters_sorted hV n (next X p) h1 (by omega))
theorem lines_sorted {X : List (List (List Int))} (hV : VW X) {width : Int} {f : Place} (hf : Pl X f) : (linesX X width f).Pairwise (fun a c => Lt a.1 c.1) := by
  unfold linesX restL
  refine List.Pairwise.filterMap _ ?_ (laters_sorted hV _ f (.inr hf) rfl)
  intro a c hac x hx y hy
  split at hx <;> split at hy <;> simp at hx hy
  subst hx; subst hy
  exact hac
/-- Behind a prefix of the lines, the next one lies behind whatever has been picked: so Fill's own test of the order changes nothing. -/
theorem sel_lt {X : List (List (List Int))} (hV : VW X) {T : Place → Option Int} {width : Int} {f : Place} {b : Int} (hf : Pl X f) {pre : List (Place × Int)} {x : Place × Int} (h : pre ++ [x] <+: linesX X width f) : Lt (selL X T width f b pre) x.1 := by
  have hs := (lines_sorted hV (width := width) hf).sublist h.sublist
  rw [List.pairwise_append] at hs
  rcases selL_mem (X := X) (T := T) (width := width) (f := f) (b := b) pre with e | ⟨y, h1, e⟩
  · rw [e]
    exact (line_mem hV hf (h.subset (by simp))).2.1
  · rw [e]
    exact hs.2.2 y h1 x (by simp)

instance (a b : Nat × Nat) : Decidable (Lt a b) := by unfold Lt; infer_instance
/-- Fill's own step, with its test of the order. -/
def selMStep (X : List (List (List Int))) (T : Place → Option Int) (width : Int) (f : Place) (b : Int) (acc : Place) (x : Place × Int) : Place :=
  match T x.1 with
  | none => acc
  | some c => if c + priceL X width f x.1 = b ∧ Lt acc x.1 then x.1 else acc
def selM (X : List (List (List Int))) (T : Place → Option Int) (width : Int) (f : Place) (b : Int) (l : List (Place × Int)) : Place := l.foldl (selMStep X T width f b) f
theorem selM_snoc {X : List (List (List Int))} {T : Place → Option Int} {width : Int} {f : Place} {b : Int} (l : List (Place × Int)) (x : Place × Int) :
    selM X T width f b (l ++ [x]) = selMStep X T width f b (selM X T width f b l) x := by simp [selM]
theorem selM_L {X : List (List (List Int))} (hV : VW X) {T : Place → Option Int} {width : Int} {f : Place} {b : Int} (hf : Pl X f) (l : List (Place × Int)) : l <+: linesX X width f → selM X T width f b l = selL X T width f b l := by
  induction l using snoc_ind with
  | nil => intro _; rfl
  | snoc l x ih =>
    intro h
    have hl : l <+: linesX X width f := (List.prefix_append l [x]).trans h
    have hlt := sel_lt hV (T := T) (b := b) hf h
    rw [selM_snoc, selL_snoc, ih hl, selMStep, selStep]
    cases T x.1 with
    | none => rfl
    | some c =>
      dsimp only
      by_cases h1 : c + priceL X width f x.1 = b
      · rw [if_pos ⟨h1, hlt⟩, if_pos h1]
      · rw [if_neg (fun h2 => h1 h2.1), if_neg h1]
theorem selM_lines {X : List (List (List Int))} (hV : VW X) {T : Place → Option Int} {width : Int} {f a : Place} {b : Int} (hf : Pl X f) (h : pick X width T f = some (b, a)) : selM X T width f b (linesX X width f) = a := by
  rw [selM_L hV hf _ (List.prefix_refl _), sel_lines h]
/-- The place that a box holds. -/
def atOf (W : World) (b : Nat) : Place := ((intOf ((W.cell? ⟨b, 0, none⟩).getD undef)).toNat, (intOf ((W.cell? ⟨b, 1, none⟩).getD undef)).toNat)
theorem atOf_eq {W : World} {b : Nat} {p : Place} (h : PairBox 64 W b (p.1, p.2)) : atOf W b = p := by
  obtain ⟨h1, h2, -, -⟩ := h.cells
  simp [atOf, h1, h2, intOf]

/-- What Fill holds from line to line: entered at world w; n2, n3: the heap's sizes behind costs and behind table. -/
structure Fst (w W : World) (n2 n3 r : Nat) (width : Int) (X : List (List (List Int))) (T : Place → Option Int) (K : List (List Int)) (p : Place) (ends : List Place) (ve vl : Value) (Ds : List Nat) : Prop where
  ext : Ext w W
  s2 : w.heap.size + 2 ≤ n2
  s3 : n2 + 3 ≤ n3
  hr : r < n2
  cw : W.cell? ⟨w.heap.size, 0, none⟩ = some (.int .i64 width)
  res : Box2 30 W (w.heap.size + 1) (.slice none 0 0) (.slice none 0 0)
  cm : W.cell? ⟨n2, 0, none⟩ = some (.map (some r))
  at_ : PairBox 64 W (n2 + 1) (p.1, p.2)
  ce0 : W.cell? ⟨n2 + 2, 0, none⟩ = some (.int .i64 X.length)
  ce1 : W.cell? ⟨n2 + 2, 1, none⟩ = some (.int .i64 0)
  map : Holds W r T
  out : Box2 30 W n3 ve vl
  bld : Bld pairR Any W (n3 + 1) 64 ve (toI ends)
  rows : rowsR.rd W (fun k => n2 + 3 ≤ k ∧ k < n3) [vl] K
  nodup : Ds.Nodup
  marks : ∀ D ∈ Ds, n3 + 1 ≤ D ∧ W.heap[D]? = some (.deferred (some []))
theorem Fst.ne {w W : World} {n2 n3 r : Nat} {width : Int} {X : List (List (List Int))} {T : Place → Option Int} {K : List (List Int)} {p : Place} {ends : List Place} {ve vl : Value} {Ds : List Nat} (h : Fst w W n2 n3 r width X T K p ends ve vl Ds) :
    r ≠ w.heap.size ∧ r ≠ w.heap.size + 1 := by
  obtain ⟨o, h1, h2⟩ := h.map.obj
  constructor
  · rintro rfl
    have := h.cw
    simp [World.cell?, h1] at this
    cases o <;> simp_all [Obj.isCells]
  · rintro rfl
    have := h.res.cells.1
    simp [World.cell?, h1] at this
    cases o <;> simp_all [Obj.isCells]
/-- Whatever leaves the blocks below B as they lay leaves Fst. -/
theorem Fst.below {w W W' : World} {n2 n3 r : Nat} {width : Int} {X : List (List (List Int))} {T : Place → Option Int} {K : List (List Int)} {p : Place} {ends : List Place} {ve vl : Value} {Ds : List Nat} (h : Fst w W n2 n3 r width X T K p ends ve vl Ds)
    {row : Option Nat} (hg : W.grownBy W' row) (hr : ∀ q, row = some q → n3 < q ∧ ve.ownBlock ≠ some q ∧ q ∉ Ds) : Fst w W' n2 n3 r width X T K p ends ve vl Ds := by
  have s2 := h.s2
  have s3 := h.s3
  have s4 := h.hr
  have hb : ∀ k o, W.heap[k]? = some o → (k ≤ n3 ∨ ve.ownBlock = some k ∨ k ∈ Ds) → W'.heap[k]? = some o := fun k o hk hc => heap_grown hg hk (fun e => by
    obtain ⟨h1, h2, h3⟩ := hr k e
    rcases hc with hc | hc | hc
    · omega
    · exact h2 hc
    · exact h3 hc)
  have hcell : ∀ k o u, k ≤ n3 → W.cell? ⟨k, o, none⟩ = some u → W'.cell? ⟨k, o, none⟩ = some u := fun k o u hk hc => by
    have hlt := cell_lt hc
    have h1 := hb k _ (Array.getElem?_eq_getElem hlt) (.inl hk)
    rw [← hc]
    exact World.cell?_of_block (h1.trans (Array.getElem?_eq_getElem hlt).symm)
  refine ⟨h.ext.grown hg h.ext.size (fun j e => by have := (hr j e).1; omega), s2, s3, s4, hcell _ _ _ (by omega) h.cw, hb _ _ h.res (.inl (by omega)), hcell _ _ _ (by omega) h.cm, hb _ _ h.at_ (.inl (by omega)), hcell _ _ _ (by omega) h.ce0, hcell _ _ _ (by omega) h.ce1,
    h.map.same (hg.block _ h.map.lt (fun e => by have := (hr _ e.symm).1; omega)), hb _ _ h.out (.inl (Nat.le_refl _)), ?_, ?_, h.nodup, fun D hd => ⟨(h.marks D hd).1, hb _ _ (h.marks D hd).2 (.inr (.inr hd))⟩⟩
  · refine Bld.free pairR_free h.bld hg (fun k hk e => ?_)
    exact (hr k e.symm).2.1 hk
  · exact Rdr.grown _ h.rows hg (fun k hk e => by have := (hr k e.symm).1; omega)
/-- Cells keep what they hold, but for those of block n. -/
def KeepX (n : Nat) (A C : World) : Prop := ∀ (a : Addr) (u : Value), a.block ≠ n → A.cell? a = some u → C.cell? a = some u
theorem KeepX.trans {n : Nat} {A B C : World} (h : KeepX n A B) (k : KeepX n B C) : KeepX n A C := fun a u hn e => k a u hn (h a u hn e)
theorem keepX_put (n : Nat) (W : World) (l : Nat) (o o' : Obj) (h1 : W.heap[l]? = some o) (h2 : o.isCells = false) : KeepX n W (W.putObj l o') := fun a u _ e => keepC_put W l o o' h1 h2 a u e
theorem Fst.own {w W W' : World} {n2 n3 r : Nat} {width : Int} {X : List (List (List Int))} {T : Place → Option Int} {K : List (List Int)} {p : Place} {ends : List Place} {ve vl : Value} {Ds : List Nat} (h : Fst w W n2 n3 r width X T K p ends ve vl Ds)
    {row : Option Nat} (hg : W.grownBy W' row) (hr : ∀ q, row = some q → n3 < q ∧ ∃ o : Obj, W.heap[q]? = some o ∧ o.isCells = false) (hD : ∀ D ∈ Ds, ∀ q, row = some q → D ≠ q) : Fst w W' n2 n3 r width X T K p ends ve vl Ds := by
  refine h.below hg (fun q e => ⟨(hr q e).1, fun e2 => ?_, fun e2 => hD q e2 q e rfl⟩)
  obtain ⟨o, h1, h2⟩ := (hr q e).2
  obtain ⟨o2, h3, h4⟩ := h.bld.obj q e2
  rw [h1] at h3
  cases h3
  rw [h2] at h4
  cases h4
end Go.Proofs.Ytehelanfgepcmaa
