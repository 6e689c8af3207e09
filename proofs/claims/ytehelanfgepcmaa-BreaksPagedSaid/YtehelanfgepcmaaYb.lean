import Derived.Test.YtehelanfgepcmaaY
set_option linter.unusedSimpArgs false
set_option linter.unusedVariables false
set_option linter.unusedSectionVars false
namespace Go.Proofs.Ytehelanfgepcmaa
open Go.RowKit Dac

/-- Fill's step: the end of the line is appended, and is the next place. -/
theorem Fst.step {w W w4 : World} {n2 n3 r : Nat} {width : Int} {X : List (List (List Int))} {T : Place → Option Int} {K : List (List Int)} {p q : Place} {ends : List Place} {ve ve' vl : Value} {Ds : List Nat} (h : Fst w W n2 n3 r width X T K p ends ve vl Ds)
    (hg : W.grownBy w4 ve.ownBlock) (hb : Bld pairR Any w4 (n3 + 1) 64 ve' (toI ends ++ [((q.1 : Int), (q.2 : Int))])) :
    Fst w (((w4.setCell ⟨n3, 0, none⟩ ve').setCell ⟨n2 + 1, 0, none⟩ (.int .i64 q.1)).setCell ⟨n2 + 1, 1, none⟩ (.int .i64 q.2)) n2 n3 r width X T K q (ends ++ [q]) ve' vl Ds := by
  have s2 := h.s2
  have s3 := h.s3
  have s4 := h.hr
  have own : ∀ k, ve.ownBlock = some k → n3 + 1 ≤ k := fun k e => (h.bld.lt k e).1
  have own' : ∀ k, ve'.ownBlock = some k → n3 + 1 ≤ k := fun k e => (hb.lt k e).1
  have hs : ∀ k, k ≠ n3 → k ≠ n2 + 1 → (((w4.setCell ⟨n3, 0, none⟩ ve').setCell ⟨n2 + 1, 0, none⟩ (.int .i64 q.1)).setCell ⟨n2 + 1, 1, none⟩ (.int .i64 q.2)).heap[k]? = w4.heap[k]? := fun k h1 h2 => by
    rw [Below.heap_setCell _ _ _ _ h2, Below.heap_setCell _ _ _ _ h2, Below.heap_setCell _ _ _ _ h1]
  have hh : ∀ k o, W.heap[k]? = some o → k ≠ n3 → k ≠ n2 + 1 → ve.ownBlock ≠ some k → (((w4.setCell ⟨n3, 0, none⟩ ve').setCell ⟨n2 + 1, 0, none⟩ (.int .i64 q.1)).setCell ⟨n2 + 1, 1, none⟩ (.int .i64 q.2)).heap[k]? = some o := fun k o hk h1 h2 h3 => by
    rw [hs k h1 h2]
    exact heap_grown hg hk h3
  have hcell : ∀ k o u, k < n3 → k ≠ n2 + 1 → W.cell? ⟨k, o, none⟩ = some u → (((w4.setCell ⟨n3, 0, none⟩ ve').setCell ⟨n2 + 1, 0, none⟩ (.int .i64 q.1)).setCell ⟨n2 + 1, 1, none⟩ (.int .i64 q.2)).cell? ⟨k, o, none⟩ = some u := fun k o u h1 h2 hc => by
    have hlt := cell_lt hc
    have h3 := hh k _ (Array.getElem?_eq_getElem hlt) (by omega) h2 (fun e => by have := own k e; omega)
    rw [← hc]
    exact World.cell?_of_block (h3.trans (Array.getElem?_eq_getElem hlt).symm)
  have hn3 : ve.ownBlock ≠ some n3 := fun e => by have := own _ e; omega
  have hn2 : ve.ownBlock ≠ some (n2 + 1) := fun e => by have := own _ e; omega
  refine ⟨?_, s2, s3, s4, hcell _ _ _ (by omega) (by omega) h.cw, hh _ _ h.res (by omega) (by omega) (fun e => by have := own _ e; omega), hcell _ _ _ (by omega) (by omega) h.cm, ?_, hcell _ _ _ (by omega) (by omega) h.ce0, hcell _ _ _ (by omega) (by omega) h.ce1,
    h.map.same ((hs r (by omega) (by omega)).trans (hg.block _ h.map.lt (fun e => by have := own _ e.symm; omega))), ?_, ?_, ?_, h.nodup, fun D hd => ⟨(h.marks D hd).1, hh _ _ (h.marks D hd).2 (by have := (h.marks D hd).1; omega) (by have := (h.marks D hd).1; omega) (fun e => ?_)⟩⟩
  · refine Below.setCell (Below.setCell (Below.setCell (h.ext.grown hg h.ext.size (fun j e => by have := own j e; omega)) ?_ _) ?_ _) ?_ _
    · show w.heap.size ≤ n3; omega
    · show w.heap.size ≤ n2 + 1; omega
    · show w.heap.size ≤ n2 + 1; omega
  · have h1 : PairBox 64 (w4.setCell ⟨n3, 0, none⟩ ve') (n2 + 1) (p.1, p.2) := PairBox.other (heap_grown hg h.at_ hn2) _ (by show n2 + 1 ≠ n3; omega)
    exact h1.set q.1 q.2
  · have h1 : Box2 30 w4 n3 ve vl := heap_grown hg h.out hn3
    exact ((h1.set0 ve').other (a := ⟨n2 + 1, 0, none⟩) _ (by show n3 ≠ n2 + 1; omega)).other (a := ⟨n2 + 1, 1, none⟩) _ (by show n3 ≠ n2 + 1; omega)
  · rw [toI_snoc]
    refine Bld.free pairR_free (Bld.free pairR_free (Bld.free pairR_free hb (grownBy_setCell _ ⟨n3, 0, none⟩ _) (fun k hk e => ?_)) (grownBy_setCell _ ⟨n2 + 1, 0, none⟩ _) (fun k hk e => ?_)) (grownBy_setCell _ ⟨n2 + 1, 1, none⟩ _) (fun k hk e => ?_) <;> (have := own' k hk; simp at e; omega)
  · refine Rdr.stay _ h.rows fun k hk hl => ⟨?_, hk⟩
    rw [hs k (by omega) (by omega)]
    exact hg.block k hl (fun e => by have := own _ e.symm; omega)
  · obtain ⟨o, h1, h2⟩ := h.bld.obj D e
    rw [(h.marks D hd).2] at h1
    cases h1
    cases h2
end Go.Proofs.Ytehelanfgepcmaa
