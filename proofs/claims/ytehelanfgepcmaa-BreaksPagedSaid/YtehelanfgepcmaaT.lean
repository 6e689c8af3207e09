import Derived.Test.YtehelanfgepcmaaS
set_option linter.unusedSimpArgs false
set_option linter.unusedVariables false
set_option linter.unusedSectionVars false
namespace Go.Proofs.Ytehelanfgepcmaa
open Go.RowKit Dac
attribute [local go_sem] Oper.semAt_some

theorem rest_split {X : List (List (List Int))} {width : Int} {f cur : Place} (hV : VW X) (h : Pl X cur) {pre : List (LineOf X width f)} (hL : pre.map (·.1) ++ restL X width f cur = linesX X width f) :
    (width < sizeL X f (next X cur) → pre.map (·.1) ++ restL X width f (next X cur) = linesX X width f) ∧
    (¬ width < sizeL X f (next X cur) → ∃ hm : (next X cur, sizeL X f (next X cur)) ∈ linesX X width f, (pre ++ [(⟨_, hm⟩ : LineOf X width f)]).map (·.1) ++ restL X width f (next X cur) = linesX X width f ∧ pre.length < (linesX X width f).length) := by
  rw [rest_step hV h] at hL
  constructor
  · intro hw
    rw [if_pos hw, List.nil_append] at hL
    exact hL
  · intro hw
    rw [if_neg hw] at hL
    have hm : (next X cur, sizeL X f (next X cur)) ∈ linesX X width f := by rw [← hL]; simp
    refine ⟨hm, ?_, ?_⟩
    · rw [List.map_append, List.append_assoc]; simpa using hL
    · have := congrArg List.length hL
      simp at this
      omega

set_option maxRecDepth 100000 in
set_option maxHeartbeats 8000000 in
theorem lines_stops (F : Fence) (n : Nat) (h54 : F.fn 54) (hro : F.round = none) (hn : 1 ≤ n) (Kp : World → World → Prop) (Fp : Nat → Prop) (X : List (List (List Int))) (width : Int) (f : Place) (B b o cap : Nat) (A2 : Nat → Nat × Nat × Nat) (A3 : Nat → Nat → Nat × Nat × Nat) (w : World)
    (hV : VW X) (hwd : 1 ≤ width ∧ width ≤ 512) (hf : Pl X f) (hKp : ∀ A C, Kp A C → ∀ (a : Addr) (u : Value), Fp a.block → A.cell? a = some u → C.cell? a = some u) (hc : Cap Fp w B b o cap width f X A2 A3) :
    SeqStopsK F n Try.prog 54 #[.pointer (some ⟨B + 2, 0, none⟩), .pointer (some ⟨B, 0, none⟩), .pointer (some ⟨B + 1, 0, none⟩)] (encL (X := X) (width := width) (f := f)) Kp
      (fun xs => xs = (linesX X width f).attach) (fun pre => pre.map (·.1) <+: linesX X width f) (linesX X width f).length w := by
  intro l J Jx W hW hJ hJx hY h0
  have hcW := hc.ext hW
  obtain ⟨p, i⟩ := f
  have h512 := hV.1
  have HC := hid hcW; have HV := hid hV; have HF := hid hf; have HKp := hid hKp; have HY := hid hY; have HJ := hid hJ; have H512 := hid h512
  clear hcW hc hV hf hKp hY hJ hW hJx h512
  have k0 := HC.out.l
  have k1 := HC.out.w
  have k2 := HC.out.f0
  have k3 := HC.out.f1
  have l2 : X.length ≤ 9223372036854775807 := by have := H512.out; omega
  refine callsIn_of_wp Try.func54 rfl h54 ?_ hro
  simp only [Try.ntmps54, List.size_toArray, List.length_cons, List.length_nil, Nat.reduceAdd, Nat.reduceSub, Array.replicate_succ, Array.replicate_zero, List.push_toArray, List.append_toArray, List.nil_append, List.cons_append]
  gi_wp2
  clear k0 k1 k2 k3
  gi_loopw [5, 6] (fun s q wr => ∃ (k : Nat) (pre : List (LineOf X width (p, i))), p ≤ k ∧ k ≤ X.length ∧ q = .int .i64 k ∧ s = .int .i64 (sumA X (p, i) k) ∧ pre.map (·.1) ++ restL X width (p, i) (curOf (p, i) k) = linesX X width (p, i) ∧ J pre wr ∧ Cap Fp wr B b o cap width (p, i) X A2 A3) (fun _ q _ => X.length - (intOf q).toNat)
  case atStart =>
    refine ⟨p, [], Nat.le_refl _, Nat.le_of_lt HF.out.1, rfl, by simp [sumA], ?_, h0, HC.out⟩
    simp [curOf, firstOf, linesX]
  case round =>
    obtain ⟨k, pre, hk1, hk2, rfl, rfl, hL, hJp, hcr⟩ := hrel
    have HL := hid hL; have HJp := hid hJp; have HCr := hid hcr
    clear hL hJp hcr
    have k0 := HCr.out.l
    by_cases hlt : k < X.length
    · have h16 := (HV.out.2 k hlt).2.1
      have h1 := (HV.out.2 k hlt).1
      have hg : X.getD k [] = X[k] := by simp [hlt]
      have hfi : firstOf (p, i) k < X[k].length := by
        unfold firstOf
        split
        · rename_i e; dsimp only at e; subst e; exact HF.out.2
        · omega
      have hrl : (rowAt X k (firstOf (p, i) k)).length = X[k].length - firstOf (p, i) k := by rw [rowAt_eq hlt hfi]; exact ((HV.out.2 k hlt).2.2 _ hfi).1
      have hL1 : pre.map (·.1) ++ restL X width (p, i) (plAt X (p, i) k 0) = linesX X width (p, i) := by
        have := HL.out
        rw [plAt, if_pos (by rw [hrl]; omega)]
        exact this
      have k1 := HCr.out.w
      have k2 := HCr.out.f0
      have k3 := HCr.out.f1
      obtain ⟨-, k4⟩ := HCr.out.c1 k hlt
      obtain ⟨-, k5⟩ := HCr.out.c2 k hlt _ (by rw [hg]; exact hfi)
      rw [hg] at k4 k5
      have hel := fun j => HV.out.elem (j := j) hlt hfi
      have hSb : 0 ≤ sumTo X (p, i) k ∧ sumTo X (p, i) k ≤ 3000000 := by
        unfold sumTo
        split
        · omega
        · rename_i hne
          dsimp only at hne ⊢
          have h0 := HV.out.elem (j := (rowAt X p i).length - 1) HF.out.1 HF.out.2
          have hs := HV.out.sum (q := p + 1) (s := lastW (rowAt X p i)) h0 (k - p - 1) (by omega)
          have := H512.out
          omega
      have HEL := hid hel; have HRL := hid hrl; have HL1 := hid hL1; have HG := hid hg
      have hSin := fun m => size_in (X := X) (f := (p, i)) (q := k) (k := m) hk1
      have hSout := size_out (X := X) (f := (p, i)) (q := k) hk1
      have hSnx := sumTo_next (X := X) (f := (p, i)) (q := k) hk1
      have hsA : sumA X (p, i) k = if k = p then 0 else sumTo X (p, i) k - 1 := rfl
      have hsT : k = p → sumTo X (p, i) k = 0 := fun e => by simp [sumTo, e]
      have hfi0 : firstOf (p, i) k = if k = p then i else 0 := rfl
      have HSin := hid hSin; have HSout := hid hSout; have HSnx := hid hSnx; have HsA := hid hsA; have HsT := hid hsT; have HFI := hid hfi0
      clear hel hrl hL1 hg hSin hSout hSnx hsA hsT hfi0 HL
      obtain ⟨s1, s2⟩ := hSb
      by_cases hkp : k = p
      · have hs0 : sumA X (p, i) k = sumTo X (p, i) k := by rw [HsA.out, if_pos hkp, HsT.out hkp]
        have hf0 : (i : Int) = (firstOf (p, i) k : Int) := by rw [HFI.out, if_pos hkp]
        have hq : ((k : Int) == (p : Int)) = true := by simp; omega
        rw [hs0]
        rw [hf0] at k3
        have HKP := hid hkp
        clear hkp hs0 hf0
        generalize hS0 : sumTo X (p, i) k = S0 at s1 s2 ⊢
        gi_wp2
        subst hS0
        gi_loopw [39] (fun t wr2 => ∃ (m : Nat) (pre : List (LineOf X width (p, i))), m ≤ X[k].length - firstOf (p, i) k ∧ t = .int .i64 m ∧ pre.map (·.1) ++ restL X width (p, i) (plAt X (p, i) k m) = linesX X width (p, i) ∧ J pre wr2 ∧ Cap Fp wr2 B b o cap width (p, i) X A2 A3) (fun t _ => X[k].length - firstOf (p, i) k - (intOf t).toNat)
        case atStart => exact ⟨0, pre, by omega, rfl, HL1.out, HJp.out, HCr.out⟩
        case round =>
          obtain ⟨m, pre2, hm, rfl, hL2, hJ2, hc2⟩ := hrel
          have HL2 := hid hL2; have HJ2 := hid hJ2; have HC2 := hid hc2
          clear hL2 hJ2 hc2 HL1 HJp HCr k0 k1 k2 k3 k4 k5
          have k1 := HC2.out.w
          have k2 := HC2.out.l
          by_cases hmlt : m < X[k].length - firstOf (p, i) k
          · obtain ⟨-, k6⟩ := HC2.out.c3 k hlt (firstOf (p, i) k) (by rw [HG.out]; exact hfi) m (by rw [HG.out]; exact hmlt)
            have hx := HEL.out m
            have hcur : plAt X (p, i) k m = (k, firstOf (p, i) k + m) := by rw [plAt, if_pos (by rw [HRL.out]; exact hmlt)]
            have hpl : Pl X (k, firstOf (p, i) k + m) := ⟨hlt, by show _ < X[k].length; omega⟩
            have hL3 := HL2.out
            rw [hcur] at hL3
            obtain ⟨hno, hyes⟩ := rest_split HV.out hpl hL3
            by_cases hlast : m + 1 = X[k].length - firstOf (p, i) k
            · have hnx : next X (k, firstOf (p, i) k + m) = (k + 1, 0) := next_out hlt (by omega)
              have hpa : plAt X (p, i) k (m + 1) = (k + 1, 0) := by rw [plAt, if_neg (by rw [HRL.out]; omega)]
              have hlw : lastW (rowAt X k (firstOf (p, i) k)) = (rowAt X k (firstOf (p, i) k)).getD m 0 := by rw [lastW, HRL.out]; congr 1; omega
              rw [hnx] at hno hyes
              have hsz := HSout.out
              rw [hlw] at hsz
              generalize sizeL X (p, i) (k + 1, 0) = sz at hno hyes hsz
              obtain rfl := hsz
              have HNO := hid hno; have HYES := hid hyes; have HPA := hid hpa
              clear hno hyes hpa hnx hlw hpl hcur hL3
              generalize (rowAt X k (firstOf (p, i) k)).getD m 0 = x at *
              generalize sumTo X (p, i) k = S at *
              have hq1 : ((m : Int) == ((X[k].length - firstOf (p, i) k : Nat) : Int) - 1) = true := by simp; omega
              have k8 := (Ext.alloc wr (.cells #[.int .i64 ((k : Int) + 1), .int .i64 0] 64)).cell k1
              by_cases hw : width < S + x
              · gi_wp2
                refine ⟨(fun _ h => by cases h), ?_⟩
                gi_wp2
                go_roundw
                case rel => exact ⟨m + 1, pre2, by omega, by go_num, by rw [HPA.out]; exact HNO.out hw, HJ.out _ _ _ _ HJ2.out (World.grownBy_alloc _ _ none) (fun r e => by cases e), HC2.out.ext (Ext.alloc _ _)⟩
                case measure => simp [intOf]; omega
              · obtain ⟨hmem, hL4, hlen⟩ := HYES.out hw
                obtain ⟨fn, tmps, assign, body, hy, hR⟩ := HY.out pre2 ⟨_, hmem⟩ (wr.alloc (.cells #[.int .i64 ((k : Int) + 1), .int .i64 0] 64)) (HJ.out _ _ _ _ HJ2.out (World.grownBy_alloc _ _ none) (fun r e => by cases e)) hlen
                have hy2 : (Instr.yield l #[.agg #[.int .i64 ((k : Int) + 1), .int .i64 0], .int .i64 (S + x)]).run Try.prog (wr.alloc (.cells #[.int .i64 ((k : Int) + 1), .int .i64 0] 64)) = .ok (.round l fn tmps assign body) (wr.alloc (.cells #[.int .i64 ((k : Int) + 1), .int .i64 0] 64)) := hy
                have HR := hid hR; have HL4 := hid hL4
                clear hy hR hL4 hlen
                gi_wp2
                refine HR.out.mono ?_
                rintro e W3 (⟨rfl, hJ3, hk3⟩ | ⟨rfl, hJx3⟩)
                · have HJ3 := hid hJ3; have HK3 := hid (HKp.out _ _ hk3)
                  clear hJ3 hk3 hy2
                  gi_wp2
                  go_roundw
                  case rel => exact ⟨m + 1, _, by omega, by go_num, by rw [HPA.out]; exact HL4.out, HJ3.out, (HC2.out.ext (Ext.alloc _ _)).move HK3.out⟩
                  case measure => simp [intOf]; omega
                · have HJ3 := hid hJx3
                  clear hJx3 hy2
                  gi_wp2
                  (first | go_end0 | refine bodyPost_ret (results_none rfl _ _ _) rfl ?_)
                  exact ⟨⟨_, rfl⟩, .inr ⟨_, ⟨_, HL4.out⟩, HJ3.out⟩⟩
            · have hnx : next X (k, firstOf (p, i) k + m) = (k, firstOf (p, i) k + m + 1) := next_in hlt (by omega)
              have hpa : plAt X (p, i) k (m + 1) = (k, firstOf (p, i) k + m + 1) := by rw [plAt, if_pos (by rw [HRL.out]; omega)]; rfl
              rw [hnx] at hno hyes
              have hsz := HSin.out m
              generalize sizeL X (p, i) (k, firstOf (p, i) k + m + 1) = sz at hno hyes hsz
              obtain rfl := hsz
              have HNO := hid hno; have HYES := hid hyes; have HPA := hid hpa
              clear hno hyes hpa hnx hpl hcur hL3
              generalize (rowAt X k (firstOf (p, i) k)).getD m 0 = x at *
              generalize sumTo X (p, i) k = S at *
              have hq1 : ((m : Int) == ((X[k].length - firstOf (p, i) k : Nat) : Int) - 1) = false := by simp; omega
              have k8 := (Ext.alloc wr (.cells #[.int .i64 (k : Int), .int .i64 ((firstOf (p, i) k : Int) + m + 1)] 64)).cell k1
              by_cases hw : width < S + x + 1
              · gi_wp2
                refine ⟨(fun _ h => by cases h), ?_⟩
                gi_wp2
                go_roundw
                case rel => exact ⟨m + 1, pre2, by omega, by go_num, by rw [HPA.out]; exact HNO.out hw, HJ.out _ _ _ _ HJ2.out (World.grownBy_alloc _ _ none) (fun r e => by cases e), HC2.out.ext (Ext.alloc _ _)⟩
                case measure => simp [intOf]; omega
              · obtain ⟨hmem, hL4, hlen⟩ := HYES.out hw
                obtain ⟨fn, tmps, assign, body, hy, hR⟩ := HY.out pre2 ⟨_, hmem⟩ (wr.alloc (.cells #[.int .i64 (k : Int), .int .i64 ((firstOf (p, i) k : Int) + m + 1)] 64)) (HJ.out _ _ _ _ HJ2.out (World.grownBy_alloc _ _ none) (fun r e => by cases e)) hlen
                have hy2 : (Instr.yield l #[.agg #[.int .i64 (k : Int), .int .i64 ((firstOf (p, i) k : Int) + m + 1)], .int .i64 (S + x + 1)]).run Try.prog (wr.alloc (.cells #[.int .i64 (k : Int), .int .i64 ((firstOf (p, i) k : Int) + m + 1)] 64)) = .ok (.round l fn tmps assign body) (wr.alloc (.cells #[.int .i64 (k : Int), .int .i64 ((firstOf (p, i) k : Int) + m + 1)] 64)) := hy
                have HR := hid hR; have HL4 := hid hL4
                clear hy hR hL4 hlen
                gi_wp2
                refine HR.out.mono ?_
                rintro e W3 (⟨rfl, hJ3, hk3⟩ | ⟨rfl, hJx3⟩)
                · have HJ3 := hid hJ3; have HK3 := hid (HKp.out _ _ hk3)
                  clear hJ3 hk3 hy2
                  gi_wp2
                  go_roundw
                  case rel => exact ⟨m + 1, _, by omega, by go_num, by rw [HPA.out]; exact HL4.out, HJ3.out, (HC2.out.ext (Ext.alloc _ _)).move HK3.out⟩
                  case measure => simp [intOf]; omega
                · have HJ3 := hid hJx3
                  clear hJx3 hy2
                  gi_wp2
                  (first | go_end0 | refine bodyPost_ret (results_none rfl _ _ _) rfl ?_)
                  exact ⟨⟨_, rfl⟩, .inr ⟨_, ⟨_, HL4.out⟩, HJ3.out⟩⟩
          · have hm2 : m = X[k].length - firstOf (p, i) k := by omega
            have hL3 := HL2.out
            rw [plAt, if_neg (by rw [HRL.out]; omega)] at hL3
            obtain ⟨-, k6⟩ := HC2.out.c3 k hlt (firstOf (p, i) k) (by rw [HG.out]; exact hfi) (X[k].length - firstOf (p, i) k - 1) (by rw [HG.out]; omega)
            have hx := HEL.out (X[k].length - firstOf (p, i) k - 1)
            have hlw : lastW (rowAt X k (firstOf (p, i) k)) = (rowAt X k (firstOf (p, i) k)).getD (X[k].length - firstOf (p, i) k - 1) 0 := by rw [lastW, HRL.out]
            have hsz := HSout.out
            rw [hlw] at hsz
            have hro2 := fun h => rest_over (width := width) HV.out (f := (p, i)) (q := k + 1) (by show p < k + 1; omega) (by omega) h
            rw [hsz] at hro2
            have hnx2 := HSnx.out
            rw [hsz] at hnx2
            have HL3 := hid hL3; have HRO := hid hro2; have HNX := hid hnx2
            clear hL3 hro2 hsz hlw hnx2 hm2
            generalize (rowAt X k (firstOf (p, i) k)).getD (X[k].length - firstOf (p, i) k - 1) 0 = x at *
            generalize hS : sumTo X (p, i) k = S at *
            clear hS
            have e1 : (((X[k].length - firstOf (p, i) k : Nat) : Int) - 1).toNat = X[k].length - firstOf (p, i) k - 1 := by omega
            have e2 : (0 : Int) ≤ ((X[k].length - firstOf (p, i) k : Nat) : Int) - 1 := by omega
            by_cases hw : width < S + x
            · gi_wp2
              (first | go_end0 | refine bodyPost_ret (results_none rfl _ _ _) rfl ?_)
              have hL5 := HL3.out
              rw [HRO.out hw, List.append_nil] at hL5
              exact ⟨⟨_, rfl⟩, .inl ⟨pre2, all_of_map hL5, HJ2.out⟩⟩
            · gi_wp2
              go_roundw
              case rel =>
                refine ⟨k + 1, pre2, by omega, by omega, by go_num, ?_, ?_, HJ2.out, HC2.out⟩
                · rw [sumA, if_neg (by dsimp only; omega), HNX.out]; go_num
                · have : curOf (p, i) (k + 1) = (k + 1, 0) := by simp only [curOf, firstOf]; rw [if_neg (by omega)]
                  rw [this]; exact HL3.out
              case measure => simp [intOf]; omega
      · have hs0 : sumA X (p, i) k = sumTo X (p, i) k - 1 := by rw [HsA.out, if_neg hkp]
        have hf0 : (0 : Int) = (firstOf (p, i) k : Int) := by rw [HFI.out, if_neg hkp]; rfl
        have hq : ((k : Int) == (p : Int)) = false := by simp; omega
        have hfz : firstOf (p, i) k = 0 := by omega
        rw [hs0]
        have HKP := hid hkp
        have HF0 := hid hf0
        rw [show (A2 k).2.1 + firstOf (p, i) k = (A2 k).2.1 by omega] at k5
        have HFZ := hid hfz
        clear hkp hs0 hf0 hfz
        gi_wp2
        rw (config := {occs := .pos [2]}) [HF0.out]
        gi_loopw [39] (fun t wr2 => ∃ (m : Nat) (pre : List (LineOf X width (p, i))), m ≤ X[k].length - firstOf (p, i) k ∧ t = .int .i64 m ∧ pre.map (·.1) ++ restL X width (p, i) (plAt X (p, i) k m) = linesX X width (p, i) ∧ J pre wr2 ∧ Cap Fp wr2 B b o cap width (p, i) X A2 A3) (fun t _ => X[k].length - firstOf (p, i) k - (intOf t).toNat)
        case atStart => exact ⟨0, pre, by omega, rfl, HL1.out, HJp.out, HCr.out⟩
        case round =>
          obtain ⟨m, pre2, hm, rfl, hL2, hJ2, hc2⟩ := hrel
          have HL2 := hid hL2; have HJ2 := hid hJ2; have HC2 := hid hc2
          clear hL2 hJ2 hc2 HL1 HJp HCr k0 k1 k2 k3 k4 k5
          have k1 := HC2.out.w
          have k2 := HC2.out.l
          by_cases hmlt : m < X[k].length - firstOf (p, i) k
          · obtain ⟨-, k6⟩ := HC2.out.c3 k hlt (firstOf (p, i) k) (by rw [HG.out]; exact hfi) m (by rw [HG.out]; exact hmlt)
            have hx := HEL.out m
            have hcur : plAt X (p, i) k m = (k, firstOf (p, i) k + m) := by rw [plAt, if_pos (by rw [HRL.out]; exact hmlt)]
            have hpl : Pl X (k, firstOf (p, i) k + m) := ⟨hlt, by show _ < X[k].length; omega⟩
            have hL3 := HL2.out
            rw [hcur] at hL3
            obtain ⟨hno, hyes⟩ := rest_split HV.out hpl hL3
            by_cases hlast : m + 1 = X[k].length - firstOf (p, i) k
            · have hnx : next X (k, firstOf (p, i) k + m) = (k + 1, 0) := next_out hlt (by omega)
              have hpa : plAt X (p, i) k (m + 1) = (k + 1, 0) := by rw [plAt, if_neg (by rw [HRL.out]; omega)]
              have hlw : lastW (rowAt X k (firstOf (p, i) k)) = (rowAt X k (firstOf (p, i) k)).getD m 0 := by rw [lastW, HRL.out]; congr 1; omega
              rw [hnx] at hno hyes
              have hsz := HSout.out
              rw [hlw] at hsz
              generalize sizeL X (p, i) (k + 1, 0) = sz at hno hyes hsz
              obtain rfl := hsz
              have HNO := hid hno; have HYES := hid hyes; have HPA := hid hpa
              clear hno hyes hpa hnx hlw hpl hcur hL3
              generalize (rowAt X k (firstOf (p, i) k)).getD m 0 = x at *
              generalize sumTo X (p, i) k = S at *
              have hq1 : ((m : Int) == ((X[k].length - firstOf (p, i) k : Nat) : Int) - 1) = true := by simp; omega
              have k8 := (Ext.alloc wr (.cells #[.int .i64 ((k : Int) + 1), .int .i64 0] 64)).cell k1
              by_cases hw : width < S + x
              · gi_wp2
                refine ⟨(fun _ h => by cases h), ?_⟩
                gi_wp2
                go_roundw
                case rel => exact ⟨m + 1, pre2, by omega, by go_num, by rw [HPA.out]; exact HNO.out hw, HJ.out _ _ _ _ HJ2.out (World.grownBy_alloc _ _ none) (fun r e => by cases e), HC2.out.ext (Ext.alloc _ _)⟩
                case measure => simp [intOf]; omega
              · obtain ⟨hmem, hL4, hlen⟩ := HYES.out hw
                obtain ⟨fn, tmps, assign, body, hy, hR⟩ := HY.out pre2 ⟨_, hmem⟩ (wr.alloc (.cells #[.int .i64 ((k : Int) + 1), .int .i64 0] 64)) (HJ.out _ _ _ _ HJ2.out (World.grownBy_alloc _ _ none) (fun r e => by cases e)) hlen
                have hy2 : (Instr.yield l #[.agg #[.int .i64 ((k : Int) + 1), .int .i64 0], .int .i64 (S + x)]).run Try.prog (wr.alloc (.cells #[.int .i64 ((k : Int) + 1), .int .i64 0] 64)) = .ok (.round l fn tmps assign body) (wr.alloc (.cells #[.int .i64 ((k : Int) + 1), .int .i64 0] 64)) := hy
                have HR := hid hR; have HL4 := hid hL4
                clear hy hR hL4 hlen
                gi_wp2
                refine HR.out.mono ?_
                rintro e W3 (⟨rfl, hJ3, hk3⟩ | ⟨rfl, hJx3⟩)
                · have HJ3 := hid hJ3; have HK3 := hid (HKp.out _ _ hk3)
                  clear hJ3 hk3 hy2
                  gi_wp2
                  go_roundw
                  case rel => exact ⟨m + 1, _, by omega, by go_num, by rw [HPA.out]; exact HL4.out, HJ3.out, (HC2.out.ext (Ext.alloc _ _)).move HK3.out⟩
                  case measure => simp [intOf]; omega
                · have HJ3 := hid hJx3
                  clear hJx3 hy2
                  gi_wp2
                  (first | go_end0 | refine bodyPost_ret (results_none rfl _ _ _) rfl ?_)
                  exact ⟨⟨_, rfl⟩, .inr ⟨_, ⟨_, HL4.out⟩, HJ3.out⟩⟩
            · have hnx : next X (k, firstOf (p, i) k + m) = (k, firstOf (p, i) k + m + 1) := next_in hlt (by omega)
              have hpa : plAt X (p, i) k (m + 1) = (k, firstOf (p, i) k + m + 1) := by rw [plAt, if_pos (by rw [HRL.out]; omega)]; rfl
              rw [hnx] at hno hyes
              have hsz := HSin.out m
              generalize sizeL X (p, i) (k, firstOf (p, i) k + m + 1) = sz at hno hyes hsz
              obtain rfl := hsz
              have HNO := hid hno; have HYES := hid hyes; have HPA := hid hpa
              clear hno hyes hpa hnx hpl hcur hL3
              generalize (rowAt X k (firstOf (p, i) k)).getD m 0 = x at *
              generalize sumTo X (p, i) k = S at *
              have hq1 : ((m : Int) == ((X[k].length - firstOf (p, i) k : Nat) : Int) - 1) = false := by simp; omega
              have k8 := (Ext.alloc wr (.cells #[.int .i64 (k : Int), .int .i64 ((firstOf (p, i) k : Int) + m + 1)] 64)).cell k1
              by_cases hw : width < S + x + 1
              · gi_wp2
                refine ⟨(fun _ h => by cases h), ?_⟩
                gi_wp2
                go_roundw
                case rel => exact ⟨m + 1, pre2, by omega, by go_num, by rw [HPA.out]; exact HNO.out hw, HJ.out _ _ _ _ HJ2.out (World.grownBy_alloc _ _ none) (fun r e => by cases e), HC2.out.ext (Ext.alloc _ _)⟩
                case measure => simp [intOf]; omega
              · obtain ⟨hmem, hL4, hlen⟩ := HYES.out hw
                obtain ⟨fn, tmps, assign, body, hy, hR⟩ := HY.out pre2 ⟨_, hmem⟩ (wr.alloc (.cells #[.int .i64 (k : Int), .int .i64 ((firstOf (p, i) k : Int) + m + 1)] 64)) (HJ.out _ _ _ _ HJ2.out (World.grownBy_alloc _ _ none) (fun r e => by cases e)) hlen
                have hy2 : (Instr.yield l #[.agg #[.int .i64 (k : Int), .int .i64 ((firstOf (p, i) k : Int) + m + 1)], .int .i64 (S + x + 1)]).run Try.prog (wr.alloc (.cells #[.int .i64 (k : Int), .int .i64 ((firstOf (p, i) k : Int) + m + 1)] 64)) = .ok (.round l fn tmps assign body) (wr.alloc (.cells #[.int .i64 (k : Int), .int .i64 ((firstOf (p, i) k : Int) + m + 1)] 64)) := hy
                have HR := hid hR; have HL4 := hid hL4
                clear hy hR hL4 hlen
                gi_wp2
                refine HR.out.mono ?_
                rintro e W3 (⟨rfl, hJ3, hk3⟩ | ⟨rfl, hJx3⟩)
                · have HJ3 := hid hJ3; have HK3 := hid (HKp.out _ _ hk3)
                  clear hJ3 hk3 hy2
                  gi_wp2
                  go_roundw
                  case rel => exact ⟨m + 1, _, by omega, by go_num, by rw [HPA.out]; exact HL4.out, HJ3.out, (HC2.out.ext (Ext.alloc _ _)).move HK3.out⟩
                  case measure => simp [intOf]; omega
                · have HJ3 := hid hJx3
                  clear hJx3 hy2
                  gi_wp2
                  (first | go_end0 | refine bodyPost_ret (results_none rfl _ _ _) rfl ?_)
                  exact ⟨⟨_, rfl⟩, .inr ⟨_, ⟨_, HL4.out⟩, HJ3.out⟩⟩
          · have hm2 : m = X[k].length - firstOf (p, i) k := by omega
            have hL3 := HL2.out
            rw [plAt, if_neg (by rw [HRL.out]; omega)] at hL3
            obtain ⟨-, k6⟩ := HC2.out.c3 k hlt (firstOf (p, i) k) (by rw [HG.out]; exact hfi) (X[k].length - firstOf (p, i) k - 1) (by rw [HG.out]; omega)
            have hx := HEL.out (X[k].length - firstOf (p, i) k - 1)
            have hlw : lastW (rowAt X k (firstOf (p, i) k)) = (rowAt X k (firstOf (p, i) k)).getD (X[k].length - firstOf (p, i) k - 1) 0 := by rw [lastW, HRL.out]
            have hsz := HSout.out
            rw [hlw] at hsz
            have hro2 := fun h => rest_over (width := width) HV.out (f := (p, i)) (q := k + 1) (by show p < k + 1; omega) (by omega) h
            rw [hsz] at hro2
            have hnx2 := HSnx.out
            rw [hsz] at hnx2
            have HL3 := hid hL3; have HRO := hid hro2; have HNX := hid hnx2
            clear hL3 hro2 hsz hlw hnx2 hm2
            generalize (rowAt X k (firstOf (p, i) k)).getD (X[k].length - firstOf (p, i) k - 1) 0 = x at *
            generalize hS : sumTo X (p, i) k = S at *
            clear hS
            have e1 : (((X[k].length - firstOf (p, i) k : Nat) : Int) - 1).toNat = X[k].length - firstOf (p, i) k - 1 := by omega
            have e2 : (0 : Int) ≤ ((X[k].length - firstOf (p, i) k : Nat) : Int) - 1 := by omega
            by_cases hw : width < S + x
            · gi_wp2
              (first | go_end0 | refine bodyPost_ret (results_none rfl _ _ _) rfl ?_)
              have hL5 := HL3.out
              rw [HRO.out hw, List.append_nil] at hL5
              exact ⟨⟨_, rfl⟩, .inl ⟨pre2, all_of_map hL5, HJ2.out⟩⟩
            · gi_wp2
              go_roundw
              case rel =>
                refine ⟨k + 1, pre2, by omega, by omega, by go_num, ?_, ?_, HJ2.out, HC2.out⟩
                · rw [sumA, if_neg (by dsimp only; omega), HNX.out]; go_num
                · have : curOf (p, i) (k + 1) = (k + 1, 0) := by simp only [curOf, firstOf]; rw [if_neg (by omega)]
                  rw [this]; exact HL3.out
              case measure => simp [intOf]; omega
    · have hke : k = X.length := by omega
      have hL3 := HL.out
      have : curOf (p, i) k = endP X := by
        simp only [curOf, firstOf]
        rw [if_neg (by have := HF.out.1; dsimp only at this; omega), hke]
      rw [this, rest_end, List.append_nil] at hL3
      have HL3 := hid hL3; clear hL3 this hke
      gi_wp2
      (first | go_end0 | refine bodyPost_ret (results_none rfl _ _ _) rfl ?_)
      exact ⟨⟨_, rfl⟩, .inl ⟨pre, all_of_map HL3.out, HJp.out⟩⟩
end Go.Proofs.Ytehelanfgepcmaa
