import Derived.Test.YtehelanfgepcmaaHb
import Derived.RangeFuncNested
import Derived.RangeFuncBound
import Derived.RangeFuncCalls
import Derived.RangeFuncLeaves
import Derived.OwnWalkIn
import Derived.TacticsInMore
import Derived.LoopNIn
import Derived.LoopIn
import Derived.Test.YtehelanfgepcmaaHa
import Derived.BigQuiet
import Derived.Carry
set_option linter.unusedSimpArgs false
set_option linter.unusedVariables false
set_option linter.unusedSectionVars false
namespace Go.Proofs.Ytehelanfgepcmaa
open Go.RowKit Dac

set_option maxHeartbeats 400000 in
theorem Bad_ok (x : Int) (w : World) : Calls Try.prog 57 #[.int .i64 x] w (QRet w (.bool (!elOK x))) := by
  have hE : elOK x = decide (0 ≤ x ∧ x ≤ 4096) := rfl
  generalize elOK x = R at *
  have HE := hid hE; clear hE
  by_cases h1 : x < 0
  · go_enter Try.func57, Try.ntmps57
    go_wp2
    go_ret
    exact ⟨ret_bool (by rw [HE.out]; simp; omega), 0, rfl⟩
  · by_cases h2 : 4096 < x
    · go_enter Try.func57, Try.ntmps57
      go_wp2
      go_ret
      exact ⟨ret_bool (by rw [HE.out]; simp; omega), 0, rfl⟩
    · go_enter Try.func57, Try.ntmps57
      go_wp2
      go_ret
      exact ⟨ret_bool (by rw [HE.out]; simp; omega), 0, rfl⟩

/-- It returns a number, not negative if and only if b. -/
def NegQ (b : Bool) (w : World) (e : Ending) (w' : World) : Prop := Ext w w' ∧ ∃ n : Int, e = .returned (.int .i64 n) ∧ decide (0 ≤ n) = b

set_option maxHeartbeats 1000000 in
theorem IndexBad_ok (v : Value) (l : List Int) (w : World) (hl : intR.slice.rd w Any [v] l) :
    Calls Try.prog 58 #[v, .func (.func 57) #[] #[]] w (NegQ (!l.all elOK) w) := by
  obtain ⟨ad, cap, rfl, l1, l2, el⟩ := ints hl
  unfold maxLen at l2
  have HE := hid el; clear el hl
  have HN := hid (fun (j : Nat) (hj : j < l.length) (h : elOK l[j] = false) => (show (!l.all elOK) = true by rw [Bool.not_eq_true', List.all_eq_false]; exact ⟨_, List.getElem_mem hj, by rw [h]; simp⟩))
  have HP := hid (fun (h : ∀ j (hj : j < l.length), elOK l[j] = true) => (show (!l.all elOK) = false by
    rw [Bool.not_eq_false', List.all_eq_true]; intro x hx; obtain ⟨j, hj, rfl⟩ := List.getElem_of_mem hx; exact h j hj))
  generalize (!l.all elOK) = R at *
  go_enter Try.func58, Try.ntmps58
  go_wp2
  go_loopw [8] (fun i wr => ∃ k : Nat, k ≤ l.length ∧ i = .int .i64 k ∧ Ext w wr ∧ ∀ j (hj : j < l.length), j < k → elOK l[j] = true) (fun i _ => l.length - (intOf i).toNat)
  case atStart => exact ⟨0, by omega, rfl, Ext.rfl' _, fun p hp h => absurd h (by omega)⟩
  case round =>
    obtain ⟨k, hk, rfl, hx, hall⟩ := hrel
    have HA := hid hall; clear hall
    have HX := hid hx; clear hx
    by_cases hlt : k < l.length
    · obtain ⟨b, o, rfl, -, cu⟩ := HE.out k hlt
      have cu1 := HX.out.cell cu
      clear cu
      cases hok : elOK l[k] with
      | true =>
        have hB := fun W => Bad_ok l[k] W
        rw [hok] at hB
        have HB := hid hB; have HO := hid hok; clear hB hok
        go_wp2_with (go_at_call 57; refine (toRet (HB.out _)).mono ?_; rintro e w1 ⟨rfl, x1⟩; have HX1 := hid (HX.out.then x1); clear x1)
        go_roundw
        case rel =>
          refine ⟨k + 1, by omega, by go_num, HX1.out, fun j hj h => ?_⟩
          by_cases he : j = k
          · subst he; exact HO.out
          · exact HA.out j hj (by omega)
        case measure => simp [intOf]; omega
      | false =>
        have hB := fun W => Bad_ok l[k] W
        rw [hok] at hB
        have HB := hid hB; have HO := hid hok; clear hB hok
        go_wp2_with (go_at_call 57; refine (toRet (HB.out _)).mono ?_; rintro e w1 ⟨rfl, x1⟩; have HX1 := hid (HX.out.then x1); clear x1)
        go_ret
        exact ⟨HX1.out, k, rfl, by rw [HN.out k hlt HO.out]; simp⟩
    · go_wp2
      go_ret
      exact ⟨HX.out, -1, rfl, by rw [HP.out fun j hj => HA.out j hj (by omega)]; simp⟩

set_option maxHeartbeats 1000000 in
theorem ContBad_ok (v : Value) (l : List Int) (w : World) (hl : intR.slice.rd w Any [v] l) :
    Calls Try.prog 56 #[v, .func (.func 57) #[] #[]] w (Ret w (.bool (!l.all elOK))) := by
  have h := IndexBad_ok v l w hl
  generalize (!l.all elOK) = R at *
  have H := hid h; clear h hl
  go_enter Try.func56, Try.ntmps56
  go_wp2_with (go_at_call 58; refine H.out.mono ?_; rintro e w1 ⟨x1, n, rfl, hn⟩; have HN := hid hn; have HX := hid x1; clear hn x1)
  go_ret
  exact ⟨ret_bool HN.out, HX.out⟩

set_option maxRecDepth 100000 in
set_option maxHeartbeats 2000000 in
theorem WordValid_ok (v : Value) (wd : List (List Int)) (w : World) (hl : rowsR.rd w Any [v] wd) :
    Calls Try.prog 53 #[.agg #[v]] w (Ret w (.bool (wordOK wd))) := by
  obtain ⟨ad, cap, rfl, l1, l2, el⟩ := rows hl
  unfold maxLen at l2
  have HE := hid el; clear el hl
  have HN := hid (fun (j : Nat) (hj : j < wd.length) (h : rowOK wd.length j wd[j] = false) => wordOK_row hj h)
  have HP := hid (fun (h1 : 1 ≤ wd.length ∧ wd.length ≤ 16) (h : ∀ j (hj : j < wd.length), rowOK wd.length j wd[j] = true) => wordOK_mk h1 h)
  have HS := hid (fun (h1 : ¬ (1 ≤ wd.length ∧ wd.length ≤ 16)) => (show wordOK wd = false by simp only [wordOK, h1, decide_false, Bool.false_and]))
  generalize wordOK wd = R at *
  go_enter Try.func53, Try.ntmps53
  go_wp2
  go_loopw [12] (fun i wr => ∃ k : Nat, k ≤ wd.length ∧ i = .int .i64 k ∧ Ext w wr ∧ ∀ j (hj : j < wd.length), j < k → rowOK wd.length j wd[j] = true) (fun i _ => wd.length - (intOf i).toNat)
  case atStart => exact ⟨0, by omega, rfl, Ext.alloc _ _, fun p hp h => absurd h (by omega)⟩
  case round =>
    obtain ⟨k, hk, rfl, hx, hall⟩ := hrel
    have HA := hid hall; clear hall
    have HX := hid hx; clear hx
    by_cases hlt : k < wd.length
    · obtain ⟨b, o, a2, c2, rfl, r2, cu, hul⟩ := HE.out k hlt
      unfold maxLen at hul
      have cu1 := HX.out.cell cu
      have hC := fun W (h : Ext wr W) => ContBad_ok _ wd[k] W (Rdr.ext _ r2 (HX.out.then h))
      clear cu r2
      have hr : rowOK wd.length k wd[k] = (decide (wd[k].length = wd.length - k) && wd[k].all elOK) := rfl
      have HR := hid hr; clear hr
      by_cases h1 : wd[k].length = wd.length - k
      · have h1' : ((wd[k].length : Int) != (wd.length : Int) - k) = false := by simp; omega
        have H1 := hid h1; clear h1
        cases hok : wd[k].all elOK with
        | true =>
          rw [hok] at hC
          have HC := hid hC; have HO := hid hok; clear hC hok
          go_wp2_with (go_at_call 56; refine (HC.out _ (Below.refl _ _)).mono ?_; rintro e w1 ⟨rfl, x1⟩; have HX1 := hid (HX.out.then x1); clear x1)
          go_roundw
          case rel =>
            refine ⟨k + 1, by omega, by go_num, HX1.out, fun j hj h => ?_⟩
            by_cases he : j = k
            · subst he; rw [HR.out, HO.out]; simp [H1.out]
            · exact HA.out j hj (by omega)
          case measure => simp [intOf]; omega
        | false =>
          rw [hok] at hC
          have HC := hid hC; have HO := hid hok; clear hC hok
          go_wp2_with (go_at_call 56; refine (HC.out _ (Below.refl _ _)).mono ?_; rintro e w1 ⟨rfl, x1⟩; have HX1 := hid (HX.out.then x1); clear x1)
          go_ret
          exact ⟨ret_bool (HN.out k hlt (by rw [HR.out, HO.out]; simp)).symm, HX1.out⟩
      · have h1' : ((wd[k].length : Int) != (wd.length : Int) - k) = !false := by simp; omega
        have H1 := hid h1; clear h1 hC
        go_wp2
        go_ret
        exact ⟨ret_bool (HN.out k hlt (by rw [HR.out]; simp [H1.out])).symm, HX.out⟩
    · by_cases h1 : 1 ≤ wd.length
      · by_cases h2 : wd.length ≤ 16
        · go_wp2
          go_ret
          exact ⟨ret_bool (by rw [HP.out ⟨h1, h2⟩ fun j hj => HA.out j hj (by omega)]; simp; omega), HX.out⟩
        · go_wp2
          go_ret
          exact ⟨ret_bool (by rw [HS.out (by omega)]; simp; omega), HX.out⟩
      · go_wp2
        go_ret
        exact ⟨ret_bool (by rw [HS.out (by omega)]), HX.out⟩

set_option maxHeartbeats 1000000 in
theorem NotWord_ok (v : Value) (wd : List (List Int)) (w : World) (hl : rowsR.rd w Any [v] wd) :
    Calls Try.prog 52 #[.agg #[v]] w (Ret w (.bool (!wordOK wd))) := by
  obtain ⟨ad, cap, rfl⟩ := Rdr.slice_v hl
  have h := fun W (hx : Ext w W) => WordValid_ok _ wd W (Rdr.ext _ hl hx)
  generalize wordOK wd = R at *
  have H := hid h; clear h hl
  go_enter Try.func52, Try.ntmps52
  go_wp2_with (go_at_call 53; refine (H.out _ (Ext.alloc _ _)).mono ?_; rintro e w1 ⟨rfl, x1⟩; have HX := hid ((Ext.alloc _ _).then x1); clear x1)
  go_ret
  exact ⟨rfl, HX.out⟩

set_option maxHeartbeats 1000000 in
theorem IndexWord_ok (v : Value) (X : List (List (List Int))) (w : World) (hl : wordsR.rd w Any [v] X) :
    Calls Try.prog 55 #[v, .func (.func 52) #[] #[]] w (NegQ (!X.all wordOK) w) := by
  obtain ⟨ad, cap, rfl, l1, l2, el⟩ := rows hl
  unfold maxLen at l2
  have HE := hid el; clear el hl
  have HN := hid (fun (j : Nat) (hj : j < X.length) (h : wordOK X[j] = false) => (show (!X.all wordOK) = true by rw [Bool.not_eq_true', List.all_eq_false]; exact ⟨_, List.getElem_mem hj, by rw [h]; simp⟩))
  have HP := hid (fun (h : ∀ j (hj : j < X.length), wordOK X[j] = true) => (show (!X.all wordOK) = false by
    rw [Bool.not_eq_false', List.all_eq_true]; intro x hx; obtain ⟨j, hj, rfl⟩ := List.getElem_of_mem hx; exact h j hj))
  generalize (!X.all wordOK) = R at *
  go_enter Try.func55, Try.ntmps55
  go_wp2
  go_loopw [8] (fun i wr => ∃ k : Nat, k ≤ X.length ∧ i = .int .i64 k ∧ Ext w wr ∧ ∀ j (hj : j < X.length), j < k → wordOK X[j] = true) (fun i _ => X.length - (intOf i).toNat)
  case atStart => exact ⟨0, by omega, rfl, Ext.rfl' _, fun p hp h => absurd h (by omega)⟩
  case round =>
    obtain ⟨k, hk, rfl, hx, hall⟩ := hrel
    have HA := hid hall; clear hall
    have HX := hid hx; clear hx
    by_cases hlt : k < X.length
    · obtain ⟨b, o, a2, c2, rfl, r2, cu, hul⟩ := HE.out k hlt
      have cu1 := HX.out.cell cu
      have hB := fun W (h : Ext wr W) => NotWord_ok _ X[k] W (Rdr.ext _ r2 (HX.out.then h))
      clear cu r2
      cases hok : wordOK X[k] with
      | true =>
        rw [hok] at hB
        have HB := hid hB; have HO := hid hok; clear hB hok
        go_wp2_with (go_at_call 52; refine (HB.out _ (Below.refl _ _)).mono ?_; rintro e w1 ⟨rfl, x1⟩; have HX1 := hid (HX.out.then x1); clear x1)
        go_roundw
        case rel =>
          refine ⟨k + 1, by omega, by go_num, HX1.out, fun j hj h => ?_⟩
          by_cases he : j = k
          · subst he; exact HO.out
          · exact HA.out j hj (by omega)
        case measure => simp [intOf]; omega
      | false =>
        rw [hok] at hB
        have HB := hid hB; have HO := hid hok; clear hB hok
        go_wp2_with (go_at_call 52; refine (HB.out _ (Below.refl _ _)).mono ?_; rintro e w1 ⟨rfl, x1⟩; have HX1 := hid (HX.out.then x1); clear x1)
        go_ret
        exact ⟨HX1.out, k, rfl, by rw [HN.out k hlt HO.out]; simp⟩
    · go_wp2
      go_ret
      exact ⟨HX.out, -1, rfl, by rw [HP.out fun j hj => HA.out j hj (by omega)]; simp⟩

set_option maxHeartbeats 1000000 in
theorem ContWord_ok (v : Value) (X : List (List (List Int))) (w : World) (hl : wordsR.rd w Any [v] X) :
    Calls Try.prog 51 #[v, .func (.func 52) #[] #[]] w (Ret w (.bool (!X.all wordOK))) := by
  have h := IndexWord_ok v X w hl
  generalize (!X.all wordOK) = R at *
  have H := hid h; clear h hl
  go_enter Try.func51, Try.ntmps51
  go_wp2_with (go_at_call 55; refine H.out.mono ?_; rintro e w1 ⟨x1, n, rfl, hn⟩; have HN := hid hn; have HX := hid x1; clear hn x1)
  go_ret
  exact ⟨ret_bool HN.out, HX.out⟩

set_option maxHeartbeats 1000000 in
theorem PValid_ok (v : Value) (X : List (List (List Int))) (width : Int) (w : World) (hl : wordsR.rd w Any [v] X) (hwi : I64 width) :
    Calls Try.prog 37 #[v, .int .i64 width] w (Ret w (.bool (validB X width))) := by
  obtain ⟨ad, cap, rfl, l1, l2, -⟩ := rows hl
  unfold maxLen at l2
  obtain ⟨wi1, wi2⟩ := hwi
  have hC := ContWord_ok _ X w hl
  have hv : validB X width = (decide (X.length ≤ 512) && decide (1 ≤ width ∧ width ≤ 512) && X.all wordOK) := rfl
  have HC := hid hC; have HV := hid hv; clear hC hv hl
  generalize validB X width = R at *
  generalize X.all wordOK = C at *
  by_cases c1 : X.length ≤ 512
  · by_cases c2 : 1 ≤ width
    · by_cases c3 : width ≤ 512
      · go_enter Try.func37, Try.ntmps37
        go_wp2_with (go_at_call 51; refine HC.out.mono ?_; rintro e w1 ⟨rfl, x1⟩; have HX := hid x1; clear x1)
        go_ret
        exact ⟨ret_bool (by rw [HV.out]; simp [c1, c2, c3]), HX.out⟩
      · go_enter Try.func37, Try.ntmps37
        go_wp2
        go_ret
        exact ⟨ret_bool (by rw [HV.out, decide_eq_false (show ¬ (1 ≤ width ∧ width ≤ 512) from by omega)]; simp), Ext.rfl' _⟩
    · go_enter Try.func37, Try.ntmps37
      go_wp2
      go_ret
      exact ⟨ret_bool (by rw [HV.out, decide_eq_false (show ¬ (1 ≤ width ∧ width ≤ 512) from by omega)]; simp), Ext.rfl' _⟩
  · go_enter Try.func37, Try.ntmps37
    go_wp2
    go_ret
    exact ⟨ret_bool (by rw [HV.out]; simp [c1]), Ext.rfl' _⟩
end Go.Proofs.Ytehelanfgepcmaa
set_option linter.unusedSimpArgs false
set_option linter.unusedVariables false
set_option linter.unusedSectionVars false
namespace Go.Proofs.Ytehelanfgepcmaa
open Go.RowKit Dac

/-- The lines from f that fit and end behind cur, with their widths. -/
def restL (X : List (List (List Int))) (width : Int) (f cur : Place) : List (Place × Int) :=
  (laters X (rem X cur) cur).filterMap fun t => if width < sizeL X f t then none else some (t, sizeL X f t)
def linesX (X : List (List (List Int))) (width : Int) (f : Place) : List (Place × Int) := restL X width f f

theorem rest_step {X : List (List (List Int))} {width : Int} {f cur : Place} (hV : VW X) (h : Pl X cur) :
    restL X width f cur = (if width < sizeL X f (next X cur) then [] else [(next X cur, sizeL X f (next X cur))]) ++ restL X width f (next X cur) := by
  obtain ⟨h1, h2, h3⟩ := next_ok hV h
  unfold restL
  rw [← h3, laters, List.filterMap_cons]
  split <;> split <;> simp_all
theorem rest_end (X : List (List (List Int))) (width : Int) (f : Place) : restL X width f (endP X) = [] := by
  unfold restL; rw [rem_end]; rfl

theorem sumS_mono {X : List (List (List Int))} (hV : VW X) {q : Nat} {s : Int} {n : Nat} : ∀ d, q + (n + d) ≤ X.length → sumS X q s n ≤ sumS X q s (n + d)
  | 0, _ => by simp
  | d + 1, h => by
    have ih := sumS_mono (q := q) (s := s) (n := n) hV d (by omega)
    have hp : q + (n + d) < X.length := by omega
    have h1 := hV.elem (j := (rowAt X (q + (n + d)) 0).length - 1) hp (Nat.lt_of_lt_of_le Nat.zero_lt_one (hV.2 _ hp).1)
    rw [← Nat.add_assoc, sumS, lastW]
    omega
theorem rest_over {X : List (List (List Int))} {width : Int} {f : Place} (hV : VW X) {q : Nat} (hq : f.1 < q) (hqX : q ≤ X.length) (h : width < sizeL X f (q, 0)) : restL X width f (q, 0) = [] := by
  unfold restL
  rw [List.filterMap_eq_nil_iff]
  intro t ht
  have hE : En X (q, 0) := by
    by_cases h0 : q = X.length
    · exact .inl ⟨h0, rfl⟩
    · have hq' : q < X.length := by omega
      exact .inr ⟨hq', Nat.lt_of_lt_of_le Nat.zero_lt_one (hV.2 _ hq').1⟩
  obtain ⟨h1, h2⟩ := laters_mem hV _ _ hE rfl t ht
  obtain ⟨p, i⟩ := f
  obtain ⟨r, j⟩ := t
  dsimp only at hq
  have hqr : q ≤ r := by rcases h1 with h | ⟨h, _⟩ <;> dsimp only at h <;> omega
  have hrX : r ≤ X.length := by rcases h2 with ⟨h, _⟩ | ⟨h, _⟩ <;> dsimp only at h <;> omega
  have hs : sizeL X (p, i) (q, 0) = sumS X (p + 1) (lastW (rowAt X p i)) (q - p - 1) := by simp only [sizeL, if_neg (show ¬ p = q by omega), ↓reduceIte]
  rw [hs] at h
  have hm := sumS_mono (q := p + 1) (s := lastW (rowAt X p i)) (n := q - p - 1) hV (r - q) (by omega)
  rw [show q - p - 1 + (r - q) = r - p - 1 from by omega] at hm
  have : width < sizeL X (p, i) (r, j) := by
    simp only [sizeL, if_neg (show ¬ p = r by omega)]
    split
    · omega
    · rename_i hj
      rcases h2 with ⟨_, h2⟩ | ⟨h3, h4⟩
      · exact absurd h2 hj
      · have := hV.elem (j := j - 1) h3 (Nat.lt_of_lt_of_le Nat.zero_lt_one (hV.2 _ h3).1)
        dsimp only at this
        omega
  rw [if_pos this]

theorem next_in {X : List (List (List Int))} {p i : Nat} (hp : p < X.length) (h : i + 1 < X[p].length) : next X (p, i) = (p, i + 1) := by
  have hg : X.getD p [] = X[p] := by simp [hp]
  simp only [next, hg, if_pos h]
theorem next_out {X : List (List (List Int))} {p i : Nat} (hp : p < X.length) (h : i + 1 = X[p].length) : next X (p, i) = (p + 1, 0) := by
  have hg : X.getD p [] = X[p] := by simp [hp]
  simp only [next, hg, if_neg (show ¬ i + 1 < X[p].length by omega)]

/-- The width of the whole words of a line from f before word q. -/
def sumTo (X : List (List (List Int))) (f : Place) (q : Nat) : Int := if q = f.1 then 0 else sumS X (f.1 + 1) (lastW (rowAt X f.1 f.2)) (q - f.1 - 1) + 1
/-- Where the line's part of word q begins. -/
def firstOf (f : Place) (q : Nat) : Nat := if q = f.1 then f.2 else 0
theorem size_in {X : List (List (List Int))} {f : Place} {q k : Nat} (hq : f.1 ≤ q) : sizeL X f (q, firstOf f q + k + 1) = sumTo X f q + (rowAt X q (firstOf f q)).getD k 0 + 1 := by
  obtain ⟨p, i⟩ := f
  simp only [sizeL, sumTo, firstOf]
  by_cases h : p = q
  · subst h; simp only [↓reduceIte]; rw [show i + k + 1 - i - 1 = k from by omega]; omega
  · rw [if_neg h, if_neg (show ¬ q = p by omega), if_neg (show ¬ q = p by omega), if_neg (by omega)]
    rw [show 0 + k + 1 - 1 = k from by omega]
theorem size_out {X : List (List (List Int))} {f : Place} {q : Nat} (hq : f.1 ≤ q) : sizeL X f (q + 1, 0) = sumTo X f q + lastW (rowAt X q (firstOf f q)) := by
  obtain ⟨p, i⟩ := f
  dsimp only at hq
  simp only [sizeL, sumTo, firstOf]
  rw [if_neg (show ¬ p = q + 1 by omega)]
  simp only [↓reduceIte]
  by_cases h : q = p
  · subst h; simp only [↓reduceIte]
    rw [show q + 1 - q - 1 = 0 from by omega, sumS]; omega
  · rw [if_neg h, if_neg h, show q + 1 - p - 1 = (q - p - 1) + 1 from by omega, sumS, show p + 1 + (q - p - 1) = q from by omega]
theorem sumTo_next {X : List (List (List Int))} {f : Place} {q : Nat} (hq : f.1 ≤ q) : sumTo X f (q + 1) = sizeL X f (q + 1, 0) + 1 := by
  obtain ⟨p, i⟩ := f
  dsimp only at hq
  simp only [sizeL, sumTo]
  rw [if_neg (show ¬ q + 1 = p by omega), if_neg (show ¬ p = q + 1 by omega)]
  simp only [↓reduceIte]
end Go.Proofs.Ytehelanfgepcmaa
set_option linter.unusedSimpArgs false
set_option linter.unusedVariables false
set_option linter.unusedSectionVars false
namespace Go.Proofs.Ytehelanfgepcmaa
open Go.RowKit Dac
attribute [local go_sem] Oper.semAt_some

set_option maxHeartbeats 1000000 in
theorem lines_ok (v : Value) (X : List (List (List Int))) (width : Int) (f : Place) (w : World) (hX : wordsR.rd w Any [v] X) :
    Calls Try.prog 40 #[v, .int .i64 width, .agg #[.int .i64 f.1, .int .i64 f.2]] w fun e w' =>
      e = .returned (.func (.func 54) #[] #[.pointer (some ⟨w.heap.size + 2, 0, none⟩), .pointer (some ⟨w.heap.size, 0, none⟩), .pointer (some ⟨w.heap.size + 1, 0, none⟩)]) ∧
      w' = ((w.alloc (.cells #[v] 34)).alloc (.cells #[.int .i64 width] 3)).alloc (.cells #[.int .i64 f.1, .int .i64 f.2] 64) := by
  obtain ⟨ad, cap, rfl⟩ := Rdr.slice_v hX
  clear hX
  go_enter Try.func40, Try.ntmps40
  go_wp2
  go_ret
  exact ⟨rfl, rfl⟩
end Go.Proofs.Ytehelanfgepcmaa
namespace Go.Proofs.Ytehelanfgepcmaa
open Go.RowKit Dac
attribute [local go_sem] Oper.semAt_some

theorem choose_fn {α : Type} [Inhabited α] {n : Nat} {p : Nat → α → Prop} (h : ∀ i, i < n → ∃ x, p i x) : ∃ f : Nat → α, ∀ i, i < n → p i (f i) := by
  refine ⟨fun i => if hi : i < n then Classical.choose (h i hi) else default, fun i hi => ?_⟩
  simp only [dif_pos hi]
  exact Classical.choose_spec (h i hi)

/-- What lines' function reads, at addresses that are named once: the words from ⟨b, o⟩, and the variables that it captures, from block B on. -/
structure Cap (F : Nat → Prop) (W : World) (B b o cap : Nat) (width : Int) (f : Place) (X : List (List (List Int))) (A2 : Nat → Nat × Nat × Nat) (A3 : Nat → Nat → Nat × Nat × Nat) : Prop where
  F0 : F B ∧ F (B + 1) ∧ F (B + 2)
  l : W.cell? ⟨B, 0, none⟩ = some (.slice (some ⟨b, o, none⟩) X.length cap)
  w : W.cell? ⟨B + 1, 0, none⟩ = some (.int .i64 width)
  f0 : W.cell? ⟨B + 2, 0, none⟩ = some (.int .i64 f.1)
  f1 : W.cell? ⟨B + 2, 1, none⟩ = some (.int .i64 f.2)
  c1 : ∀ k, k < X.length → F b ∧ W.cell? ⟨b, o + k, none⟩ = some (.slice (some ⟨(A2 k).1, (A2 k).2.1, none⟩) (X.getD k []).length (A2 k).2.2)
  c2 : ∀ k, k < X.length → ∀ i, i < (X.getD k []).length → F (A2 k).1 ∧ W.cell? ⟨(A2 k).1, (A2 k).2.1 + i, none⟩ = some (.slice (some ⟨(A3 k i).1, (A3 k i).2.1, none⟩) ((X.getD k []).length - i) (A3 k i).2.2)
  c3 : ∀ k, k < X.length → ∀ i, i < (X.getD k []).length → ∀ j, j < (X.getD k []).length - i → F (A3 k i).1 ∧ W.cell? ⟨(A3 k i).1, (A3 k i).2.1 + j, none⟩ = some (.int .i64 ((rowAt X k i).getD j 0))

theorem Cap.move {F : Nat → Prop} {W W' : World} {B b o cap : Nat} {width : Int} {f : Place} {X : List (List (List Int))} {A2 : Nat → Nat × Nat × Nat} {A3 : Nat → Nat → Nat × Nat × Nat} (h : Cap F W B b o cap width f X A2 A3)
    (hk : ∀ (a : Addr) (u : Value), F a.block → W.cell? a = some u → W'.cell? a = some u) : Cap F W' B b o cap width f X A2 A3 :=
  ⟨h.F0, hk _ _ h.F0.1 h.l, hk _ _ h.F0.2.1 h.w, hk _ _ h.F0.2.2 h.f0, hk _ _ h.F0.2.2 h.f1, fun k h1 => ⟨(h.c1 k h1).1, hk _ _ (h.c1 k h1).1 (h.c1 k h1).2⟩,
    fun k h1 i h2 => ⟨(h.c2 k h1 i h2).1, hk _ _ (h.c2 k h1 i h2).1 (h.c2 k h1 i h2).2⟩, fun k h1 i h2 j h3 => ⟨(h.c3 k h1 i h2 j h3).1, hk _ _ (h.c3 k h1 i h2 j h3).1 (h.c3 k h1 i h2 j h3).2⟩⟩
theorem Cap.ext {F : Nat → Prop} {W W' : World} {B b o cap : Nat} {width : Int} {f : Place} {X : List (List (List Int))} {A2 : Nat → Nat × Nat × Nat} {A3 : Nat → Nat → Nat × Nat × Nat} (h : Cap F W B b o cap width f X A2 A3) (hx : Ext W W') : Cap F W' B b o cap width f X A2 A3 :=
  h.move fun _ _ _ hc => hx.cell hc

/-- The same, wherever the captured variables lie. -/
structure CapG (F : Nat → Prop) (W : World) (BL oL BW oW BF oF b o cap : Nat) (width : Int) (f : Place) (X : List (List (List Int))) (A2 : Nat → Nat × Nat × Nat) (A3 : Nat → Nat → Nat × Nat × Nat) : Prop where
  F0 : F BL ∧ F BW ∧ F BF
  l : W.cell? ⟨BL, oL, none⟩ = some (.slice (some ⟨b, o, none⟩) X.length cap)
  w : W.cell? ⟨BW, oW, none⟩ = some (.int .i64 width)
  f0 : W.cell? ⟨BF, oF, none⟩ = some (.int .i64 f.1)
  f1 : W.cell? ⟨BF, oF + 1, none⟩ = some (.int .i64 f.2)
  c1 : ∀ k, k < X.length → F b ∧ W.cell? ⟨b, o + k, none⟩ = some (.slice (some ⟨(A2 k).1, (A2 k).2.1, none⟩) (X.getD k []).length (A2 k).2.2)
  c2 : ∀ k, k < X.length → ∀ i, i < (X.getD k []).length → F (A2 k).1 ∧ W.cell? ⟨(A2 k).1, (A2 k).2.1 + i, none⟩ = some (.slice (some ⟨(A3 k i).1, (A3 k i).2.1, none⟩) ((X.getD k []).length - i) (A3 k i).2.2)
  c3 : ∀ k, k < X.length → ∀ i, i < (X.getD k []).length → ∀ j, j < (X.getD k []).length - i → F (A3 k i).1 ∧ W.cell? ⟨(A3 k i).1, (A3 k i).2.1 + j, none⟩ = some (.int .i64 ((rowAt X k i).getD j 0))
theorem CapG.move {F : Nat → Prop} {W W' : World} {BL oL BW oW BF oF b o cap : Nat} {width : Int} {f : Place} {X : List (List (List Int))} {A2 : Nat → Nat × Nat × Nat} {A3 : Nat → Nat → Nat × Nat × Nat} (h : CapG F W BL oL BW oW BF oF b o cap width f X A2 A3)
    (hk : ∀ (a : Addr) (u : Value), F a.block → W.cell? a = some u → W'.cell? a = some u) : CapG F W' BL oL BW oW BF oF b o cap width f X A2 A3 :=
  ⟨h.F0, hk _ _ h.F0.1 h.l, hk _ _ h.F0.2.1 h.w, hk _ _ h.F0.2.2 h.f0, hk _ _ h.F0.2.2 h.f1, fun k h1 => ⟨(h.c1 k h1).1, hk _ _ (h.c1 k h1).1 (h.c1 k h1).2⟩,
    fun k h1 i h2 => ⟨(h.c2 k h1 i h2).1, hk _ _ (h.c2 k h1 i h2).1 (h.c2 k h1 i h2).2⟩, fun k h1 i h2 j h3 => ⟨(h.c3 k h1 i h2 j h3).1, hk _ _ (h.c3 k h1 i h2 j h3).1 (h.c3 k h1 i h2 j h3).2⟩⟩
theorem CapG.ext {F : Nat → Prop} {W W' : World} {BL oL BW oW BF oF b o cap : Nat} {width : Int} {f : Place} {X : List (List (List Int))} {A2 : Nat → Nat × Nat × Nat} {A3 : Nat → Nat → Nat × Nat × Nat} (h : CapG F W BL oL BW oW BF oF b o cap width f X A2 A3) (hx : Ext W W') : CapG F W' BL oL BW oW BF oF b o cap width f X A2 A3 :=
  h.move fun _ _ _ hc => hx.cell hc
theorem Cap.g {F : Nat → Prop} {W : World} {B b o cap : Nat} {width : Int} {f : Place} {X : List (List (List Int))} {A2 : Nat → Nat × Nat × Nat} {A3 : Nat → Nat → Nat × Nat × Nat} (h : Cap F W B b o cap width f X A2 A3) : CapG F W B 0 (B + 1) 0 (B + 2) 0 b o cap width f X A2 A3 :=
  ⟨h.F0, h.l, h.w, h.f0, h.f1, h.c1, h.c2, h.c3⟩

theorem words_addr {F : Nat → Prop} {w : World} {b o cap : Nat} {X : List (List (List Int))} (h : wordsR.rd w F [.slice (some ⟨b, o, none⟩) X.length cap] X) (hV : VW X) :
    ∃ (A2 : Nat → Nat × Nat × Nat) (A3 : Nat → Nat → Nat × Nat × Nat), (∀ k, k < X.length → F b ∧ w.cell? ⟨b, o + k, none⟩ = some (.slice (some ⟨(A2 k).1, (A2 k).2.1, none⟩) (X.getD k []).length (A2 k).2.2)) ∧
      (∀ k, k < X.length → ∀ i, i < (X.getD k []).length → F (A2 k).1 ∧ w.cell? ⟨(A2 k).1, (A2 k).2.1 + i, none⟩ = some (.slice (some ⟨(A3 k i).1, (A3 k i).2.1, none⟩) ((X.getD k []).length - i) (A3 k i).2.2)) ∧
      (∀ k, k < X.length → ∀ i, i < (X.getD k []).length → ∀ j, j < (X.getD k []).length - i → F (A3 k i).1 ∧ w.cell? ⟨(A3 k i).1, (A3 k i).2.1 + j, none⟩ = some (.int .i64 ((rowAt X k i).getD j 0))) := by
  obtain ⟨ad, cap', hv, h1, h2, e1⟩ := h
  have key : ∀ k, k < X.length → ∃ y : (Nat × Nat × Nat) × (Nat → Nat × Nat × Nat), (F b ∧ w.cell? ⟨b, o + k, none⟩ = some (.slice (some ⟨y.1.1, y.1.2.1, none⟩) (X.getD k []).length y.1.2.2)) ∧
      (∀ i, i < (X.getD k []).length → F y.1.1 ∧ w.cell? ⟨y.1.1, y.1.2.1 + i, none⟩ = some (.slice (some ⟨(y.2 i).1, (y.2 i).2.1, none⟩) ((X.getD k []).length - i) (y.2 i).2.2)) ∧
      (∀ i, i < (X.getD k []).length → ∀ j, j < (X.getD k []).length - i → F (y.2 i).1 ∧ w.cell? ⟨(y.2 i).1, (y.2 i).2.1 + j, none⟩ = some (.int .i64 ((rowAt X k i).getD j 0))) := by
    intro k hk
    have hg : X.getD k [] = X[k] := by simp [hk]
    rw [hg]
    obtain ⟨b', o', es, had, hF, _, ⟨ad2, cap2, rfl, _, _, e2⟩, hc⟩ := e1 k hk
    rw [had] at hv
    simp only [List.cons.injEq, Value.slice.injEq, Option.some.injEq, Addr.mk.injEq, and_true, true_and] at hv
    obtain ⟨⟨rfl, rfl⟩, -⟩ := hv
    have hc0 := hc 0 _ rfl
    simp only [Rdr.slice, Nat.mul_one, Nat.add_zero] at hc0
    have hpos := (hV.2 k hk).1
    obtain ⟨b2, o2, es0, rfl, hF2, _, _, _⟩ := e2 0 hpos
    have key2 : ∀ i, i < X[k].length → ∃ z : Nat × Nat × Nat, (F b2 ∧ w.cell? ⟨b2, o2 + i, none⟩ = some (.slice (some ⟨z.1, z.2.1, none⟩) (X[k].length - i) z.2.2)) ∧
        (∀ j, j < X[k].length - i → F z.1 ∧ w.cell? ⟨z.1, z.2.1 + j, none⟩ = some (.int .i64 ((rowAt X k i).getD j 0))) := by
      intro i hi
      obtain ⟨b2', o2', es2, he2, _, _, ⟨ad3, cap3, rfl, _, _, e3⟩, hc2⟩ := e2 i hi
      simp only [Option.some.injEq, Addr.mk.injEq, and_true] at he2
      obtain ⟨rfl, rfl⟩ := he2
      have hc20 := hc2 0 _ rfl
      simp only [Rdr.slice, Nat.mul_one, Nat.add_zero] at hc20
      have hl := ((hV.2 k hk).2.2 i hi).1
      obtain ⟨b3, o3, es3, rfl, hF3, _, _, _⟩ := e3 0 (by rw [hl]; omega)
      rw [hl] at hc20
      refine ⟨(b3, o3, cap3), ⟨hF2, hc20⟩, fun j hj => ⟨hF3, ?_⟩⟩
      have hj' : j < X[k][i].length := by rw [hl]; exact hj
      obtain ⟨b3', o3', es3', he3, _, _, hr3, hc3⟩ := e3 j hj'
      simp only [Option.some.injEq, Addr.mk.injEq, and_true] at he3
      obtain ⟨rfl, rfl⟩ := he3
      rw [hr3.1] at hc3
      have := hc3 0 _ rfl
      simp only [intR, Nat.mul_one, Nat.add_zero] at this
      rw [this, rowAt_eq hk hi]
      simp [hj']
    obtain ⟨A3, h3⟩ := choose_fn key2
    exact ⟨((b2, o2, cap2), A3), ⟨hF, hc0⟩, fun i hi => (h3 i hi).1, fun i hi => (h3 i hi).2⟩
  obtain ⟨A, hA⟩ := choose_fn key
  exact ⟨fun k => (A k).1, fun k => (A k).2, fun k hk => (hA k hk).1, fun k hk => (hA k hk).2.1, fun k hk => (hA k hk).2.2⟩

/-- A line from f that fits, as lines yields it. -/
abbrev LineOf (X : List (List (List Int))) (width : Int) (f : Place) := { x : Place × Int // x ∈ linesX X width f }
def encL {X : List (List (List Int))} {width : Int} {f : Place} (x : LineOf X width f) : Array Value := #[.agg #[.int .i64 x.1.1.1, .int .i64 x.1.1.2], .int .i64 x.1.2]

theorem map_val_inj {α : Type} {p : α → Prop} : ∀ (a c : List { x // p x }), a.map (·.1) = c.map (·.1) → a = c
  | [], [], _ => rfl
  | [], _ :: _, h => by simp at h
  | _ :: _, [], h => by simp at h
  | x :: a, y :: c, h => by
    simp only [List.map_cons, List.cons.injEq] at h
    rw [Subtype.ext h.1, map_val_inj a c h.2]
theorem all_of_map {X : List (List (List Int))} {width : Int} {f : Place} {pre : List (LineOf X width f)} (h : pre.map (·.1) = linesX X width f) : pre = (linesX X width f).attach := by
  apply map_val_inj
  rw [h, List.attach_map_subtype_val]

def curOf (f : Place) (q : Nat) : Place := (q, firstOf f q)
def plAt (X : List (List (List Int))) (f : Place) (q k : Nat) : Place := if k < (rowAt X q (firstOf f q)).length then (q, firstOf f q + k) else (q + 1, 0)
/-- What lines' function has summed up when it comes to word q. -/
def sumA (X : List (List (List Int))) (f : Place) (q : Nat) : Int := if q = f.1 then 0 else sumTo X f q - 1
end Go.Proofs.Ytehelanfgepcmaa
set_option linter.unusedSimpArgs false
set_option linter.unusedVariables false
set_option linter.unusedSectionVars false
namespace Go.Proofs.Ytehelanfgepcmaa
open Go.RowKit Dac
attribute [local go_sem] Oper.semAt_some

theorem rest_split {X : List (List (List Int))} {width : Int} {f cur : Place} (hV : VW X) (h : Pl X cur) {pre : List (LineOf X width f)} (hL : pre.map (·.1) ++ restL X width f cur = linesX X width f) :
    (width < sizeL X f (next X cur) → pre.map (·.1) ++ restL X width f (next X cur) = linesX X width f) ∧
    (¬ width < sizeL X f (next X cur) → ∃ hm : (next X cur, sizeL X f (next X cur)) ∈ linesX X width f, (pre ++ [(⟨_, hm⟩ : LineOf X width f)]).map (·.1) ++ restL X width f (next X cur) = linesX X width f ∧ pre.length < (linesX X width f).length) := by
  rw [rest_step hV h] at hL
  constructor
  · intro hw
    rw [if_pos hw, List.nil_append] at hL
    exact hL
  · intro hw
    rw [if_neg hw] at hL
    have hm : (next X cur, sizeL X f (next X cur)) ∈ linesX X width f := by rw [← hL]; simp
    refine ⟨hm, ?_, ?_⟩
    · rw [List.map_append, List.append_assoc]; simpa using hL
    · have := congrArg List.length hL
      simp at this
      omega

set_option maxRecDepth 100000 in
set_option maxHeartbeats 8000000 in
theorem lines_stopsG (F : Fence) (n : Nat) (h54 : F.fn 54) (hro : F.round = none) (hn : 1 ≤ n) (Kp : World → World → Prop) (Fp : Nat → Prop) (X : List (List (List Int))) (width : Int) (f : Place) (BL oL BW oW BF oF b o cap : Nat) (A2 : Nat → Nat × Nat × Nat) (A3 : Nat → Nat → Nat × Nat × Nat) (w : World)
    (hV : VW X) (hwd : 1 ≤ width ∧ width ≤ 512) (hf : Pl X f) (hKp : ∀ A C, Kp A C → ∀ (a : Addr) (u : Value), Fp a.block → A.cell? a = some u → C.cell? a = some u) (hc : CapG Fp w BL oL BW oW BF oF b o cap width f X A2 A3) :
    SeqStopsK F n Try.prog 54 #[.pointer (some ⟨BF, oF, none⟩), .pointer (some ⟨BL, oL, none⟩), .pointer (some ⟨BW, oW, none⟩)] (encL (X := X) (width := width) (f := f)) Kp
      (fun xs => xs = (linesX X width f).attach) (fun pre => pre.map (·.1) <+: linesX X width f) (linesX X width f).length w := by
  intro l J Jx W hW hJ hJx hY h0
  have hcW := hc.ext hW
  obtain ⟨p, i⟩ := f
  have h512 := hV.1
  have HC := hid hcW; have HV := hid hV; have HF := hid hf; have HKp := hid hKp; have HY := hid hY; have HJ := hid hJ; have H512 := hid h512
  clear hcW hc hV hf hKp hY hJ hW hJx h512
  have k0 := HC.out.l
  have k1 := HC.out.w
  have k2 := HC.out.f0
  have k3 := HC.out.f1
  have l2 : X.length ≤ 9223372036854775807 := by have := H512.out; omega
  refine callsIn_of_wp Try.func54 rfl h54 ?_ hro
  simp only [Try.ntmps54, List.size_toArray, List.length_cons, List.length_nil, Nat.reduceAdd, Nat.reduceSub, Array.replicate_succ, Array.replicate_zero, List.push_toArray, List.append_toArray, List.nil_append, List.cons_append]
  gi_wp2
  clear k0 k1 k2 k3
  gi_loopw [5, 6] (fun s q wr => ∃ (k : Nat) (pre : List (LineOf X width (p, i))), p ≤ k ∧ k ≤ X.length ∧ q = .int .i64 k ∧ s = .int .i64 (sumA X (p, i) k) ∧ pre.map (·.1) ++ restL X width (p, i) (curOf (p, i) k) = linesX X width (p, i) ∧ J pre wr ∧ CapG Fp wr BL oL BW oW BF oF b o cap width (p, i) X A2 A3) (fun _ q _ => X.length - (intOf q).toNat)
  case atStart =>
    refine ⟨p, [], Nat.le_refl _, Nat.le_of_lt HF.out.1, rfl, by simp [sumA], ?_, h0, HC.out⟩
    simp [curOf, firstOf, linesX]
  case round =>
    obtain ⟨k, pre, hk1, hk2, rfl, rfl, hL, hJp, hcr⟩ := hrel
    have HL := hid hL; have HJp := hid hJp; have HCr := hid hcr
    clear hL hJp hcr
    have k0 := HCr.out.l
    by_cases hlt : k < X.length
    · have h16 := (HV.out.2 k hlt).2.1
      have h1 := (HV.out.2 k hlt).1
      have hg : X.getD k [] = X[k] := by simp [hlt]
      have hfi : firstOf (p, i) k < X[k].length := by
        unfold firstOf
        split
        · rename_i e; dsimp only at e; subst e; exact HF.out.2
        · omega
      have hrl : (rowAt X k (firstOf (p, i) k)).length = X[k].length - firstOf (p, i) k := by rw [rowAt_eq hlt hfi]; exact ((HV.out.2 k hlt).2.2 _ hfi).1
      have hL1 : pre.map (·.1) ++ restL X width (p, i) (plAt X (p, i) k 0) = linesX X width (p, i) := by
        have := HL.out
        rw [plAt, if_pos (by rw [hrl]; omega)]
        exact this
      have k1 := HCr.out.w
      have k2 := HCr.out.f0
      have k3 := HCr.out.f1
      obtain ⟨-, k4⟩ := HCr.out.c1 k hlt
      obtain ⟨-, k5⟩ := HCr.out.c2 k hlt _ (by rw [hg]; exact hfi)
      rw [hg] at k4 k5
      have hel := fun j => HV.out.elem (j := j) hlt hfi
      have hSb : 0 ≤ sumTo X (p, i) k ∧ sumTo X (p, i) k ≤ 3000000 := by
        unfold sumTo
        split
        · omega
        · rename_i hne
          dsimp only at hne ⊢
          have h0 := HV.out.elem (j := (rowAt X p i).length - 1) HF.out.1 HF.out.2
          have hs := HV.out.sum (q := p + 1) (s := lastW (rowAt X p i)) h0 (k - p - 1) (by omega)
          have := H512.out
          omega
      have HEL := hid hel; have HRL := hid hrl; have HL1 := hid hL1; have HG := hid hg
      have hSin := fun m => size_in (X := X) (f := (p, i)) (q := k) (k := m) hk1
      have hSout := size_out (X := X) (f := (p, i)) (q := k) hk1
      have hSnx := sumTo_next (X := X) (f := (p, i)) (q := k) hk1
      have hsA : sumA X (p, i) k = if k = p then 0 else sumTo X (p, i) k - 1 := rfl
      have hsT : k = p → sumTo X (p, i) k = 0 := fun e => by simp [sumTo, e]
      have hfi0 : firstOf (p, i) k = if k = p then i else 0 := rfl
      have HSin := hid hSin; have HSout := hid hSout; have HSnx := hid hSnx; have HsA := hid hsA; have HsT := hid hsT; have HFI := hid hfi0
      clear hel hrl hL1 hg hSin hSout hSnx hsA hsT hfi0 HL
      obtain ⟨s1, s2⟩ := hSb
      by_cases hkp : k = p
      · have hs0 : sumA X (p, i) k = sumTo X (p, i) k := by rw [HsA.out, if_pos hkp, HsT.out hkp]
        have hf0 : (i : Int) = (firstOf (p, i) k : Int) := by rw [HFI.out, if_pos hkp]
        have hq : ((k : Int) == (p : Int)) = true := by simp; omega
        rw [hs0]
        rw [hf0] at k3
        have HKP := hid hkp
        clear hkp hs0 hf0
        generalize hS0 : sumTo X (p, i) k = S0 at s1 s2 ⊢
        gi_wp2
        subst hS0
        gi_loopw [39] (fun t wr2 => ∃ (m : Nat) (pre : List (LineOf X width (p, i))), m ≤ X[k].length - firstOf (p, i) k ∧ t = .int .i64 m ∧ pre.map (·.1) ++ restL X width (p, i) (plAt X (p, i) k m) = linesX X width (p, i) ∧ J pre wr2 ∧ CapG Fp wr2 BL oL BW oW BF oF b o cap width (p, i) X A2 A3) (fun t _ => X[k].length - firstOf (p, i) k - (intOf t).toNat)
        case atStart => exact ⟨0, pre, by omega, rfl, HL1.out, HJp.out, HCr.out⟩
        case round =>
          obtain ⟨m, pre2, hm, rfl, hL2, hJ2, hc2⟩ := hrel
          have HL2 := hid hL2; have HJ2 := hid hJ2; have HC2 := hid hc2
          clear hL2 hJ2 hc2 HL1 HJp HCr k0 k1 k2 k3 k4 k5
          have k1 := HC2.out.w
          have k2 := HC2.out.l
          by_cases hmlt : m < X[k].length - firstOf (p, i) k
          · obtain ⟨-, k6⟩ := HC2.out.c3 k hlt (firstOf (p, i) k) (by rw [HG.out]; exact hfi) m (by rw [HG.out]; exact hmlt)
            have hx := HEL.out m
            have hcur : plAt X (p, i) k m = (k, firstOf (p, i) k + m) := by rw [plAt, if_pos (by rw [HRL.out]; exact hmlt)]
            have hpl : Pl X (k, firstOf (p, i) k + m) := ⟨hlt, by show _ < X[k].length; omega⟩
            have hL3 := HL2.out
            rw [hcur] at hL3
            obtain ⟨hno, hyes⟩ := rest_split HV.out hpl hL3
            by_cases hlast : m + 1 = X[k].length - firstOf (p, i) k
            · have hnx : next X (k, firstOf (p, i) k + m) = (k + 1, 0) := next_out hlt (by omega)
              have hpa : plAt X (p, i) k (m + 1) = (k + 1, 0) := by rw [plAt, if_neg (by rw [HRL.out]; omega)]
              have hlw : lastW (rowAt X k (firstOf (p, i) k)) = (rowAt X k (firstOf (p, i) k)).getD m 0 := by rw [lastW, HRL.out]; congr 1; omega
              rw [hnx] at hno hyes
              have hsz := HSout.out
              rw [hlw] at hsz
              generalize sizeL X (p, i) (k + 1, 0) = sz at hno hyes hsz
              obtain rfl := hsz
              have HNO := hid hno; have HYES := hid hyes; have HPA := hid hpa
              clear hno hyes hpa hnx hlw hpl hcur hL3
              generalize (rowAt X k (firstOf (p, i) k)).getD m 0 = x at *
              generalize sumTo X (p, i) k = S at *
              have hq1 : ((m : Int) == ((X[k].length - firstOf (p, i) k : Nat) : Int) - 1) = true := by simp; omega
              have k8 := (Ext.alloc wr (.cells #[.int .i64 ((k : Int) + 1), .int .i64 0] 64)).cell k1
              by_cases hw : width < S + x
              · gi_wp2
                refine ⟨(fun _ h => by cases h), ?_⟩
                gi_wp2
                go_roundw
                case rel => exact ⟨m + 1, pre2, by omega, by go_num, by rw [HPA.out]; exact HNO.out hw, HJ.out _ _ _ _ HJ2.out (World.grownBy_alloc _ _ none) (fun r e => by cases e), HC2.out.ext (Ext.alloc _ _)⟩
                case measure => simp [intOf]; omega
              · obtain ⟨hmem, hL4, hlen⟩ := HYES.out hw
                obtain ⟨fn, tmps, assign, body, hy, hR⟩ := HY.out pre2 ⟨_, hmem⟩ (wr.alloc (.cells #[.int .i64 ((k : Int) + 1), .int .i64 0] 64)) (HJ.out _ _ _ _ HJ2.out (World.grownBy_alloc _ _ none) (fun r e => by cases e)) hlen
                have hy2 : (Instr.yield l #[.agg #[.int .i64 ((k : Int) + 1), .int .i64 0], .int .i64 (S + x)]).run Try.prog (wr.alloc (.cells #[.int .i64 ((k : Int) + 1), .int .i64 0] 64)) = .ok (.round l fn tmps assign body) (wr.alloc (.cells #[.int .i64 ((k : Int) + 1), .int .i64 0] 64)) := hy
                have HR := hid hR; have HL4 := hid hL4
                clear hy hR hL4 hlen
                gi_wp2
                refine HR.out.mono ?_
                rintro e W3 (⟨rfl, hJ3, hk3⟩ | ⟨rfl, hJx3⟩)
                · have HJ3 := hid hJ3; have HK3 := hid (HKp.out _ _ hk3)
                  clear hJ3 hk3 hy2
                  gi_wp2
                  go_roundw
                  case rel => exact ⟨m + 1, _, by omega, by go_num, by rw [HPA.out]; exact HL4.out, HJ3.out, (HC2.out.ext (Ext.alloc _ _)).move HK3.out⟩
                  case measure => simp [intOf]; omega
                · have HJ3 := hid hJx3
                  clear hJx3 hy2
                  gi_wp2
                  (first | go_end0 | refine bodyPost_ret (results_none rfl _ _ _) rfl ?_)
                  exact ⟨⟨_, rfl⟩, .inr ⟨_, ⟨_, HL4.out⟩, HJ3.out⟩⟩
            · have hnx : next X (k, firstOf (p, i) k + m) = (k, firstOf (p, i) k + m + 1) := next_in hlt (by omega)
              have hpa : plAt X (p, i) k (m + 1) = (k, firstOf (p, i) k + m + 1) := by rw [plAt, if_pos (by rw [HRL.out]; omega)]; rfl
              rw [hnx] at hno hyes
              have hsz := HSin.out m
              generalize sizeL X (p, i) (k, firstOf (p, i) k + m + 1) = sz at hno hyes hsz
              obtain rfl := hsz
              have HNO := hid hno; have HYES := hid hyes; have HPA := hid hpa
              clear hno hyes hpa hnx hpl hcur hL3
              generalize (rowAt X k (firstOf (p, i) k)).getD m 0 = x at *
              generalize sumTo X (p, i) k = S at *
              have hq1 : ((m : Int) == ((X[k].length - firstOf (p, i) k : Nat) : Int) - 1) = false := by simp; omega
              have k8 := (Ext.alloc wr (.cells #[.int .i64 (k : Int), .int .i64 ((firstOf (p, i) k : Int) + m + 1)] 64)).cell k1
              by_cases hw : width < S + x + 1
              · gi_wp2
                refine ⟨(fun _ h => by cases h), ?_⟩
                gi_wp2
                go_roundw
                case rel => exact ⟨m + 1, pre2, by omega, by go_num, by rw [HPA.out]; exact HNO.out hw, HJ.out _ _ _ _ HJ2.out (World.grownBy_alloc _ _ none) (fun r e => by cases e), HC2.out.ext (Ext.alloc _ _)⟩
                case measure => simp [intOf]; omega
              · obtain ⟨hmem, hL4, hlen⟩ := HYES.out hw
                obtain ⟨fn, tmps, assign, body, hy, hR⟩ := HY.out pre2 ⟨_, hmem⟩ (wr.alloc (.cells #[.int .i64 (k : Int), .int .i64 ((firstOf (p, i) k : Int) + m + 1)] 64)) (HJ.out _ _ _ _ HJ2.out (World.grownBy_alloc _ _ none) (fun r e => by cases e)) hlen
                have hy2 : (Instr.yield l #[.agg #[.int .i64 (k : Int), .int .i64 ((firstOf (p, i) k : Int) + m + 1)], .int .i64 (S + x + 1)]).run Try.prog (wr.alloc (.cells #[.int .i64 (k : Int), .int .i64 ((firstOf (p, i) k : Int) + m + 1)] 64)) = .ok (.round l fn tmps assign body) (wr.alloc (.cells #[.int .i64 (k : Int), .int .i64 ((firstOf (p, i) k : Int) + m + 1)] 64)) := hy
                have HR := hid hR; have HL4 := hid hL4
                clear hy hR hL4 hlen
                gi_wp2
                refine HR.out.mono ?_
                rintro e W3 (⟨rfl, hJ3, hk3⟩ | ⟨rfl, hJx3⟩)
                · have HJ3 := hid hJ3; have HK3 := hid (HKp.out _ _ hk3)
                  clear hJ3 hk3 hy2
                  gi_wp2
                  go_roundw
                  case rel => exact ⟨m + 1, _, by omega, by go_num, by rw [HPA.out]; exact HL4.out, HJ3.out, (HC2.out.ext (Ext.alloc _ _)).move HK3.out⟩
                  case measure => simp [intOf]; omega
                · have HJ3 := hid hJx3
                  clear hJx3 hy2
                  gi_wp2
                  (first | go_end0 | refine bodyPost_ret (results_none rfl _ _ _) rfl ?_)
                  exact ⟨⟨_, rfl⟩, .inr ⟨_, ⟨_, HL4.out⟩, HJ3.out⟩⟩
          · have hm2 : m = X[k].length - firstOf (p, i) k := by omega
            have hL3 := HL2.out
            rw [plAt, if_neg (by rw [HRL.out]; omega)] at hL3
            obtain ⟨-, k6⟩ := HC2.out.c3 k hlt (firstOf (p, i) k) (by rw [HG.out]; exact hfi) (X[k].length - firstOf (p, i) k - 1) (by rw [HG.out]; omega)
            have hx := HEL.out (X[k].length - firstOf (p, i) k - 1)
            have hlw : lastW (rowAt X k (firstOf (p, i) k)) = (rowAt X k (firstOf (p, i) k)).getD (X[k].length - firstOf (p, i) k - 1) 0 := by rw [lastW, HRL.out]
            have hsz := HSout.out
            rw [hlw] at hsz
            have hro2 := fun h => rest_over (width := width) HV.out (f := (p, i)) (q := k + 1) (by show p < k + 1; omega) (by omega) h
            rw [hsz] at hro2
            have hnx2 := HSnx.out
            rw [hsz] at hnx2
            have HL3 := hid hL3; have HRO := hid hro2; have HNX := hid hnx2
            clear hL3 hro2 hsz hlw hnx2 hm2
            generalize (rowAt X k (firstOf (p, i) k)).getD (X[k].length - firstOf (p, i) k - 1) 0 = x at *
            generalize hS : sumTo X (p, i) k = S at *
            clear hS
            have e1 : (((X[k].length - firstOf (p, i) k : Nat) : Int) - 1).toNat = X[k].length - firstOf (p, i) k - 1 := by omega
            have e2 : (0 : Int) ≤ ((X[k].length - firstOf (p, i) k : Nat) : Int) - 1 := by omega
            by_cases hw : width < S + x
            · gi_wp2
              (first | go_end0 | refine bodyPost_ret (results_none rfl _ _ _) rfl ?_)
              have hL5 := HL3.out
              rw [HRO.out hw, List.append_nil] at hL5
              exact ⟨⟨_, rfl⟩, .inl ⟨pre2, all_of_map hL5, HJ2.out⟩⟩
            · gi_wp2
              go_roundw
              case rel =>
                refine ⟨k + 1, pre2, by omega, by omega, by go_num, ?_, ?_, HJ2.out, HC2.out⟩
                · rw [sumA, if_neg (by dsimp only; omega), HNX.out]; go_num
                · have : curOf (p, i) (k + 1) = (k + 1, 0) := by simp only [curOf, firstOf]; rw [if_neg (by omega)]
                  rw [this]; exact HL3.out
              case measure => simp [intOf]; omega
      · have hs0 : sumA X (p, i) k = sumTo X (p, i) k - 1 := by rw [HsA.out, if_neg hkp]
        have hf0 : (0 : Int) = (firstOf (p, i) k : Int) := by rw [HFI.out, if_neg hkp]; rfl
        have hq : ((k : Int) == (p : Int)) = false := by simp; omega
        have hfz : firstOf (p, i) k = 0 := by omega
        rw [hs0]
        have HKP := hid hkp
        have HF0 := hid hf0
        rw [show (A2 k).2.1 + firstOf (p, i) k = (A2 k).2.1 by omega] at k5
        have HFZ := hid hfz
        clear hkp hs0 hf0 hfz
        gi_wp2
        rw (config := {occs := .pos [2]}) [HF0.out]
        gi_loopw [39] (fun t wr2 => ∃ (m : Nat) (pre : List (LineOf X width (p, i))), m ≤ X[k].length - firstOf (p, i) k ∧ t = .int .i64 m ∧ pre.map (·.1) ++ restL X width (p, i) (plAt X (p, i) k m) = linesX X width (p, i) ∧ J pre wr2 ∧ CapG Fp wr2 BL oL BW oW BF oF b o cap width (p, i) X A2 A3) (fun t _ => X[k].length - firstOf (p, i) k - (intOf t).toNat)
        case atStart => exact ⟨0, pre, by omega, rfl, HL1.out, HJp.out, HCr.out⟩
        case round =>
          obtain ⟨m, pre2, hm, rfl, hL2, hJ2, hc2⟩ := hrel
          have HL2 := hid hL2; have HJ2 := hid hJ2; have HC2 := hid hc2
          clear hL2 hJ2 hc2 HL1 HJp HCr k0 k1 k2 k3 k4 k5
          have k1 := HC2.out.w
          have k2 := HC2.out.l
          by_cases hmlt : m < X[k].length - firstOf (p, i) k
          · obtain ⟨-, k6⟩ := HC2.out.c3 k hlt (firstOf (p, i) k) (by rw [HG.out]; exact hfi) m (by rw [HG.out]; exact hmlt)
            have hx := HEL.out m
            have hcur : plAt X (p, i) k m = (k, firstOf (p, i) k + m) := by rw [plAt, if_pos (by rw [HRL.out]; exact hmlt)]
            have hpl : Pl X (k, firstOf (p, i) k + m) := ⟨hlt, by show _ < X[k].length; omega⟩
            have hL3 := HL2.out
            rw [hcur] at hL3
            obtain ⟨hno, hyes⟩ := rest_split HV.out hpl hL3
            by_cases hlast : m + 1 = X[k].length - firstOf (p, i) k
            · have hnx : next X (k, firstOf (p, i) k + m) = (k + 1, 0) := next_out hlt (by omega)
              have hpa : plAt X (p, i) k (m + 1) = (k + 1, 0) := by rw [plAt, if_neg (by rw [HRL.out]; omega)]
              have hlw : lastW (rowAt X k (firstOf (p, i) k)) = (rowAt X k (firstOf (p, i) k)).getD m 0 := by rw [lastW, HRL.out]; congr 1; omega
              rw [hnx] at hno hyes
              have hsz := HSout.out
              rw [hlw] at hsz
              generalize sizeL X (p, i) (k + 1, 0) = sz at hno hyes hsz
              obtain rfl := hsz
              have HNO := hid hno; have HYES := hid hyes; have HPA := hid hpa
              clear hno hyes hpa hnx hlw hpl hcur hL3
              generalize (rowAt X k (firstOf (p, i) k)).getD m 0 = x at *
              generalize sumTo X (p, i) k = S at *
              have hq1 : ((m : Int) == ((X[k].length - firstOf (p, i) k : Nat) : Int) - 1) = true := by simp; omega
              have k8 := (Ext.alloc wr (.cells #[.int .i64 ((k : Int) + 1), .int .i64 0] 64)).cell k1
              by_cases hw : width < S + x
              · gi_wp2
                refine ⟨(fun _ h => by cases h), ?_⟩
                gi_wp2
                go_roundw
                case rel => exact ⟨m + 1, pre2, by omega, by go_num, by rw [HPA.out]; exact HNO.out hw, HJ.out _ _ _ _ HJ2.out (World.grownBy_alloc _ _ none) (fun r e => by cases e), HC2.out.ext (Ext.alloc _ _)⟩
                case measure => simp [intOf]; omega
              · obtain ⟨hmem, hL4, hlen⟩ := HYES.out hw
                obtain ⟨fn, tmps, assign, body, hy, hR⟩ := HY.out pre2 ⟨_, hmem⟩ (wr.alloc (.cells #[.int .i64 ((k : Int) + 1), .int .i64 0] 64)) (HJ.out _ _ _ _ HJ2.out (World.grownBy_alloc _ _ none) (fun r e => by cases e)) hlen
                have hy2 : (Instr.yield l #[.agg #[.int .i64 ((k : Int) + 1), .int .i64 0], .int .i64 (S + x)]).run Try.prog (wr.alloc (.cells #[.int .i64 ((k : Int) + 1), .int .i64 0] 64)) = .ok (.round l fn tmps assign body) (wr.alloc (.cells #[.int .i64 ((k : Int) + 1), .int .i64 0] 64)) := hy
                have HR := hid hR; have HL4 := hid hL4
                clear hy hR hL4 hlen
                gi_wp2
                refine HR.out.mono ?_
                rintro e W3 (⟨rfl, hJ3, hk3⟩ | ⟨rfl, hJx3⟩)
                · have HJ3 := hid hJ3; have HK3 := hid (HKp.out _ _ hk3)
                  clear hJ3 hk3 hy2
                  gi_wp2
                  go_roundw
                  case rel => exact ⟨m + 1, _, by omega, by go_num, by rw [HPA.out]; exact HL4.out, HJ3.out, (HC2.out.ext (Ext.alloc _ _)).move HK3.out⟩
                  case measure => simp [intOf]; omega
                · have HJ3 := hid hJx3
                  clear hJx3 hy2
                  gi_wp2
                  (first | go_end0 | refine bodyPost_ret (results_none rfl _ _ _) rfl ?_)
                  exact ⟨⟨_, rfl⟩, .inr ⟨_, ⟨_, HL4.out⟩, HJ3.out⟩⟩
            · have hnx : next X (k, firstOf (p, i) k + m) = (k, firstOf (p, i) k + m + 1) := next_in hlt (by omega)
              have hpa : plAt X (p, i) k (m + 1) = (k, firstOf (p, i) k + m + 1) := by rw [plAt, if_pos (by rw [HRL.out]; omega)]; rfl
              rw [hnx] at hno hyes
              have hsz := HSin.out m
              generalize sizeL X (p, i) (k, firstOf (p, i) k + m + 1) = sz at hno hyes hsz
              obtain rfl := hsz
              have HNO := hid hno; have HYES := hid hyes; have HPA := hid hpa
              clear hno hyes hpa hnx hpl hcur hL3
              generalize (rowAt X k (firstOf (p, i) k)).getD m 0 = x at *
              generalize sumTo X (p, i) k = S at *
              have hq1 : ((m : Int) == ((X[k].length - firstOf (p, i) k : Nat) : Int) - 1) = false := by simp; omega
              have k8 := (Ext.alloc wr (.cells #[.int .i64 (k : Int), .int .i64 ((firstOf (p, i) k : Int) + m + 1)] 64)).cell k1
              by_cases hw : width < S + x + 1
              · gi_wp2
                refine ⟨(fun _ h => by cases h), ?_⟩
                gi_wp2
                go_roundw
                case rel => exact ⟨m + 1, pre2, by omega, by go_num, by rw [HPA.out]; exact HNO.out hw, HJ.out _ _ _ _ HJ2.out (World.grownBy_alloc _ _ none) (fun r e => by cases e), HC2.out.ext (Ext.alloc _ _)⟩
                case measure => simp [intOf]; omega
              · obtain ⟨hmem, hL4, hlen⟩ := HYES.out hw
                obtain ⟨fn, tmps, assign, body, hy, hR⟩ := HY.out pre2 ⟨_, hmem⟩ (wr.alloc (.cells #[.int .i64 (k : Int), .int .i64 ((firstOf (p, i) k : Int) + m + 1)] 64)) (HJ.out _ _ _ _ HJ2.out (World.grownBy_alloc _ _ none) (fun r e => by cases e)) hlen
                have hy2 : (Instr.yield l #[.agg #[.int .i64 (k : Int), .int .i64 ((firstOf (p, i) k : Int) + m + 1)], .int .i64 (S + x + 1)]).run Try.prog (wr.alloc (.cells #[.int .i64 (k : Int), .int .i64 ((firstOf (p, i) k : Int) + m + 1)] 64)) = .ok (.round l fn tmps assign body) (wr.alloc (.cells #[.int .i64 (k : Int), .int .i64 ((firstOf (p, i) k : Int) + m + 1)] 64)) := hy
                have HR := hid hR; have HL4 := hid hL4
                clear hy hR hL4 hlen
                gi_wp2
                refine HR.out.mono ?_
                rintro e W3 (⟨rfl, hJ3, hk3⟩ | ⟨rfl, hJx3⟩)
                · have HJ3 := hid hJ3; have HK3 := hid (HKp.out _ _ hk3)
                  clear hJ3 hk3 hy2
                  gi_wp2
                  go_roundw
                  case rel => exact ⟨m + 1, _, by omega, by go_num, by rw [HPA.out]; exact HL4.out, HJ3.out, (HC2.out.ext (Ext.alloc _ _)).move HK3.out⟩
                  case measure => simp [intOf]; omega
                · have HJ3 := hid hJx3
                  clear hJx3 hy2
                  gi_wp2
                  (first | go_end0 | refine bodyPost_ret (results_none rfl _ _ _) rfl ?_)
                  exact ⟨⟨_, rfl⟩, .inr ⟨_, ⟨_, HL4.out⟩, HJ3.out⟩⟩
          · have hm2 : m = X[k].length - firstOf (p, i) k := by omega
            have hL3 := HL2.out
            rw [plAt, if_neg (by rw [HRL.out]; omega)] at hL3
            obtain ⟨-, k6⟩ := HC2.out.c3 k hlt (firstOf (p, i) k) (by rw [HG.out]; exact hfi) (X[k].length - firstOf (p, i) k - 1) (by rw [HG.out]; omega)
            have hx := HEL.out (X[k].length - firstOf (p, i) k - 1)
            have hlw : lastW (rowAt X k (firstOf (p, i) k)) = (rowAt X k (firstOf (p, i) k)).getD (X[k].length - firstOf (p, i) k - 1) 0 := by rw [lastW, HRL.out]
            have hsz := HSout.out
            rw [hlw] at hsz
            have hro2 := fun h => rest_over (width := width) HV.out (f := (p, i)) (q := k + 1) (by show p < k + 1; omega) (by omega) h
            rw [hsz] at hro2
            have hnx2 := HSnx.out
            rw [hsz] at hnx2
            have HL3 := hid hL3; have HRO := hid hro2; have HNX := hid hnx2
            clear hL3 hro2 hsz hlw hnx2 hm2
            generalize (rowAt X k (firstOf (p, i) k)).getD (X[k].length - firstOf (p, i) k - 1) 0 = x at *
            generalize hS : sumTo X (p, i) k = S at *
            clear hS
            have e1 : (((X[k].length - firstOf (p, i) k : Nat) : Int) - 1).toNat = X[k].length - firstOf (p, i) k - 1 := by omega
            have e2 : (0 : Int) ≤ ((X[k].length - firstOf (p, i) k : Nat) : Int) - 1 := by omega
            by_cases hw : width < S + x
            · gi_wp2
              (first | go_end0 | refine bodyPost_ret (results_none rfl _ _ _) rfl ?_)
              have hL5 := HL3.out
              rw [HRO.out hw, List.append_nil] at hL5
              exact ⟨⟨_, rfl⟩, .inl ⟨pre2, all_of_map hL5, HJ2.out⟩⟩
            · gi_wp2
              go_roundw
              case rel =>
                refine ⟨k + 1, pre2, by omega, by omega, by go_num, ?_, ?_, HJ2.out, HC2.out⟩
                · rw [sumA, if_neg (by dsimp only; omega), HNX.out]; go_num
                · have : curOf (p, i) (k + 1) = (k + 1, 0) := by simp only [curOf, firstOf]; rw [if_neg (by omega)]
                  rw [this]; exact HL3.out
              case measure => simp [intOf]; omega
    · have hke : k = X.length := by omega
      have hL3 := HL.out
      have : curOf (p, i) k = endP X := by
        simp only [curOf, firstOf]
        rw [if_neg (by have := HF.out.1; dsimp only at this; omega), hke]
      rw [this, rest_end, List.append_nil] at hL3
      have HL3 := hid hL3; clear hL3 this hke
      gi_wp2
      (first | go_end0 | refine bodyPost_ret (results_none rfl _ _ _) rfl ?_)
      exact ⟨⟨_, rfl⟩, .inl ⟨pre, all_of_map HL3.out, HJp.out⟩⟩
theorem lines_stops (F : Fence) (n : Nat) (h54 : F.fn 54) (hro : F.round = none) (hn : 1 ≤ n) (Kp : World → World → Prop) (Fp : Nat → Prop) (X : List (List (List Int))) (width : Int) (f : Place) (B b o cap : Nat) (A2 : Nat → Nat × Nat × Nat) (A3 : Nat → Nat → Nat × Nat × Nat) (w : World)
    (hV : VW X) (hwd : 1 ≤ width ∧ width ≤ 512) (hf : Pl X f) (hKp : ∀ A C, Kp A C → ∀ (a : Addr) (u : Value), Fp a.block → A.cell? a = some u → C.cell? a = some u) (hc : Cap Fp w B b o cap width f X A2 A3) :
    SeqStopsK F n Try.prog 54 #[.pointer (some ⟨B + 2, 0, none⟩), .pointer (some ⟨B, 0, none⟩), .pointer (some ⟨B + 1, 0, none⟩)] (encL (X := X) (width := width) (f := f)) Kp
      (fun xs => xs = (linesX X width f).attach) (fun pre => pre.map (·.1) <+: linesX X width f) (linesX X width f).length w :=
  lines_stopsG F n h54 hro hn Kp Fp X width f B 0 (B + 1) 0 (B + 2) 0 b o cap A2 A3 w hV hwd hf hKp hc.g
/-- From the end nothing comes. -/
theorem lines_none (F : Fence) (n : Nat) (h54 : F.fn 54) (hro : F.round = none) (hn : 1 ≤ n) (Kp : World → World → Prop) (N : Nat) (encs : Fin N → Array Value) (S Sp : List (Fin N) → Prop) (hS : S []) (X : List (List (List Int))) (ad : Option Addr) (BL oL BF oF cap : Nat) (vW : Value) (w : World)
    (l2 : X.length ≤ 9223372036854775807) (k0 : w.cell? ⟨BL, oL, none⟩ = some (.slice ad X.length cap)) (k2 : w.cell? ⟨BF, oF, none⟩ = some (.int .i64 X.length)) (k3 : w.cell? ⟨BF, oF + 1, none⟩ = some (.int .i64 0)) :
    SeqStopsK F n Try.prog 54 #[.pointer (some ⟨BF, oF, none⟩), .pointer (some ⟨BL, oL, none⟩), vW] encs Kp S Sp N w := by
  intro l J Jx W hW hJ hJx hY h0
  replace k0 := Dac.Ext.cell hW k0
  replace k2 := Dac.Ext.cell hW k2
  replace k3 := Dac.Ext.cell hW k3
  have H0 := hid h0; have HY := hid hY; have HJ := hid hJ; have HS := hid hS
  clear hY hJ hW hJx h0 hS
  refine callsIn_of_wp Try.func54 rfl h54 ?_ hro
  simp only [Try.ntmps54, List.size_toArray, List.length_cons, List.length_nil, Nat.reduceAdd, Nat.reduceSub, Array.replicate_succ, Array.replicate_zero, List.push_toArray, List.append_toArray, List.nil_append, List.cons_append]
  gi_wp2
  gi_loopw [5, 6] (fun s q wr => q = .int .i64 X.length ∧ s = .int .i64 0 ∧ wr = W) (fun _ q _ => X.length - (intOf q).toNat)
  case atStart => exact ⟨rfl, rfl, rfl⟩
  case round =>
    obtain ⟨rfl, rfl, rfl⟩ := hrel
    gi_wp2
    (first | go_end0 | refine bodyPost_ret (results_none rfl _ _ _) rfl ?_)
    exact ⟨⟨_, rfl⟩, .inl ⟨[], HS.out, H0.out⟩⟩
end Go.Proofs.Ytehelanfgepcmaa
set_option linter.unusedSimpArgs false
set_option linter.unusedVariables false
set_option linter.unusedSectionVars false
namespace Go.Proofs.Ytehelanfgepcmaa
open Go.RowKit Dac

def bestStep (X : List (List (List Int))) (T : Place → Option Int) (width : Int) (f : Place) (acc : Option Int) (x : Place × Int) : Option Int :=
  match T x.1 with
  | none => acc
  | some c => match acc with
    | none => some (c + priceL X width f x.1)
    | some b => some (if c + priceL X width f x.1 < b then c + priceL X width f x.1 else b)
def bestL (X : List (List (List Int))) (T : Place → Option Int) (width : Int) (f : Place) (l : List (Place × Int)) : Option Int := l.foldl (bestStep X T width f) none
theorem bestL_snoc {X : List (List (List Int))} {T : Place → Option Int} {width : Int} {f : Place} (l : List (Place × Int)) (x : Place × Int) :
    bestL X T width f (l ++ [x]) = bestStep X T width f (bestL X T width f l) x := by simp [bestL]
theorem best_go {X : List (List (List Int))} {T : Place → Option Int} {width : Int} {f : Place} : ∀ (l : List Place) (acc : Option (Int × Place)),
    (l.filterMap fun t => if width < sizeL X f t then none else some (t, sizeL X f t)).foldl (bestStep X T width f) (acc.map (·.1)) =
      (l.foldl (fun acc t => pickStep acc (cand X width T f t)) acc).map (·.1)
  | [], _ => rfl
  | t :: l, acc => by
    rw [List.filterMap_cons, List.foldl_cons]
    by_cases hw : width < sizeL X f t
    · have h1 : cand X width T f t = none := by rw [cand, if_pos hw]
      rw [if_pos hw, h1]
      exact best_go l acc
    · rw [if_neg hw]
      simp only [List.foldl_cons]
      have h1 : cand X width T f t = (T t).map fun c => (t, c + priceL X width f t) := by rw [cand, if_neg hw]
      rw [h1, ← best_go l]
      congr 1
      cases hT : T t with
      | none => simp [bestStep, hT, pickStep]
      | some c =>
        cases acc with
        | none => simp [bestStep, hT, pickStep]
        | some a =>
          obtain ⟨b, p⟩ := a
          simp only [bestStep, hT, pickStep, Option.map_some]
          by_cases h2 : c + priceL X width f t ≤ b
          · rw [if_pos h2]
            simp only [Option.map_some, Option.some.injEq]
            split <;> omega
          · rw [if_neg h2, if_neg (by omega)]; rfl
theorem bestL_pick {X : List (List (List Int))} {T : Place → Option Int} {width : Int} {f : Place} : bestL X T width f (linesX X width f) = (pick X width T f).map (·.1) :=
  best_go (lat X f) none

/-- The places whose least cost the map holds, when those from c on are done. -/
def In (X : List (List (List Int))) (c p : Place) : Prop := p = endP X ∨ (Pl X p ∧ ¬ Lt p c)
def Dict (X : List (List (List Int))) (K : List (List Int)) (c : Place) (T : Place → Option Int) : Prop := (∀ p, In X c p → T p = tOf X K p) ∧ (∀ p, ¬ In X c p → T p = none)
def upd (T : Place → Option Int) (f : Place) (b : Option Int) (p : Place) : Option Int := if p = f then b else T p
def noPl (X : List (List (List Int))) (p : Place) : Option Int := if p = endP X then some 0 else none

theorem dict_nil (X : List (List (List Int))) (K : List (List Int)) : Dict X K (X.length, 0) (noPl X) := by
  constructor
  · rintro p (rfl | ⟨⟨h1, h2⟩, h3⟩)
    · simp [noPl, tOf]
    · exact absurd (.inl h1) h3
  · intro p h
    rw [noPl, if_neg (fun e => h (.inl e))]
theorem dict_row {X : List (List (List Int))} {K : List (List Int)} {k : Nat} (hk : k < X.length) {T : Place → Option Int} (h : Dict X K (k + 1, 0) T) : Dict X K (k, X[k].length) T := by
  have key : ∀ p, In X (k, X[k].length) p ↔ In X (k + 1, 0) p := by
    intro p
    unfold In
    refine or_congr Iff.rfl (and_congr_right fun hp => ?_)
    obtain ⟨q, j⟩ := p
    obtain ⟨h1, h2⟩ := hp
    dsimp only at h1 h2
    unfold Lt
    dsimp only
    constructor
    · intro h3 h4
      rcases h4 with h4 | h4
      · by_cases e : q = k
        · subst e; exact h3 (.inr ⟨rfl, h2⟩)
        · exact h3 (.inl (by omega))
      · omega
    · intro h3 h4
      exact h3 (.inl (by omega))
  exact ⟨fun p hp => h.1 p ((key p).1 hp), fun p hp => h.2 p (fun e => hp ((key p).2 e))⟩
theorem dict_end {X : List (List (List Int))} {K : List (List Int)} {k : Nat} {T : Place → Option Int} (h : Dict X K (k, 0) T) (hk : k = 0) : Dict X K (0, 0) T := by subst hk; exact h
theorem pl_end {X : List (List (List Int))} {f : Place} (h : Pl X f) : f ≠ endP X := by
  rintro rfl
  obtain ⟨h1, _⟩ := h
  simp [endP] at h1
theorem dict_none {X : List (List (List Int))} {K : List (List Int)} {k n : Nat} {T : Place → Option Int} (hf : Pl X (k, n)) (h : Dict X K (k, n + 1) T) : T (k, n) = none := by
  refine h.2 _ ?_
  rintro (e | ⟨_, h2⟩)
  · exact pl_end hf e
  · exact h2 (.inr ⟨rfl, by show n < n + 1; omega⟩)
theorem dict_lat {X : List (List (List Int))} {K : List (List Int)} {k n : Nat} {T : Place → Option Int} (hV : VW X) (hf : Pl X (k, n)) (h : Dict X K (k, n + 1) T) : ∀ t ∈ lat X (k, n), T t = tOf X K t := by
  intro t ht
  obtain ⟨h1, h2⟩ := lat_mem hV hf t ht
  refine h.1 t ?_
  rcases h2.cases with e | e
  · exact .inl e
  · refine .inr ⟨e, ?_⟩
    rintro (h3 | ⟨h3, h4⟩)
    · rcases h1 with h1 | ⟨h1, h5⟩ <;> dsimp only at * <;> omega
    · rcases h1 with h1 | ⟨h1, h5⟩ <;> dsimp only at * <;> omega
theorem tOf_bd {X : List (List (List Int))} {width : Int} {K : List (List Int)} (hV : VW X) (hw : 1 ≤ width ∧ width ≤ 512) (hT : IsTab X width K) {t : Place} (ht : En X t) {c : Int} (h : tOf X K t = some c) : 0 ≤ c ∧ c ≤ 100000000000000000 := by
  unfold tOf at h
  split at h
  · cases h; omega
  · rename_i hne
    have hp := ht.cases.resolve_left hne
    split at h
    · cases h
    · have h1 := hT.bd hV hw _ t hp (Nat.le_refl _)
      have h2 := rem_le hV t
      simp only [Option.some.injEq] at h
      omega
theorem tOf_pick {X : List (List (List Int))} {width : Int} {K : List (List Int)} (hV : VW X) (hw : 1 ≤ width ∧ width ≤ 512) (hT : IsTab X width K) {f : Place} (hf : Pl X f) : tOf X K f = (pick X width (tOf X K) f).map (·.1) := by
  have h1 := hT.2 f hf
  rw [tOf, if_neg (pl_end hf), h1]
  cases hp : pick X width (tOf X K) f with
  | none => rfl
  | some x =>
    obtain ⟨b, a⟩ := x
    obtain ⟨h1, h2, c, h3, rfl⟩ := pick_mem hp
    obtain ⟨h4, h5⟩ := lat_mem hV hf a h1
    have h6 := priceL_bd hV hw hf h4 h5
    have h7 := tOf_bd hV hw hT h5 h3
    show (if c + priceL X width f a < 0 then none else some (c + priceL X width f a)) = some (c + priceL X width f a)
    exact if_neg (by omega)
theorem dict_step {X : List (List (List Int))} {width : Int} {K : List (List Int)} {k n : Nat} {T : Place → Option Int} (hV : VW X) (hw : 1 ≤ width ∧ width ≤ 512) (hT : IsTab X width K) (hf : Pl X (k, n)) (h : Dict X K (k, n + 1) T) :
    Dict X K (k, n) (upd T (k, n) (bestL X T width (k, n) (linesX X width (k, n)))) := by
  have hb : bestL X T width (k, n) (linesX X width (k, n)) = tOf X K (k, n) := by
    rw [bestL_pick, pick_congr (dict_lat hV hf h), tOf_pick hV hw hT hf]
  rw [hb]
  constructor
  · intro p hp
    by_cases e : p = (k, n)
    · rw [upd, if_pos e, e]
    · rw [upd, if_neg e]
      refine h.1 p (hp.imp_right fun h1 => ⟨h1.1, ?_⟩)
      intro h2
      obtain ⟨q, j⟩ := p
      rcases h2 with h2 | ⟨h2, h3⟩
      · exact h1.2 (.inl h2)
      · dsimp only at h2 h3
        subst h2
        by_cases e2 : j = n
        · exact e (by rw [e2])
        · exact h1.2 (.inr ⟨rfl, by show j < n; omega⟩)
  · intro p hp
    rw [upd, if_neg (fun e => hp (.inr ⟨by rw [e]; exact hf, by rw [e]; rintro (h1 | ⟨_, h1⟩) <;> dsimp only at h1 <;> omega⟩))]
    refine h.2 p (fun h1 => hp (h1.imp_right fun h2 => ⟨h2.1, fun h3 => h2.2 ?_⟩))
    rcases h3 with h3 | ⟨h3, h4⟩
    · exact .inl h3
    · exact .inr ⟨h3, by dsimp only at h4 ⊢; omega⟩
theorem upd_nil {T : Place → Option Int} {f : Place} (h : T f = none) : upd T f none = T := by
  funext p
  unfold upd
  split
  · rename_i e; rw [e, h]
  · rfl
theorem line_mem {X : List (List (List Int))} {width : Int} {f : Place} (hV : VW X) (hf : Pl X f) {x : Place × Int} (h : x ∈ linesX X width f) : x.1 ∈ lat X f ∧ Lt f x.1 ∧ En X x.1 ∧ x.2 = sizeL X f x.1 ∧ x.2 ≤ width := by
  unfold linesX restL at h
  rw [List.mem_filterMap] at h
  obtain ⟨t, ht, h2⟩ := h
  split at h2
  · cases h2
  · rename_i hw
    obtain rfl := Option.some.inj h2
    obtain ⟨h3, h4⟩ := lat_mem hV hf t ht
    exact ⟨ht, h3, h4, rfl, by dsimp only; omega⟩
end Go.Proofs.Ytehelanfgepcmaa
set_option linter.unusedSimpArgs false
set_option linter.unusedVariables false
set_option linter.unusedSectionVars false
/-! A drawn region that only reads, walked once, in a fence that shuts nothing out, also within a round. -/
namespace Dac
open Go

def isDefer : Op → Bool
  | .defer _ => true
  | _ => false
theorem not_defer {o : Oper} (h : isDefer o.op = false) : ∀ c, o.op ≠ .defer c := fun c e => by rw [e] at h; cases h

section
variable {P : Program} {ops : Array Oper} {md : Region.Mode} {C : World → Prop} {F : Fence} {n : Nat}

structure Open (F : Fence) : Prop where
  fn : ∀ f, F.fn f
  depth : F.depth = none
  calls : ∀ {n P f args w} {R : Ending → World → Prop}, Calls P f args w R → CallsIn F n P f args w R
theorem open_wide : Open Fence.wide := ⟨fun _ => trivial, rfl, fun h => callsIn_wide.2 h⟩
theorem Open.inRound (h : Open F) (l : Nat) : Open (F.inRound l) := ⟨h.fn, h.depth, fun hc => CallsIn.inRound l (h.calls hc)⟩

theorem opIn_of_quiet (hF : Open F) {o : Oper} (hd : isDefer o.op = false) {a : Act} {K : Act → Prop} {K' : Act → World → Prop} {Q' : Exit → Act → World → Prop} {w : World} (hw : C w) (h : ∀ a w', C w' → K a → K' a w') (hh : o.quiet P a C K) : o.wpIn F n P a w K' Q' := by
  obtain ⟨v, h1, h2⟩ := hh
  have h3 := h1 w hw
  unfold Oper.quietAt at h3
  unfold Oper.wpIn
  refine ⟨fun f _ => hF.fn f, ?_⟩
  rw [Oper.semAt_plain F _ _ (not_defer hd)]
  generalize (execOp a.eval o).run P w = r at *
  cases r with
  | ok x w' =>
    cases x <;> simp only [Oper.quietUpon] at h3 <;> simp only [Oper.uponIn]
    case value u =>
      obtain ⟨e1, e2⟩ := h3
      rw [e1, e2]
      exact h _ _ hw h2
    case skip =>
      obtain ⟨e1, e2⟩ := h3
      rw [e1, ← e2]
      exact h _ _ hw h2
    case enter f args =>
      obtain ⟨e1, hc⟩ := h3
      rw [e1]
      refine ⟨(fun e => by rw [hF.depth] at e; cases e), (hF.calls hc).mono ?_⟩
      rintro e w'' ⟨he, hw''⟩
      subst he
      exact h _ _ hw'' h2
  | halt x w' => simp only [Oper.quietUpon] at h3

theorem opIn_of_qOp (hF : Open F) (hd : ∀ (i : Nat) (o : Oper), ops[i]? = some o → isDefer o.op = false) {i : Nat} {a : Act} {K : Act → Prop} {K' : Act → World → Prop} {Q' : Exit → Act → World → Prop} {w : World} (hC : C w) (h : ∀ a w', C w' → K a → K' a w') (hh : qOp P ops C i K a) : wpOpIn F n P ops Q' i K' a w := by
  unfold qOp at hh
  unfold wpOpIn
  split
  · rename_i ho; simp only [ho] at hh; exact h _ _ hC hh
  · rename_i o ho
    simp only [ho] at hh
    split
    · rename_i hw; simp only [hw, if_true] at hh; exact opIn_of_quiet hF (hd i o ho) hC h hh
    · rename_i hw; simp only [hw] at hh; exact ⟨fun f _ => hF.fn f, h _ _ hC hh⟩

theorem anyIn_of_quiet (hF : Open F) (hd : ∀ (i : Nat) (o : Oper), ops[i]? = some o → isDefer o.op = false) {Q : Act → Prop} {Q' : Exit → Act → World → Prop} (hQ : ∀ a w, C w → Q a → Q' .normal a w) : ∀ (fuel : Nat) (listed : Array Bool) (a : Act) (w : World), C w →
    wpAnyQ P md ops C Q fuel listed a → wpAnyIn F n P md ops Q' fuel listed a w
  | 0, _, _, _, hw, h => ⟨h.1, hQ _ _ hw h.2⟩
  | fuel + 1, _, _, _, hw, h => ⟨fun h0 => hQ _ _ hw (h.1 h0), fun i hi => opIn_of_qOp hF hd hw (fun a' w' hw' => anyIn_of_quiet hF hd hQ fuel _ a' w' hw') (h.2 i hi)⟩

theorem wpIn_quiet_lit (hF : Open F) {id : Nat} {Q : Exit → Act → World → Prop} {a : Act} {w : World} {l : List Oper} (hm : P.follows .mixedOrders = true) (hB : Region.lexB .any l.toArray = true) (hd : (l.all fun o => !isDefer o.op) = true)
    (h : wpQuiet P l.toArray (fun w' => ∃ n, w' = w.drewN n) (fun a' => ∀ w', (∃ n, w' = w.drewN n) → Q .normal a' w') l a) : (Code.region id l.toArray true).wpIn F n P Q a w := by
  have hd' : ∀ (i : Nat) (o : Oper), l.toArray[i]? = some o → isDefer o.op = false := fun i o ho => by
    rw [List.getElem?_toArray] at ho
    have h1 : o ∈ l := List.mem_of_getElem? ho
    simpa using (List.all_eq_true.1 hd) o h1
  simp only [Region.lexB, Bool.and_eq_true] at hB
  refine wpIn_region_any hm (anyIn_of_quiet hF hd' (Q := fun a' => ∀ w', (∃ n, w' = w.drewN n) → Q .normal a' w') (fun _ w' hw' h => h w' hw') _ _ _ _ ⟨1, rfl⟩ ?_)
  have := wpAnyQ_lex (C := fun w' => ∃ n, w' = w.drewN n) (md := .any) hB.1 l.toArray.toList 0 (Array.replicate l.toArray.size false) a (by simp) (by simpa using hB.2) (by simpa using h)
  simpa using this
end
end Dac
namespace Go
open Dac
end Go
set_option linter.unusedSimpArgs false
set_option linter.unusedVariables false
set_option linter.unusedSectionVars false
namespace Go.Proofs.Ytehelanfgepcmaa
open Go.RowKit Dac
attribute [local go_sem] Oper.semAt_some

def mark (D : Nat) : Deferred := { target := .collected D, args := #[] }
theorem leaves_marks {F : Fence} {n : Nat} {P : Program} {fn : Func} {tmps : Array Value} {R : Ending → World → Prop} {B : Nat} (Q : World → Prop) (hQ : ∀ W D, Q W → W.heap[D]? = some (.deferred (some [])) → B ≤ D → Q (W.putObj D (.deferred none)))
    (hend : ∀ W, Q W → LeavesIn F n P fn tmps R [] .returning W) : ∀ (Ds : List Nat) (W : World), Ds.Nodup → (∀ D ∈ Ds, B ≤ D ∧ W.heap[D]? = some (.deferred (some []))) → Q W → LeavesInM F n P fn tmps R (Ds.map mark) .returning W
  | [], W, _, _, hq => hend W hq
  | D :: Ds, W, hn, hD, hq => by
    obtain ⟨h1, h2⟩ := hD D (by simp)
    obtain ⟨h3, h4⟩ := List.nodup_cons.1 hn
    refine ⟨by simp, .inl ⟨D, _, rfl, run_takeDeferred h2, leaves_marks Q hQ hend Ds _ h4 (fun D' hD' => ⟨(hD D' (by simp [hD'])).1, ?_⟩) (hQ W D hq h2 h1)⟩⟩
    rw [World.putObj_heap_other (fun e => h3 (by rw [← e]; exact hD'))]
    exact (hD D' (by simp [hD'])).2

/-- The map whose block is r holds T. -/
def Holds (W : World) (r : Nat) (T : Place → Option Int) : Prop := ∃ ks, MapAt pairV W r ks ∧ (∀ p : Place, mget ks ((p.1 : Int), (p.2 : Int)) = (T p).map (Value.int .i64)) ∧ ∀ p : Int × Int, (p.1 < 0 ∨ p.2 < 0) → mget ks p = none
theorem Holds.same {W W' : World} {r : Nat} {T : Place → Option Int} (h : Holds W r T) (hs : W'.heap[r]? = W.heap[r]?) : Holds W' r T := by
  obtain ⟨ks, ⟨es, c, h1, h2⟩, h3⟩ := h
  exact ⟨ks, ⟨es, c, hs.trans h1, h2⟩, h3⟩
theorem zero3 (w : World) : (zeroValue 3).run Try.prog w = .ok (.int .i64 0) w := by kernel_rfl
theorem Holds.look {W : World} {r : Nat} {T : Place → Option Int} (h : Holds W r T) (p : Place) : (Instr.lookup 71 (.map (some r)) (.agg #[.int .i64 p.1, .int .i64 p.2]) true).run Try.prog W = .ok (.tuple #[.int .i64 ((T p).getD 0), .bool (T p).isSome]) W := by
  obtain ⟨ks, h1, h2, _⟩ := h
  have := run_lookup_ok (pairKeys isPair) Try.underlying71 zero3 h1 ((p.1 : Int), (p.2 : Int))
  rw [h2 p] at this
  rw [show (Value.agg #[.int .i64 p.1, .int .i64 p.2]) = pairV ((p.1 : Int), (p.2 : Int)) from rfl, this]
  cases T p <;> rfl
theorem Holds.look1 {W : World} {r : Nat} {T : Place → Option Int} (h : Holds W r T) (p : Place) : (Instr.lookup 71 (.map (some r)) (.agg #[.int .i64 p.1, .int .i64 p.2]) false).run Try.prog W = .ok (.int .i64 ((T p).getD 0)) W := by
  obtain ⟨ks, h1, h2, _⟩ := h
  have := run_lookup_plain (pairKeys isPair) Try.underlying71 zero3 h1 ((p.1 : Int), (p.2 : Int))
  rw [h2 p] at this
  rw [show (Value.agg #[.int .i64 p.1, .int .i64 p.2]) = pairV ((p.1 : Int), (p.2 : Int)) from rfl, this]
  cases T p <;> rfl
theorem Holds.put {W : World} {r : Nat} {T : Place → Option Int} (h : Holds W r T) (p : Place) (x : Int) : ∃ W', (Instr.mapUpdate 71 (.map (some r)) (.agg #[.int .i64 p.1, .int .i64 p.2]) (.int .i64 x)).run Try.prog W = .ok () W' ∧ Holds W' r (upd T p (some x)) ∧ W.grownBy W' (some r) := by
  obtain ⟨ks, h1, h2, hneg⟩ := h
  obtain ⟨W', h3, h4, h5⟩ := run_mapUpdate (pairKeys isPair) Try.underlying71 h1 ((p.1 : Int), (p.2 : Int)) (.int .i64 x)
  refine ⟨W', h3, ⟨_, h4, fun q => ?_, fun q hq => ?_⟩, h5⟩
  rotate_left
  · rw [mget_mset, if_neg (fun e => by subst e; dsimp only at hq; omega)]; exact hneg q hq
  rw [mget_mset, h2 q, upd]
  obtain ⟨a, b⟩ := p
  obtain ⟨c, d⟩ := q
  by_cases e : (c, d) = (a, b)
  · obtain ⟨rfl, rfl⟩ := Prod.mk.inj e
    rw [if_pos rfl, if_pos rfl]; rfl
  · rw [if_neg e, if_neg (fun e' => e (by simp only [Prod.mk.injEq] at e' ⊢; omega))]
theorem Holds.nil (W : World) : Holds (W.alloc (.map #[] 0)) W.heap.size (fun _ => none) := ⟨[], ⟨#[], 0, World.alloc_heap_new W _, rfl⟩, fun _ => rfl, fun _ _ => rfl⟩
theorem Holds.obj {W : World} {r : Nat} {T : Place → Option Int} (h : Holds W r T) : ∃ o, W.heap[r]? = some o ∧ o.isCells = false := by
  obtain ⟨ks, ⟨es, c, h1, h2⟩, h3⟩ := h
  exact ⟨_, h1, rfl⟩
theorem Holds.lt {W : World} {r : Nat} {T : Place → Option Int} (h : Holds W r T) : r < W.heap.size := by
  obtain ⟨o, h1, _⟩ := h.obj
  exact (Array.getElem?_eq_some_iff.1 h1).1

/-- What costs holds from loop to loop: entered at world w. -/
structure Cst (w W : World) (n0 bm : Nat) (width : Int) (X : List (List (List Int))) (T : Place → Option Int) (Ds : List Nat) : Prop where
  ext : Ext w W
  sz : w.heap.size = n0
  hb : n0 + 2 < bm
  cw : W.cell? ⟨n0, 0, none⟩ = some (.int .i64 width)
  ce0 : W.cell? ⟨n0 + 1, 0, none⟩ = some (.int .i64 X.length)
  ce1 : W.cell? ⟨n0 + 1, 1, none⟩ = some (.int .i64 0)
  cm : W.cell? ⟨bm, 0, none⟩ = some (.map (some (n0 + 2)))
  map : Holds W (n0 + 2) T
  nodup : Ds.Nodup
  marks : ∀ D ∈ Ds, bm + 1 ≤ D ∧ W.heap[D]? = some (.deferred (some []))
theorem heap_grown {W W' : World} {row : Option Nat} {k : Nat} {o : Obj} (hg : W.grownBy W' row) (hk : W.heap[k]? = some o) (hr : row ≠ some k) : W'.heap[k]? = some o :=
  (hg.block k (Array.getElem?_eq_some_iff.1 hk).1 (fun e => hr e.symm)).trans hk
theorem Cst.own {w W W' : World} {n0 bm : Nat} {width : Int} {X : List (List (List Int))} {T : Place → Option Int} {Ds : List Nat} (h : Cst w W n0 bm width X T Ds) {B : Nat} {row : Option Nat} (hg : W.grownBy W' row) (hr : ∀ r, row = some r → B ≤ r ∧ ∃ o : Obj, W.heap[r]? = some o ∧ o.isCells = false)
    (hB : bm + 1 ≤ B) (hD : ∀ D ∈ Ds, D < B) : Cst w W' n0 bm width X T Ds where
  ext := by
    have h1 := ownFrom_below (β := Unit) (Nat.le_refl w.heap.size) (B := B) (w₀ := w) (by have := h.sz; have := h.hb; omega)
    exact h1 () W W' row h.ext hg hr
  sz := h.sz
  hb := h.hb
  cw := cell_kept h.cw hg (fun r e => (hr r e).2)
  ce0 := cell_kept h.ce0 hg (fun r e => (hr r e).2)
  ce1 := cell_kept h.ce1 hg (fun r e => (hr r e).2)
  cm := cell_kept h.cm hg (fun r e => (hr r e).2)
  map := h.map.same (hg.block _ h.map.lt (fun e => by have := (hr _ e.symm).1; have := h.hb; omega))
  nodup := h.nodup
  marks := fun D hd => ⟨(h.marks D hd).1, heap_grown hg (h.marks D hd).2 (fun e => by have := (hr _ e).1; have := hD D hd; omega)⟩
theorem Cst.alloc {w W : World} {n0 bm : Nat} {width : Int} {X : List (List (List Int))} {T : Place → Option Int} {Ds : List Nat} (h : Cst w W n0 bm width X T Ds) (o : Obj) : Cst w (W.alloc o) n0 bm width X T Ds where
  ext := h.ext.then (Ext.alloc W o)
  sz := h.sz
  hb := h.hb
  cw := (Ext.alloc W o).cell h.cw
  ce0 := (Ext.alloc W o).cell h.ce0
  ce1 := (Ext.alloc W o).cell h.ce1
  cm := (Ext.alloc W o).cell h.cm
  map := h.map.same (Below.heap_alloc W o _ h.map.lt)
  nodup := h.nodup
  marks := fun D hd => ⟨(h.marks D hd).1, (Below.heap_alloc W o _ (Array.getElem?_eq_some_iff.1 (h.marks D hd).2).1).trans (h.marks D hd).2⟩
theorem Cst.drewN {w W : World} {n0 bm : Nat} {width : Int} {X : List (List (List Int))} {T : Place → Option Int} {Ds : List Nat} (h : Cst w W n0 bm width X T Ds) (n : Nat) : Cst w (W.drewN n) n0 bm width X T Ds where
  ext := h.ext.then (Ext.drewN W n)
  sz := h.sz
  hb := h.hb
  cw := h.cw
  ce0 := h.ce0
  ce1 := h.ce1
  cm := h.cm
  map := h.map.same rfl
  nodup := h.nodup
  marks := h.marks
theorem Cst.put {w W W' : World} {n0 bm : Nat} {width : Int} {X : List (List (List Int))} {T T' : Place → Option Int} {Ds : List Nat} (h : Cst w W n0 bm width X T Ds) (hg : W.grownBy W' (some (n0 + 2))) (hm : Holds W' (n0 + 2) T') : Cst w W' n0 bm width X T' Ds where
  ext := h.ext.grown hg h.ext.size (fun j e => by cases e; have := h.sz; omega)
  sz := h.sz
  hb := h.hb
  cw := cell_kept h.cw hg (fun r e => by cases e; exact h.map.obj)
  ce0 := cell_kept h.ce0 hg (fun r e => by cases e; exact h.map.obj)
  ce1 := cell_kept h.ce1 hg (fun r e => by cases e; exact h.map.obj)
  cm := cell_kept h.cm hg (fun r e => by cases e; exact h.map.obj)
  map := hm
  nodup := h.nodup
  marks := fun D hd => ⟨(h.marks D hd).1, heap_grown hg (h.marks D hd).2 (fun e => by cases e; have := (h.marks _ hd).1; have := h.hb; omega)⟩
theorem Cst.more {w W : World} {n0 bm : Nat} {width : Int} {X : List (List (List Int))} {T : Place → Option Int} {Ds : List Nat} (h : Cst w W n0 bm width X T Ds) {D : Nat} (h1 : bm + 1 ≤ D) (h2 : ∀ D' ∈ Ds, D' < D) (h3 : W.heap[D]? = some (.deferred (some []))) : Cst w W n0 bm width X T (D :: Ds) :=
  { h with
    nodup := List.nodup_cons.2 ⟨fun hd => Nat.lt_irrefl _ (h2 D hd), h.nodup⟩
    marks := fun D' hd => by
      rcases List.mem_cons.1 hd with rfl | hd
      · exact ⟨h1, h3⟩
      · exact h.marks D' hd }

theorem cell_lt {W : World} {B o : Nat} {v : Value} (h : W.cell? ⟨B, o, none⟩ = some v) : B < W.heap.size := by
  unfold World.cell? at h
  by_cases hb : B < W.heap.size
  · exact hb
  · simp [Array.getElem?_eq_none (Nat.le_of_not_lt hb)] at h
/-- Cells keep what they hold. -/
def KeepC (A C : World) : Prop := ∀ (a : Addr) (u : Value), A.cell? a = some u → C.cell? a = some u
theorem KeepC.trans {A B C : World} (h : KeepC A B) (k : KeepC B C) : KeepC A C := fun a u e => k a u (h a u e)
theorem KeepC.of_grown {A C : World} {row : Option Nat} (hg : A.grownBy C row) (hr : ∀ r, row = some r → ∃ o : Obj, A.heap[r]? = some o ∧ o.isCells = false) : KeepC A C := fun _ _ e => cell_kept e hg hr
theorem keepC_put (W : World) (l : Nat) (o o' : Obj) (h1 : W.heap[l]? = some o) (h2 : o.isCells = false) : KeepC W (W.putObj l o') :=
  .of_grown (grownBy_putObj' W l o') (fun r e => by cases e; exact ⟨o, h1, h2⟩)
theorem upd_upd {T : Place → Option Int} {f : Place} {a c : Option Int} : upd (upd T f a) f c = upd T f c := by
  funext p; unfold upd; split <;> rfl
theorem body_put {w W W5 : World} {n0 bm : Nat} {width : Int} {X : List (List (List Int))} {T : Place → Option Int} {Ds : List Nat} {f : Place} {acc : Option Int} {y : Int} {nq B bf : Nat} {u v : Value} (h : Cst w W n0 bm width X (upd T f acc) Ds)
    (hg : (W.drewN nq).grownBy W5 (some (n0 + 2))) (hm : Holds W5 (n0 + 2) (upd (upd T f acc) f (some y))) (hB : bm + 1 ≤ B) (c0 : W.cell? ⟨bf, 0, none⟩ = some u) (c1 : W.cell? ⟨bf, 1, none⟩ = some v) :
    KeepsFrom B W W5 ∧ KeepC W W5 ∧ (Cst w W5 n0 bm width X (upd T f (some y)) Ds ∧ W5.cell? ⟨bf, 0, none⟩ = some u ∧ W5.cell? ⟨bf, 1, none⟩ = some v) := by
  have hb := h.hb
  have hd := h.drewN nq
  have ho := fun r (e : some (n0 + 2) = some r) => (by cases e; exact hd.map.obj : ∃ o : Obj, (W.drewN nq).heap[r]? = some o ∧ o.isCells = false)
  rw [upd_upd] at hm
  exact ⟨⟨hg.size, fun kk o hBk h0 hc => heap_grown hg (show (W.drewN nq).heap[kk]? = some o from h0) (fun e => by cases e; omega)⟩, fun a u e => cell_kept (show (W.drewN nq).cell? a = some u from e) hg ho,
    hd.put hg hm, cell_kept (show (W.drewN nq).cell? _ = some u from c0) hg ho, cell_kept (show (W.drewN nq).cell? _ = some v from c1) hg ho⟩
theorem body_keep {w W : World} {n0 bm : Nat} {width : Int} {X : List (List (List Int))} {T : Place → Option Int} {Ds : List Nat} {nq B bf : Nat} {u v : Value} (h : Cst w W n0 bm width X T Ds) (c0 : W.cell? ⟨bf, 0, none⟩ = some u) (c1 : W.cell? ⟨bf, 1, none⟩ = some v) :
    KeepsFrom B W (W.drewN nq) ∧ KeepC W (W.drewN nq) ∧ (Cst w (W.drewN nq) n0 bm width X T Ds ∧ (W.drewN nq).cell? ⟨bf, 0, none⟩ = some u ∧ (W.drewN nq).cell? ⟨bf, 1, none⟩ = some v) :=
  ⟨⟨Nat.le_refl _, fun _ _ _ h0 _ => h0⟩, fun _ _ e => e, h.drewN nq, c0, c1⟩
end Go.Proofs.Ytehelanfgepcmaa
