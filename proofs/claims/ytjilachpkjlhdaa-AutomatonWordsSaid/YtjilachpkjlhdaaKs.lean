/- Lemmas used by Words. -/
import Derived.Test.YtjilachpkjlhdaaKa
import Derived.Test.YtjilachpkjlhdaaKb
import Derived.Test.YtjilachpkjlhdaaKc
import Derived.Test.YtjilachpkjlhdaaKd
import Derived.Test.YtjilachpkjlhdaaKe
import Derived.Test.YtjilachpkjlhdaaKf
import Derived.Test.YtjilachpkjlhdaaKg
import Derived.Test.YtjilachpkjlhdaaKi
import Derived.Test.YtjilachpkjlhdaaKk
import Derived.Test.YtjilachpkjlhdaaKl
import Derived.Test.YtjilachpkjlhdaaKn
import Derived.Test.YtjilachpkjlhdaaProg
import Derived.WalkKit
import Derived.WalkSpells
import Derived.WalkLawsBesides
import Derived.Orders
import Derived.Laws.MakeOwn
import Derived.Deep.AppendSrc
import Derived.Lib.AppendZerosOnto
import Derived.Defers
import Derived.Laws.BytesString
import Derived.Laws.StructEq
import Derived.Scope
import Derived.Deep.LoopGhost
import Derived.OrdersIn
import Derived.ControlIn
import Derived.Sort.LoopGhostIn
import Derived.RangeFuncLeaves
import Derived.RangeFuncRecord
import Derived.RangeFuncFrom
import Derived.RangeFuncNested
set_option linter.unusedSimpArgs false
set_option linter.unusedVariables false
set_option linter.unusedSectionVars false
set_option maxRecDepth 100000
namespace Go.Proofs.Ytjilachpkjlhdaa
open Dak
def c9:CCode :=
 (.seq (.region [oo 6 (.mov (.const (.bool false)))])
 (.seq (.region [vv 25 0,vv 26 1,vv 27 2,oo 28 (.call (.func 10) [(T 25),(T 26),(T 27)]),vv 24 28,oo 29 (.extract (T 24) 0),oo 30 (.extract (T 24) 1),oo 7 (.alloc 26 (.agg [(.val (.int .i64 0)),(.val (.slice none 0 0)),(.val (.slice none 0 0))])),oo 8 (.alloc 26 (.agg [(.val (.int .i64 0)),(.val (.slice none 0 0)),(.val (.slice none 0 0))])),nn (.store 3 (T 7) (T 29)),nn (.store 3 (T 8) (T 30))])
 (.seq (.drawn [oo 32 (.load true 3 (T 7)),oo 33 (.call (.func 13) [(T 32)]),oo 34 (.load true 3 (T 8)),oo 35 (.call (.func 13) [(T 34)]),oo 36 (.call (.func 36) [(T 33),(T 35)]),vv 31 36,oo 37 (.extract (T 31) 0),oo 38 (.extract (T 31) 1),oo 9 (.alloc 34 (.agg [(.val (.int .i64 0)),(.val (.slice none 0 0)),(.val (.slice none 0 0))]))] [(nn (.store 3 (T 9) (T 37)),[]),(vv 10 38,[])])
 (.seq (.region [oo 40 (.load true 3 (T 7)),oo 41 (.call (.func 13) [(T 40)]),oo 42 (.call (.func 35) [(T 41)]),vv 39 42,oo 43 (.extract (T 39) 0),oo 44 (.extract (T 39) 1),oo 11 (.alloc 34 (.agg [(.val (.int .i64 0)),(.val (.slice none 0 0)),(.val (.slice none 0 0))])),nn (.store 3 (T 11) (T 43)),vv 12 44])
 (.seq (.region [oo 46 (.load true 3 (T 7)),oo 47 (.call (.func 13) [(T 46)]),oo 48 (.call (.func 28) [(T 47)]),vv 45 48,oo 49 (.extract (T 45) 0),oo 50 (.extract (T 45) 1),oo 13 (.alloc 34 (.agg [(.val (.int .i64 0)),(.val (.slice none 0 0)),(.val (.slice none 0 0))])),nn (.store 3 (T 13) (T 49)),vv 14 50])
 (.seq (.region [oo 52 (.load true 3 (T 7)),oo 53 (.call (.func 13) [(T 52)]),oo 54 (.call (.func 22) [(T 53)]),vv 51 54,oo 55 (.extract (T 51) 0),oo 56 (.extract (T 51) 1),oo 15 (.alloc 34 (.agg [(.val (.int .i64 0)),(.val (.slice none 0 0)),(.val (.slice none 0 0))])),nn (.store 3 (T 15) (T 55)),vv 16 56])
 (.seq (.seq (.region [vv 57 10,oo 58 (.ibin .neq (T 57) (kk 0)),vv 59 58,vf 60 59 12,gf 61 59 (.ibin .neq (T 60) (kk 0)),oo 62 (.pick (T 59) (.const (.bool true)) (T 61)),vv 63 62,vf 64 63 14,gf 65 63 (.ibin .neq (T 64) (kk 0)),oo 66 (.pick (T 63) (.const (.bool true)) (T 65)),vv 67 66,vf 68 67 16,gf 69 67 (.ibin .neq (T 68) (kk 0)),oo 70 (.pick (T 67) (.const (.bool true)) (T 69))])
 (.cond (T 70)
 (.seq (.region [vv 71 10,oo 72 (.ibin .eql (T 71) (kk 4)),vv 73 72,vf 74 73 10,gf 75 73 (.ibin .eql (T 74) (kk 0)),oo 76 (.pick (T 73) (.const (.bool true)) (T 75)),vv 77 76,vt 78 77 12,gt 79 77 (.ibin .eql (T 78) (kk 0)),vt 80 77 79,vf 81 80 12,vf 82 80 16,gf 83 80 (.ibin .eql (T 81) (T 82)),gt 84 77 (.pick (T 80) (.const (.bool true)) (T 83)),oo 85 (.pick (T 77) (T 84) (.const (.bool false))),vv 86 85,gt 87 86 (.call (.func 21) []),oo 88 (.pick (T 86) (T 87) (.const (.bool false))),vv 6 88])
 .ret)
 .skip))
 (.seq (.region [oo 89 (.fieldAddr 0 (T 7)),oo 90 (.load false 1 (T 89)),oo 91 (.call (.func 32) [(T 90),(kk 4)]),vv 17 91])
 (.seq (.seq (.region [oo 18 (.mov (kk 0))])
 (.block 0 (.loop
 (.seq (.seq (.region [vv 92 18,vv 93 17,oo 94 (.len (T 93)),oo 95 (.ibin .lss (T 92) (T 94))])
 (.cond (T 95)
 .skip
 (.exit 0)))
 (.seq (.block 1 (.seq (.region [vv 98 17,vv 99 18,oo 100 (.idxS 1 (T 98) (T 99)),oo 101 (.load false 1 (T 100)),vv 19 101])
 (.seq (.region [oo 20 (.mov (.const (.slice none 0 0)))])
 (.seq (.seq (.region [vv 102 19,oo 103 (.len (T 102)),oo 104 (.ibin .sub (T 103) (kk 1)),vv 21 104])
 (.block 2 (.loop
 (.seq (.seq (.region [vv 105 21,oo 106 (.ibin .geq (T 105) (kk 0))])
 (.cond (T 106)
 .skip
 (.exit 2)))
 (.seq (.block 3 (.region [vv 109 20,vv 110 19,vv 111 21,oo 112 (.idxS 1 (T 110) (T 111)),oo 113 (.load false 1 (T 112)),oo 114 (.bslice 3 1 [(T 113)]),oo 115 (.append 3 1 8 (T 109) (T 114)),vv 20 115]))
 (.region [vv 107 21,oo 108 (.ibin .sub (T 107) (kk 1)),vv 21 108]))))))
 (.seq (.region [oo 116 (.load true 3 (T 7)),oo 117 (.call (.func 13) [(T 116)]),vv 118 19,oo 119 (.call (.func 16) [(T 117),(T 118)]),vv 22 119])
 (.seq (.region [oo 120 (.load true 3 (T 8)),oo 121 (.call (.func 13) [(T 120)]),vv 122 19,oo 123 (.call (.func 16) [(T 121),(T 122)]),vv 23 123])
 (.seq (.region [oo 124 (.load true 3 (T 9)),vv 125 19,oo 126 (.call (.func 16) [(T 124),(T 125)]),vv 127 22,vv 128 127,vt 129 128 23,oo 130 (.pick (T 128) (T 129) (.const (.bool false))),oo 131 (.bbin .neq (T 126) (T 130)),vv 132 131,gf 133 132 (.load true 3 (T 11)),vf 134 132 19,gf 135 132 (.call (.func 16) [(T 133),(T 134)]),vf 136 132 22,gf 137 132 (.bbin .eql (T 135) (T 136)),oo 138 (.pick (T 132) (.const (.bool true)) (T 137)),vv 139 138,gf 140 139 (.load true 3 (T 13)),vf 141 139 20,gf 142 139 (.call (.func 16) [(T 140),(T 141)]),vf 143 139 22,gf 144 139 (.bbin .neq (T 142) (T 143)),oo 145 (.pick (T 139) (.const (.bool true)) (T 144)),vv 146 145,gf 147 146 (.load true 3 (T 15)),vf 148 146 19,gf 149 146 (.call (.func 16) [(T 147),(T 148)]),vf 150 146 22,gf 151 146 (.bbin .neq (T 149) (T 150)),oo 152 (.pick (T 146) (.const (.bool true)) (T 151))])
 (.cond (T 152)
 (.seq (.region [oo 6 (.mov (.const (.bool false)))])
 .ret)
 .skip))))))))
 (.region [vv 96 18,oo 97 (.ibin .add (T 96) (kk 1)),vv 18 97]))))))
 (.seq (.region [oo 153 (.call (.func 21) []),vv 6 153])
 .ret))))))))))
theorem f9:fnC Try.prog 9=some (c9,154,[(.tmp 6)]):=by kernel_rfl
end Go.Proofs.Ytjilachpkjlhdaa
namespace P5
section
variable {K L : Type} [DecidableEq K] [DecidableEq L]
end
section
variable {K : Type} [DecidableEq K]
end
section
variable {K : Type} [DecidableEq K]
end
theorem lang_out {g:Gr} (h:GrOk g) {i:Nat} (hi:g.acc.length<=i):∀ w,lang g w i=false
 | []=>by
  rw [lang]
  by_cases hb:bt g.acc i=true
  ·have:=bt_lt hb;omega
  ·simpa using hb
 | x::w=>by
  rw [lang]
  have:gto g i x = -1:=by
   unfold gto
   have e1:g.to.getD i []=[]:=by rw [List.getD_eq_getElem?_getD,List.getElem?_eq_none (by rw [h.len];exact hi)];rfl
   rw [e1];rfl
  rw [this];rfl
end P5
namespace P5
theorem fixed_accepts {a:Au} (h:(fixedM a).2=0) (w:List Nat):acceptsM (fixedM a).1 (wI w)=acceptsM a (wI w):=by
 obtain ⟨_,g,d,h1,h2,h3,h4,h5,h6⟩:=fixed_norm h
 rw [h3]
 simp only
 rw [accepts_norm h4.ok h4.va]
 exact congrFun h6 w
theorem klang_prod {g h:Gr} (hg:GrOk g) (hh:GrOk h) (hs:g.sy=h.sy):∀ (w:List Nat) (p:PI),klang (nextB g h) (accB g h) g.sy w p=(lang g w p.1.toNat && lang h w p.2.toNat)
 | [],p=>rfl
 | x::w,p=>by
  rw [klang,lang,lang]
  by_cases hx:x<g.sy
  ·rw [if_pos hx]
   unfold nextB
   by_cases h1:gto g p.1.toNat x<0
   ·rw [if_pos (.inl h1),if_pos h1];rfl
   ·by_cases h2:gto h p.2.toNat x<0
    ·rw [if_pos (.inr h2),if_pos h2,Bool.and_false]
    ·rw [if_neg (fun hc=>hc.elim h1 h2),if_neg h1,if_neg h2]
     exact klang_prod hg hh hs w _
  ·rw [if_neg hx]
   have e:lang g (x::w) p.1.toNat=false:=lang_sy hg (x::w) _ ⟨x,by simp,by omega⟩
   rw [lang] at e
   rw [e];rfl
theorem prod_ok {g h d:Gr} (hg:GrOk g) (hh:GrOk h) (hs:g.sy=h.sy) (e:prodM g h=some d):GrOk d/\d.acc.length<=256/\d.sy=g.sy/\∀ w,lang d w 0=(lang g w 0 && lang h w 0):=by
 unfold prodM at e
 rw [Option.map_eq_some_iff] at e
 obtain ⟨⟨l,rows⟩,h1,rfl⟩:=e
 obtain ⟨b1,b2,b3⟩:=bfs_ok (M:=256) (by omega) h1
 have hl:1<=l.length:=b3.length_le
 have h0:l[0]=((0,0):PI):=((b3).getElem (i:=0) (by simp)).symm
 refine ⟨grOf_ok b1 b2 hl,by simpa [grOf] using b1.most,rfl,fun w=>?_⟩
 rw [grOf_lang b1 b2 w 0 hl,h0,klang_prod hg hh hs]
 rfl
theorem both_accepts {a b:Au} (h:(bothM a b).2=0) (w:List Nat):acceptsM (bothM a b).1 (wI w)=(acceptsM a (wI w) && acceptsM b (wI w)):=by
 unfold bothM at h ⊢
 simp only at h ⊢
 by_cases h0:(twoM a b).1=0
 ·rw [if_pos h0] at h ⊢
  obtain ⟨va,vb,hs,fa,fb,g,k,e,ea,eb,ng,nk,sg,sk,lg,lk⟩:=two_norm h0
  rw [e] at h ⊢
  simp only at h ⊢
  cases hp:prodM g k with
  | none=>rw [hp] at h;simp at h
  | some d =>
   rw [hp] at h
   simp only at h ⊢
   obtain ⟨d1,d2,d3,d4⟩:=prod_ok ng.ok nk.ok (by rw [sg,sk]) hp
   rw [(least_accepts d1 (by omega) h).2.2.2.2 w,d4,show lang g w 0=acceptsM a (wI w) from congrFun lg w,show lang k w 0=acceptsM b (wI w) from congrFun lk w]
 ·rw [if_neg h0] at h
  exact absurd h h0
theorem two_err {a b:Au} (ha:validM a=0) (hb:validM b=0) (hs:a.sy=b.sy):(twoM a b).1=0 \/ (twoM a b).1=4:=by
 unfold twoM
 simp only
 rw [if_pos ha,if_pos hb,if_pos hs]
 have key:∀ c,validM c=0->¬ (fixedM c).2=0->(fixedM c).2=4:=fun c hc h=>by
  rcases fixed_cases c with h1 | ⟨_,h1 | ⟨h1,_⟩⟩
  ·exact absurd h1 h
  ·exact h1
  ·exact absurd (valid_VA.1 hc) h1
 by_cases h4:(fixedM a).2=0
 ·rw [if_pos h4]
  by_cases h5:(fixedM b).2=0
  ·rw [if_pos h5];exact .inl rfl
  ·rw [if_neg h5];exact .inr (key b hb h5)
 ·rw [if_neg h4];exact .inr (key a ha h4)
theorem both_err {a b:Au} (ha:validM a=0) (hb:validM b=0) (hs:a.sy=b.sy):(bothM a b).2=0 \/ (bothM a b).2=4:=by
 unfold bothM
 simp only
 rcases two_err ha hb hs with h | h
 ·rw [if_pos h]
  cases prodM (twoM a b).2.1 (twoM a b).2.2 with
  | none=>exact .inr rfl
  | some d =>
   simp only
   rcases checked_cases (leastR d) with ⟨_,c2⟩ | ⟨_,c2⟩
   ·exact .inl (by rw [c2])
   ·exact .inr (by rw [c2])
 ·rw [if_neg (by omega)];exact .inr h
theorem neg_lang {g:Gr} (h:GrOk g):∀ (w:List Nat) (i:Nat),(∀ x ∈ w,x<g.sy)->i<=g.acc.length->lang (negG g) w i = !lang g w i
 | [],i,_,hi=>neg_acc hi
 | x::w,i,hw,hi=>by
  have hx:=hw x (by simp)
  have hw':∀ y ∈ w,y<g.sy:=fun y hy=>hw y (by simp [hy])
  rw [lang,lang,neg_to h hi hx]
  have h1:=h.hi i x
  by_cases h0:gto g i x<0
  ·rw [if_pos h0,if_pos h0,if_neg (by omega),Int.toNat_natCast,neg_lang h w _ hw' (Nat.le_refl _),lang_out h (Nat.le_refl _)]
  ·rw [if_neg h0,if_neg h0,if_neg h0,neg_lang h w _ hw' (by omega)]
theorem not_accepts {a:Au} (h:(notM a).2=0) (w:List Nat) (hw:∀ x ∈ w,(x:Int)<a.sy):acceptsM (notM a).1 (wI w) = !acceptsM a (wI w):=by
 unfold notM at h ⊢
 by_cases h0:(fixedM a).2=0
 ·rw [if_pos h0] at h ⊢
  obtain ⟨va,g,d,h1,h2,h3,h4,h5,h6⟩:=fixed_norm h0
  rw [h3] at h ⊢
  simp only at h ⊢
  rw [tab_auOf h4.ok] at h ⊢
  have gl:=h4.va.n.2
  have nl:(negG g).acc.length<=257:=by simp only [negG,List.length_append,List.length_map,List.length_singleton];exact Nat.succ_le_succ gl
  rw [(least_accepts (neg_ok h4.ok) nl h).2.2.2.2 w,neg_lang h4.ok w 0 (fun x hx=>by have:=hw x hx;omega) (Nat.zero_le _),show lang g w 0=acceptsM a (wI w) from congrFun h6 w]
 ·rw [if_neg h0] at h
  exact absurd h h0
theorem turn_accepts {a:Au} (h:(turnM a).2=0) (w:List Nat):acceptsM (turnM a).1 (wI w)=acceptsM a (wI w.reverse):=by
 obtain ⟨_,g,h1,h2,h3,h4⟩:=turn_norm h
 rw [h1]
 simp only
 rw [accepts_norm h2.ok h2.va]
 exact congrFun h4 w
end P5
namespace Go.Proofs.Ytjilachpkjlhdaa
open Go.RowKit Dak P5
open Nat (reduceEqDiff reduceLT reduceAdd)
theorem turn_sz (a:Au):SzA (turnM a).1:=by
 unfold turnM
 split
 ·split
  ·exact nilA_sz
  ·exact checked_sz _
 ·exact nilA_sz
end Go.Proofs.Ytjilachpkjlhdaa
namespace Go.Proofs.Ytjilachpkjlhdaa
open Go.RowKit Dak P5
open Nat (reduceEqDiff reduceLT reduceAdd)
def allB:Nat->List (List Bool)
 | 0=>[[]]
 | n+1=>(allB n).map (false::·)++(allB n).map (true::·)
theorem allB_len:∀ n,(allB n).length=2 ^ n
 | 0=>rfl
 | n+1=>by rw [allB,List.length_append,List.length_map,List.length_map,allB_len n,Nat.pow_succ];omega
theorem allB_mem:∀ (l:List Bool),l ∈ allB l.length
 | []=>by simp [allB]
 | false::l=>by
  rw [List.length_cons,allB,List.mem_append]
  exact .inl (List.mem_map.2 ⟨l,allB_mem l,rfl⟩)
 | true::l=>by
  rw [List.length_cons,allB,List.mem_append]
  exact .inr (List.mem_map.2 ⟨l,allB_mem l,rfl⟩)
theorem auOf_VA {g:Gr} (h:GrOk g) (h1:1<=g.sy) (h2:g.sy<=16) (hn:g.acc.length<=256):VA (auOf g):=by
 refine ⟨⟨by show (1:Int)<=(g.sy:Int);omega,by show (g.sy:Int)<=64;omega⟩,⟨h.n,hn⟩,Nat.le_trans (edl g h) (Nat.le_trans (Nat.mul_le_mul hn h2) (by omega)),fun e he=>?_⟩
 obtain ⟨i,x,hi,hx,h5,rfl⟩:=(mem_auOf h).1 he
 have:=h.hi i x
 have ha:(auOf g).acc.length=g.acc.length:=rfl
 have hs:(auOf g).sy=(g.sy:Int):=rfl
 simp only
 rw [ha,hs]
 omega
theorem sets_small {a:Au} (hn:a.acc.length<=6):∃ d,setsM a=some d/\d.acc.length<=64:=by
 have hp:2 ^ a.acc.length<=64:=Nat.le_trans (Nat.pow_le_pow_right (n:=2) (by omega) hn) (by decide)
 obtain ⟨l,rows,hb,hk⟩:=bfs_small (M:=256) (next:=nextA a) (sy:=a.sy.toNat) (first:=firstA a) (S:=allB a.acc.length) (by rw [allB_len];omega) (by have:=allB_mem (firstA a);rwa [firstA_len] at this) (fun k hk x t _ ht=>by
  unfold nextA at ht
  split at ht
  ·rw [<-Option.some.inj ht]
   have:=allB_mem (afterA a k (x:Int));rwa [afterA_len] at this
  ·cases ht)
 refine ⟨_,by rw [setsM,hb];rfl,?_⟩
 have hl:=sub_len (S:=allB a.acc.length) ((bfs_ok (by omega) hb).1.nodup) hk
 rw [allB_len] at hl
 show (l.map _).length<=64
 rw [List.length_map]
 omega
theorem small_ok {a:Au} (hv:VA a) (hn:a.acc.length<=6) (hs:a.sy<=16):(fixedM a).2=0/\(P5.notM a).2=0:=by
 obtain ⟨d,hd,hdl⟩:=sets_small hn
 have hsy:=hv.sy
 obtain ⟨o1,o2,o3,_⟩:=setsM_ok hd
 obtain ⟨l1,l2,l3⟩:=leastR_lang o1 (by omega)
 have hls:(leastR d).sy=d.sy:=rfl
 have hva:=auOf_VA l1 (by omega) (by omega) (by omega)
 have hf:fixedM a=(auOf (leastR d),0):=by
  rw [fixedM,if_pos (valid_VA.2 hv),hd]
  simp only
  rw [checkedM,if_pos (valid_VA.2 hva)]
 refine ⟨by rw [hf],?_⟩
 unfold P5.notM
 rw [hf]
 simp only
 rw [if_pos trivial,tab_auOf l1]
 have nok:=neg_ok l1
 have nl:(negG (leastR d)).acc.length<=65:=by simp only [negG,List.length_append,List.length_map,List.length_singleton];omega
 obtain ⟨k1,k2,k3⟩:=leastR_lang nok (by omega)
 have hks:(leastR (negG (leastR d))).sy=d.sy:=rfl
 have:=auOf_VA k1 (by omega) (by omega) (by omega)
 rw [checkedM,if_pos (valid_VA.2 this)]
set_option maxHeartbeats 4000000 in
theorem AutomatonWords_s (l m:List Int) (symbols:Int) (hl:∀ x ∈ l,I64 x) (hm:∀ x ∈ m,I64 x) (hs:I64 symbols) :
 Ctr Try.prog 9 [vints l,vints m,vi symbols] (vb true):=by
 refine specC f9 (by simp) fun F0 w0=>?_
 have hp:=pair2_s l m symbols hl hm hs
 obtain ⟨m1,m2⟩:=made_sz l (symN symbols)
 obtain ⟨m3,m4⟩:=made_sz m (symN symbols)
 obtain ⟨s1,s2,_⟩:=symN_bd symbols
 have hzA:SzA (madeM l (symN symbols)):=⟨by omega,by omega⟩
 have hzB:SzA (madeM m (symN symbols)):=⟨by omega,by omega⟩
 have hvA:=made_VA l s1 (by omega)
 have hvB:=made_VA m s1 (by omega)
 have hasy:(madeM l (symN symbols)).sy=(symN symbols:Int):=rfl
 have hbsy:(madeM m (symN symbols)).sy=(symN symbols:Int):=rfl
 generalize symN symbols=y at *
 generalize madeM l y=A at hp hzA hvA hasy m1
 generalize madeM m y=B at hp hzB hvB hbsy
 have hlv:=lives_s
 obtain ⟨hfx,hnt⟩:=small_ok hvA m1 (by omega)
 have hW:=Words_s y s2
 have h1:=ownA_s A hzA
 have h2:=ownA_s B hzB
 have h3:=Both_s A B hzA hzB
 have h4:=Not_s A hzA
 have h5:=Turn_s A hzA
 have h6:=Fixed_s A hzA
 have hbe:=both_err (valid_VA.2 hvA) (valid_VA.2 hvB) (by rw [hasy,hbsy])
 have hza:=both_sz A B
 have hzb:=not_sz A
 have hzc:=turn_sz A
 have hzd:=fixed_sz A
 have aB:=fun h w=>both_accepts (a:=A) (b:=B) h w
 have aN:=fun w hw=>not_accepts (a:=A) hnt w hw
 have aT:=fun h w=>turn_accepts (a:=A) h w
 have aF:=fun w=>fixed_accepts (a:=A) hfx w
 obtain ⟨R1,e1,hR1⟩:∃ R e,bothM A B=(R,e):=⟨_,_,rfl⟩
 obtain ⟨R2,e2,hR2⟩:∃ R e,P5.notM A=(R,e):=⟨_,_,rfl⟩
 obtain ⟨R3,e3,hR3⟩:∃ R e,turnM A=(R,e):=⟨_,_,rfl⟩
 obtain ⟨R4,e4,hR4⟩:∃ R e,fixedM A=(R,e):=⟨_,_,rfl⟩
 rw [hR1] at h3 hbe hza aB
 rw [hR2] at h4 hnt hzb aN
 rw [hR3] at h5 hzc aT
 rw [hR4] at h6 hfx hzd aF
 simp only at h3 h4 h5 h6 hbe hza hzb hzc hzd aB aN aT aF hfx hnt
 subst hfx hnt
 unfold c9
 refine CwpE.cut (st:=⟨[(0,vints l),(1,vints m),(2,vi symbols)],[]⟩) ?_ ?_
 ·simp only [go_sem,↓reduceIte,reduceLT,reduceAdd]
  exact ⟨_,WkE.kq,rfl⟩
 refine CwpE.cut (st:=⟨[(7,.ref 0 1 0 0),(8,.ref 1 1 0 0)],[oB A,oB B]⟩) ?_ ?_
 ·simp only [go_sem,↓reduceIte,reduceCtorEq,reduceLT,reduceEqDiff]
  refine callT hp rfl ?_
  simp only [go_sem,↓reduceIte,reduceLT,reduceEqDiff,reduceAdd]
  exact ⟨_,WkE.kp,rfl⟩
 refine CwpE.cut (st:=⟨[(7,.ref 0 1 0 0),(8,.ref 1 1 0 0),(9,.ref 2 1 0 0),(10,vi e1)],[oB A,oB B,oX R1]⟩) ?_ ?_
 ·simp only [go_sem,↓reduceIte,reduceLT,reduceAdd]
  refine callT h1 rfl ?_
  simp only [go_sem,↓reduceIte,reduceLT,reduceEqDiff,reduceAdd]
  refine callT h2 rfl ?_
  simp only [go_sem,↓reduceIte,reduceLT,reduceEqDiff]
  refine callT h3 rfl ?_
  simp only [go_sem,↓reduceIte,reduceLT,reduceEqDiff,reduceAdd]
  exact ⟨_,WkE.kp,rfl⟩
 refine CwpE.cut (st:=⟨[(7,.ref 0 1 0 0),(8,.ref 1 1 0 0),(9,.ref 2 1 0 0),(10,vi e1),(11,.ref 3 1 0 0),(12,vi 0)],[oB A,oB B,oX R1,oX R2]⟩) ?_ ?_
 ·simp only [go_sem,↓reduceIte,reduceLT,reduceAdd]
  refine callT h1 rfl ?_
  simp only [go_sem,↓reduceIte,reduceLT]
  refine callT h4 rfl ?_
  simp only [go_sem,↓reduceIte,reduceLT,reduceEqDiff,reduceAdd]
  exact ⟨_,WkE.kp,rfl⟩
 refine CwpE.cut (st:=⟨[(7,.ref 0 1 0 0),(8,.ref 1 1 0 0),(9,.ref 2 1 0 0),(10,vi e1),(11,.ref 3 1 0 0),(12,vi 0),(13,.ref 4 1 0 0),(14,vi e3)],[oB A,oB B,oX R1,oX R2,oX R3]⟩) ?_ ?_
 ·simp only [go_sem,↓reduceIte,reduceLT,reduceAdd]
  refine callT h1 rfl ?_
  simp only [go_sem,↓reduceIte,reduceLT]
  refine callT h5 rfl ?_
  simp only [go_sem,↓reduceIte,reduceLT,reduceEqDiff,reduceAdd]
  exact ⟨_,WkE.kp,rfl⟩
 refine CwpE.cut (st:=⟨[(7,.ref 0 1 0 0),(8,.ref 1 1 0 0),(9,.ref 2 1 0 0),(10,vi e1),(11,.ref 3 1 0 0),(12,vi 0),(13,.ref 4 1 0 0),(14,vi e3),(15,.ref 5 1 0 0),(16,vi 0)],[oB A,oB B,oX R1,oX R2,oX R3,oX R4]⟩) ?_ ?_
 ·simp only [go_sem,↓reduceIte,reduceLT,reduceAdd]
  refine callT h1 rfl ?_
  simp only [go_sem,↓reduceIte,reduceLT]
  refine callT h6 rfl ?_
  simp only [go_sem,↓reduceIte,reduceLT,reduceEqDiff,reduceAdd]
  exact ⟨_,WkE.kp,rfl⟩
 by_cases hee:e1=0/\e3=0
 rotate_left
 ·refine CwpE.step (fun _=>False) ?_ (fun _ h=>h.elim)
  rcases hbe with h0 | h0
  ·subst h0
   have h3n:¬ e3=0:=fun h=>hee ⟨rfl,h⟩
   simp only [go_sem,↓reduceIte,reduceLT,reduceEqDiff,Int.reduceEq,h3n]
   refine callT hlv rfl ?_
   simp only [go_sem,↓reduceIte,reduceLT,reduceEqDiff]
   exact .tree _ rfl
  ·subst h0
   simp only [go_sem,↓reduceIte,reduceLT,reduceEqDiff,Int.reduceEq]
   refine callT hlv rfl ?_
   simp only [go_sem,↓reduceIte,reduceLT,reduceEqDiff]
   exact .tree _ rfl
 obtain ⟨rfl,rfl⟩:=hee
 refine CwpE.cut (st:=⟨[(7,.ref 0 1 0 0),(8,.ref 1 1 0 0),(9,.ref 2 1 0 0),(11,.ref 3 1 0 0),(13,.ref 4 1 0 0),(15,.ref 5 1 0 0)],[oB A,oB B,oX R1,oX R2,oX R3,oX R4]⟩) ?_ ?_
 ·simp only [go_sem,↓reduceIte,reduceLT,reduceEqDiff]
  exact ⟨_,WkE.kp,rfl⟩
 refine CwpE.cut (st:=⟨[(7,.ref 0 1 0 0),(8,.ref 1 1 0 0),(9,.ref 2 1 0 0),(11,.ref 3 1 0 0),(13,.ref 4 1 0 0),(15,.ref 5 1 0 0),(17,.list 1 (vws (wordsN y 4)))],[oB A,oB B,oX R1,oX R2,oX R3,oX R4]⟩) ?_ ?_
 ·simp only [go_sem,↓reduceIte,reduceLT,hasy]
  refine callT hW rfl ?_
  simp only [go_sem,↓reduceIte,reduceLT]
  exact ⟨_,WkE.kp,rfl⟩
 have hWm:∀ w ∈ wordsN y 4,w.length<=4/\∀ x ∈ w,(x:Int)<A.sy:=fun w hw=>by
  obtain ⟨q1,q2⟩:=wordsN_mem.1 hw
  exact ⟨q1,fun x hx=>by have:=q2 x hx;rw [hasy];omega⟩
 have hWl:=wordsN_len3 s2 4 (by omega)
 obtain ⟨W,hWe⟩:∃ W,wordsN y 4=W:=⟨_,rfl⟩
 rw [hWe] at hWl ⊢
 simp only [hWe] at hWm
 refine CwpE.seqJ (fun z=>∃ env objs,z=⟨env,objs⟩) ?_ ?_
 rotate_left
 ·rintro _ ⟨env,objs,rfl⟩
  refine CwpE.wk (s':=⟨[],objs⟩) (WkE.keep (by simp only [go_sem])) ?_
  refine CwpE.vc ?_
  simp only [go_sem]
  refine callT hlv rfl ?_
  simp only [go_sem,↓reduceIte,reduceLT]
  exact .tree _ rfl
 refine CwpE.cut (st:=⟨[(7,.ref 0 1 0 0),(8,.ref 1 1 0 0),(9,.ref 2 1 0 0),(11,.ref 3 1 0 0),(13,.ref 4 1 0 0),(15,.ref 5 1 0 0),(17,.list 1 (vws W)),(18,vi (0:Nat))],[oB A,oB B,oX R1,oX R2,oX R3,oX R4]⟩) ?_ ?_
 ·simp only [go_sem,↓reduceIte,reduceLT]
  exact ⟨_,WkE.kp,rfl⟩
 refine CwpE.block ?_
 have hvl:(vws W).length=W.length:=by rw [vws,List.length_map]
 obtain ⟨V,hV⟩:∃ V,vws W=V:=⟨_,rfl⟩
 rw [hV] at hvl ⊢
 refine loopXC 0 (fun m z=>∃ i:Nat,m=W.length-i/\i<=W.length/\z=⟨[(7,.ref 0 1 0 0),(8,.ref 1 1 0 0),(9,.ref 2 1 0 0),(11,.ref 3 1 0 0),(13,.ref 4 1 0 0),(15,.ref 5 1 0 0),(17,.list 1 V),(18,vi i)],[oB A,oB B,oX R1,oX R2,oX R3,oX R4]⟩)
  (fun z=>∃ env objs,z=⟨env,objs⟩) W.length _ (.refl _ _) ⟨0,by omega,by omega,rfl⟩ ?_ ?_
 rotate_left
 ·rintro z h
  simp only [inBlockE,if_true]
  exact ⟨z,.refl _ _,h⟩
 rintro k z ⟨i,rfl,hi,rfl⟩
 by_cases hlt:i<W.length
 rotate_left
 ·have gk:¬ (i:Int)<(V.length:Int):=by omega
  refine CwpE.vc ?_
  simp only [go_sem,↓reduceIte,reduceLT,reduceEqDiff,gk]
  exact ⟨_,.refl _ _,_,_,rfl⟩
 have g1:(i:Int)<(V.length:Int):=by omega
 have g0:(0:Int)<=(i:Int):=by omega
 have wi:=wrap_s i (by omega)
 have hget:=vws_get hlt
 rw [hV] at hget
 obtain ⟨hwl,hwy⟩:=hWm _ (List.getElem_mem hlt)
 generalize W[i]=v at hget hwl hwy
 have hvI:=wI_len v
 have c1:=Accepts_s A hzA (wI v) (by omega)
 have c2:=Accepts_s B hzB (wI v) (by omega)
 have c3:=Accepts_s R1 hza (wI v) (by omega)
 have c4:=Accepts_s R2 hzb (wI v) (by omega)
 have c5:=Accepts_s R3 hzc (wI v).reverse (by rw [List.length_reverse];omega)
 have c6:=Accepts_s R4 hzd (wI v) (by omega)
 have hrev:(wI v).reverse=wI v.reverse:=by rw [wI,wI,List.map_reverse]
 rw [aB rfl] at c3
 rw [aN v hwy] at c4
 rw [hrev,aT rfl,List.reverse_reverse,<-hrev] at c5
 rw [aF] at c6
 generalize acceptsM A (wI v)=X at c1 c3 c4 c5 c6
 generalize acceptsM B (wI v)=Y at c2 c3
 generalize wI v=w at hget hvI c1 c2 c3 c4 c5 c6
 refine CwpE.cut (st:=⟨[(7,.ref 0 1 0 0),(8,.ref 1 1 0 0),(9,.ref 2 1 0 0),(11,.ref 3 1 0 0),(13,.ref 4 1 0 0),(15,.ref 5 1 0 0),(17,.list 1 V),(18,vi i)],[oB A,oB B,oX R1,oX R2,oX R3,oX R4]⟩) ?_ ?_
 ·simp only [go_sem,↓reduceIte,reduceLT,reduceEqDiff,g1]
  exact ⟨_,WkE.kp,rfl⟩
 have inn:([oB A,oB B,oX R1,oX R2,oX R3,oX R4].all fun o=>o.innO 6)=true:=rfl
 refine CwpE.seqJ (fun z=>z=⟨[(7,.ref 0 1 0 0),(8,.ref 1 1 0 0),(9,.ref 2 1 0 0),(11,.ref 3 1 0 0),(13,.ref 4 1 0 0),(15,.ref 5 1 0 0),(17,.list 1 V),(18,vi i)],[oB A,oB B,oX R1,oX R2,oX R3,oX R4]⟩) (CwpE.block ?_) ?_
 rotate_left
 ·rintro _ rfl
  refine CwpE.vc ?_
  simp only [go_sem,↓reduceIte,reduceLT,reduceEqDiff,wi]
  exact ⟨W.length-(i+1),⟨[(7,.ref 0 1 0 0),(8,.ref 1 1 0 0),(9,.ref 2 1 0 0),(11,.ref 3 1 0 0),(13,.ref 4 1 0 0),(15,.ref 5 1 0 0),(17,.list 1 V),(18,vi (i+1:Nat))],[oB A,oB B,oX R1,oX R2,oX R3,oX R4]⟩,by omega,WkE.kp,i+1,rfl,by omega,rfl⟩
 refine CwpE.cut (st:=⟨[(7,.ref 0 1 0 0),(8,.ref 1 1 0 0),(9,.ref 2 1 0 0),(11,.ref 3 1 0 0),(13,.ref 4 1 0 0),(15,.ref 5 1 0 0),(17,.list 1 V),(18,vi i),(19,vints w)],[oB A,oB B,oX R1,oX R2,oX R3,oX R4]⟩) ?_ ?_
 ·simp only [go_sem,↓reduceIte,reduceLT,reduceEqDiff,g0,hget,Int.toNat_natCast]
  exact ⟨_,WkE.kp,rfl⟩
 refine CwpE.cut (st:=⟨[(20,.own 6 0 0 0),(7,.ref 0 1 0 0),(8,.ref 1 1 0 0),(9,.ref 2 1 0 0),(11,.ref 3 1 0 0),(13,.ref 4 1 0 0),(15,.ref 5 1 0 0),(17,.list 1 V),(18,vi i),(19,vints w)],[oB A,oB B,oX R1,oX R2,oX R3,oX R4,.arr 0 1 3 []]⟩) ?_ ?_
 ·simp only [go_sem,↓reduceIte,reduceLT]
  exact ⟨_,(WkE.nil 20 1 3 (by omega) rfl).trans (WkE.keep (by simp only [go_sem,↓reduceIte,reduceEqDiff,reduceAdd];try rfl)),rfl⟩
 obtain ⟨n,hn⟩:∃ n,w.length=n:=⟨_,rfl⟩
 have hwn:IntKind.i64.wrap ((n:Int)-1)=(n:Int)-1:=wrap_id (by omega) (by omega)
 obtain ⟨R,hR⟩:∃ R,w.reverse=R:=⟨_,rfl⟩
 have hRl:R.length=n:=by rw [<-hR,List.length_reverse,hn]
 rw [hR] at c5
 refine CwpE.step (fun z=>z=⟨[(20,.own 6 n 0 n),(7,.ref 0 1 0 0),(8,.ref 1 1 0 0),(9,.ref 2 1 0 0),(11,.ref 3 1 0 0),(13,.ref 4 1 0 0),(15,.ref 5 1 0 0),(17,.list 1 V),(18,vi i),(19,vints w)],[oB A,oB B,oX R1,oX R2,oX R3,oX R4,.arr n 1 3 (R.map vi)]⟩) ?_ ?_
 ·simp only [go_sem,↓reduceIte,reduceLT,reduceEqDiff,List.length_map,hn,hwn]
  refine loopX 2 (fun m z=>∃ j:Nat,m=n-j/\j<=n/\z=⟨[(20,.own 6 (R.take j).length 0 (R.take j).length),(7,.ref 0 1 0 0),(8,.ref 1 1 0 0),(9,.ref 2 1 0 0),(11,.ref 3 1 0 0),(13,.ref 4 1 0 0),(15,.ref 5 1 0 0),(17,.list 1 V),(18,vi i),(19,vints w),(21,vi ((n:Int)-1-(j:Int)))],[oB A,oB B,oX R1,oX R2,oX R3,oX R4,.arr (R.take j).length 1 3 ((R.take j).map vi)]⟩)
   (fun z=>z=⟨[(20,.own 6 n 0 n),(7,.ref 0 1 0 0),(8,.ref 1 1 0 0),(9,.ref 2 1 0 0),(11,.ref 3 1 0 0),(13,.ref 4 1 0 0),(15,.ref 5 1 0 0),(17,.list 1 V),(18,vi i),(19,vints w)],[oB A,oB B,oX R1,oX R2,oX R3,oX R4,.arr n 1 3 (R.map vi)]⟩) n
   ⟨[(20,.own 6 0 0 0),(7,.ref 0 1 0 0),(8,.ref 1 1 0 0),(9,.ref 2 1 0 0),(11,.ref 3 1 0 0),(13,.ref 4 1 0 0),(15,.ref 5 1 0 0),(17,.list 1 V),(18,vi i),(19,vints w),(21,vi ((n:Int)-1))],[oB A,oB B,oX R1,oX R2,oX R3,oX R4,.arr 0 1 3 []]⟩ (WkE.kp) ⟨0,by omega,by omega,by simp⟩ ?_ ?_
  rotate_left
  ·rintro z rfl
   simp only [go_sem,↓reduceIte]
   exact ⟨_,.refl _ _,rfl⟩
  rintro k z ⟨j,rfl,hj,rfl⟩
  by_cases hjl:j<n
  rotate_left
  ·obtain rfl:j=n:=by omega
   have gk:¬ 0<=((j:Int)-1-(j:Int)):=by omega
   rw [List.take_of_length_le (by omega),hRl]
   simp only [go_sem,↓reduceIte,reduceLT,reduceEqDiff,gk]
   exact ⟨_,WkE.kp,rfl⟩
  have gk:0<=((n:Int)-1-(j:Int)):=by omega
  have gk2:((n:Int)-1-(j:Int))<(n:Int):=by omega
  have htn:((n:Int)-1-(j:Int)).toNat=n-1-j:=by omega
  have wk:IntKind.i64.wrap ((n:Int)-1-(j:Int)-1)=(n:Int)-1-((j+1:Nat):Int):=by rw [wrap_id (by omega) (by omega)];omega
  have hRj:R[j]'(by omega)=w[n-1-j]'(by omega):=by
   simp only [<-hR,List.getElem_reverse,hn]
  have hwg:(w.map vi)[n-1-j]? = some (vi (R[j]'(by omega))):=by rw [hRj,List.getElem?_map,List.getElem?_eq_getElem (by omega)];rfl
  have htk:=List.take_succ_eq_append_getElem (l:=R) (i:=j) (by omega)
  have hTl:(R.take j).length=j:=by rw [List.length_take];omega
  generalize R[j]'(by omega)=q at hwg htk
  obtain ⟨T0,hT0⟩:∃ T,R.take j=T:=⟨_,rfl⟩
  obtain ⟨T1,hT1⟩:∃ T,R.take (j+1)=T:=⟨_,rfl⟩
  rw [hT0] at hTl ⊢
  rw [hT0,hT1] at htk
  have hT1l:T1.length=T0.length+1:=by rw [htk];simp
  have hTm:T0.map vi++[vi q]=T1.map vi:=by rw [htk,List.map_append];rfl
  have qT:(T0.length+1)*8<=140737488355328:=by omega
  simp only [go_sem,Nat.reducePow,Nat.reduceLeDiff,↓reduceIte,reduceLT,reduceEqDiff,reduceAdd,Nat.reduceMul,gk,htn,hwg,wk,qT,hTm,List.length_map]
  refine ⟨n-(j+1),⟨[(20,.own 6 T1.length 0 T1.length),(7,.ref 0 1 0 0),(8,.ref 1 1 0 0),(9,.ref 2 1 0 0),(11,.ref 3 1 0 0),(13,.ref 4 1 0 0),(15,.ref 5 1 0 0),(17,.list 1 V),(18,vi i),(19,vints w),(21,vi ((n:Int)-1-((j+1:Nat):Int)))],[oB A,oB B,oX R1,oX R2,oX R3,oX R4,.arr T1.length 1 3 (T1.map vi)]⟩,by omega,?_,j+1,rfl,by omega,by rw [hT1]⟩
  rw [hT1l]
  exact WkE.kp
 rintro _ rfl
 have hsn:∀ o0 o1 o2 o3 o4 o5:AObj,Snap [o0,o1,o2,o3,o4,o5,.arr n 1 3 (R.map vi)] (.own 6 n 0 n) (vints R):=fun o0 o1 o2 o3 o4 o5=>by
  refine .own 6 n 0 n 1 3 _ _ rfl (by simp;omega) (by simp;omega) fun q hq=>?_
  simp only [Nat.zero_add]
  exact .tree _ (List.all_eq_true.1 (isT_map (fun _=>rfl) _) _ (List.getElem_mem _))
 refine CwpE.vc ?_
 simp only [go_sem,↓reduceIte,reduceLT,reduceEqDiff,reduceAdd]
 refine callT h1 rfl ?_
 simp only [go_sem,↓reduceIte,reduceLT,reduceEqDiff]
 refine callT c1 rfl ?_
 simp only [go_sem,↓reduceIte,reduceLT,reduceEqDiff,reduceAdd]
 refine callT h2 rfl ?_
 simp only [go_sem,↓reduceIte,reduceLT,reduceEqDiff]
 refine callT c2 rfl ?_
 simp only [go_sem,↓reduceIte,reduceLT,reduceEqDiff,reduceAdd]
 refine callT c3 rfl ?_
 cases X <;> cases Y <;> simp only [go_sem,↓reduceIte,reduceLT,reduceEqDiff,reduceAdd,Bool.true_and,Bool.false_and,Bool.not_true,BEq.rfl] <;> refine callT c4 rfl ?_ <;> simp only [go_sem,↓reduceIte,reduceLT,reduceEqDiff,reduceAdd,Bool.not_true,Bool.not_false,Bool.true_beq,Bool.false_beq] <;> refine callF c5 (.cons (.tree _ rfl) (.cons (hsn _ _ _ _ _ _) .nil)) rfl ?_ <;> simp only [go_sem,↓reduceIte,reduceLT,reduceEqDiff,reduceAdd,Bool.not_true,BEq.rfl] <;> refine callT c6 rfl ?_ <;> simp only [go_sem,↓reduceIte,reduceLT,reduceEqDiff,Bool.not_true,BEq.rfl] <;> exact ⟨_,WkE.round (by simp only [go_sem,↓reduceIte,reduceEqDiff];try rfl) rfl inn rfl,rfl⟩
end Go.Proofs.Ytjilachpkjlhdaa
