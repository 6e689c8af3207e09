/- Lemmas used by all laws. -/
import Derived.Test.YtjilachpkjlhdaaJa
import Derived.Test.YtjilachpkjlhdaaJb
import Derived.Test.YtjilachpkjlhdaaJc
import Derived.Test.YtjilachpkjlhdaaJd
set_option linter.unusedSimpArgs false
set_option linter.unusedVariables false
set_option linter.unusedSectionVars false
set_option maxRecDepth 100000
namespace Go.Proofs.Ytjilachpkjlhdaa
open Dak
def c75:CCode :=
 (sR [oo 1 (.box 97 (T 0)),oo 2 (aZ 97)]
 (sR [oo 9 (ld3 1),oo 10 (cL 81 [T 9]),vv 3 10]
 (sR [oo 11 (fA 2 1),oo 12 (ld1 11),oo 13 (lN 12),oo 14 (.mkslice 22 1 24 nS (T 13) (T 13)),vv 4 14]
 (.seq (sR [oo 15 (fA 2 1),oo 16 (ld1 15),oo 17 (lN 16),oo 18 (.mov (kk 0))]
 (.block 0 (.loop
 (sR [oo 19 (iB .lss 18 17)]
 (.seq (.cond (T 19)
 .skip
 (.exit 0))
 (.seq (.block 1 (sR [vv 20 18,oo 21 (iS 1 16 18),oo 22 (ld1 21),vv 5 20,vv 6 22]
 (sR [vv 23 4,vv 24 5,vv 25 6,oo 26 (cL 47 [T 25]),oo 27 (iS 1 23 24),sS 1 27 26]
 (sR [vv 28 6,oo 29 (lN 28),oo 30 (.mov (kk 0))]
 (.block 2 (.loop
 (sR [oo 31 (iB .lss 30 29)]
 (.seq (.cond (T 31)
 .skip
 (.exit 2))
 (.seq (.block 3 (sR [vv 32 30,oo 33 (iS 1 28 30),oo 34 (ld1 33),vv 7 32,vv 8 34]
 (sR [vv 35 8,oo 36 (iK .geq 35 0),vv 37 36,vt 38 37 3,vt 39 37 8,gt 40 37 (iS 1 38 39),gt 41 37 (ld1 40),gt 42 37 (.lnot (T 41)),oo 43 (.pick (T 37) (T 42) bF)]
 (.cond (T 43)
 (rR [vv 44 4,vv 45 5,oo 46 (iS 1 44 45),oo 47 (ld1 46),vv 48 7,oo 49 (iS 1 47 48),nn (.store 1 (T 49) (kk (-1)))])
 .skip))))
 (rR [oo 50 (iK .add 30 1),vv 30 50]))))))))))
 (rR [oo 51 (iK .add 18 1),vv 18 51])))))))
 (sR [oo 52 (fA 0 1),oo 53 (ld1 52),oo 54 (fA 1 1),oo 55 (ld1 54),vv 56 4,oo 57 (.build [nI,nS,nS] [(0,(1,(T 53))),(1,(1,(T 55))),(2,(1,(T 56)))]),sS 3 2 57]
 .ret)))))
theorem f75:fnC Try.prog 75=some (c75,58,[(.cell 2 true 3)]):=by kernel_rfl
def c76:CCode :=
 (sR [oo 1 (.box 97 (T 0)),oo 2 (.mov (.const (.slice none 0 0)))]
 (sR [oo 19 (fA 2 1),oo 20 (ld1 19),oo 21 (lN 20),oo 22 (.mkslice 3 1 8 nI (T 21) (T 21)),vv 3 22]
 (.seq (sR [oo 23 (fA 1 1),oo 24 (ld1 23),oo 25 (lN 24),oo 26 (.mov (kk 0))]
 (.block 0 (.loop
 (sR [oo 27 (iB .lss 26 25)]
 (.seq (.cond (T 27)
 .skip
 (.exit 0))
 (.seq (.block 1 (sR [vv 28 26,oo 29 (iS 1 24 26),oo 30 (ld1 29),vv 4 28,vv 5 30]
 (sR [vv 31 5]
 (.cond (T 31)
 (rR [vv 32 3,vv 33 4,oo 34 (iS 1 32 33),nn (.store 1 (T 34) (kk 1))])
 .skip))))
 (rR [oo 35 (iK .add 26 1),vv 26 35])))))))
 (sR [oo 6 (.mov (kk 0))]
 (.seq (.block 2 (.loop
 (.block 3 (sR [oo 36 (.mnew 1000000001),vv 7 36]
 (sR [vv 37 3,oo 38 (lN 37),oo 39 (.mkslice 3 1 8 nI (T 38) (T 38)),vv 8 39]
 (.seq (sR [oo 40 (fA 2 1),oo 41 (ld1 40),oo 42 (lN 41),oo 43 (.mov (kk 0))]
 (.block 4 (.loop
 (sR [oo 44 (iB .lss 43 42)]
 (.seq (.cond (T 44)
 .skip
 (.exit 4))
 (.seq (.block 5 (sR [vv 45 43,oo 46 (iS 1 41 43),oo 47 (ld1 46),vv 9 45,vv 10 47]
 (.seq (.drawn [vv 48 3,vv 49 9,oo 50 (iS 1 48 49),oo 51 (ld1 50),oo 52 (.ibin .shr (T 51) (.const (.int .u64 8))),oo 53 (.conv .u8 (T 52)),vv 54 3,vv 55 9,oo 56 (iS 1 54 55),oo 57 (ld1 56),oo 58 (.conv .u8 (T 57)),oo 59 (.bslice 2000000005 1 [T 53,T 58]),vv 11 59] [])
 (.seq (sR [vv 60 10,oo 61 (lN 60),oo 62 (.mov (kk 0))]
 (.block 6 (.loop
 (sR [oo 63 (iB .lss 62 61)]
 (.seq (.cond (T 63)
 .skip
 (.exit 6))
 (.seq (.block 7 (sR [oo 64 (iS 1 60 62),oo 65 (ld1 64),vv 13 65]
 (sR [oo 14 (.mov (kk (-1)))]
 (.seq (sR [vv 66 13,oo 67 (iK .geq 66 0)]
 (.cond (T 67)
 (rR [vv 68 3,vv 69 13,oo 70 (iS 1 68 69),oo 71 (ld1 70),vv 14 71])
 .skip))
 (rR [vv 72 11,vv 73 14,oo 74 (.ibin .shr (T 73) (.const (.int .u64 8))),oo 75 (.conv .u8 (T 74)),vv 76 14,oo 77 (.conv .u8 (T 76)),oo 78 (.bslice 2000000005 1 [T 75,T 77]),oo 79 (.append 5 1 1 (T 72) (T 78)),vv 11 79])))))
 (rR [oo 80 (iK .add 62 1),vv 62 80])))))))
 (sR [vv 82 7,vv 83 11,oo 84 (.str (T 83)),oo 85 (.mget 1 true (.int .i64 0) (T 82) (T 84)),vv 81 85,oo 86 (eX 81 0),oo 87 (eX 81 1),vv 15 86,vv 16 87]
 (.seq (sR [vv 88 16,oo 89 (.lnot (T 88))]
 (.cond (T 89)
 (sR [vv 90 7,oo 91 (.mlen 1 (T 90)),vv 15 91]
 (rR [vv 92 7,vv 93 11,oo 94 (.str (T 93)),vv 95 15,nn (.mset 1 (T 92) (T 94) (T 95))]))
 .skip))
 (rR [vv 96 8,vv 97 9,vv 98 15,oo 99 (iS 1 96 97),sS 1 99 98])))))))
 (rR [oo 100 (iK .add 43 1),vv 43 100])))))))
 (.seq (sR [vv 101 7,oo 102 (.mlen 1 (T 101)),vv 103 6,oo 104 (iB .eql 102 103)]
 (.cond (T 104)
 (.exit 2)
 .skip))
 (rR [vv 105 7,oo 106 (.mlen 1 (T 105)),vv 107 8,vv 6 106,vv 3 107]))))))))
 (.seq (sR [oo 108 (ld3 1),oo 109 (cL 81 [T 108]),oo 110 (lN 109),oo 111 (.mov (kk 0))]
 (.block 8 (.loop
 (sR [oo 112 (iB .lss 111 110)]
 (.seq (.cond (T 112)
 .skip
 (.exit 8))
 (.seq (.block 9 (sR [vv 113 111,oo 114 (iS 1 109 111),oo 115 (ld1 114),vv 17 113,vv 18 115]
 (sR [vv 116 18,oo 117 (.lnot (T 116))]
 (.cond (T 117)
 (rR [vv 118 3,vv 119 17,oo 120 (iS 1 118 119),nn (.store 1 (T 120) (kk (-1)))])
 .skip))))
 (rR [oo 121 (iK .add 111 1),vv 111 121])))))))
 (sR [vv 122 3,vv 2 122]
 .ret)))))))
theorem f76:fnC Try.prog 76=some (c76,123,[(.tmp 2)]):=by kernel_rfl
def c77:CCode :=
 (sR [oo 2 (.box 26 (T 0)),oo 4 (.mov (.const (.slice none 0 0)))]
 (sR [oo 13 (ld3 2),oo 14 (cL 82 [T 13]),vv 5 14]
 (sR [oo 15 (fA 1 2),oo 16 (ld1 15),oo 17 (lN 16),oo 18 (.mkslice 3 1 8 nI (T 17) (T 17)),vv 6 18]
 (.seq (sR [oo 7 (.mov (kk 0))]
 (.block 0 (.loop
 (.seq (sR [vv 19 7,vv 20 6,oo 21 (lN 20),oo 22 (iB .lss 19 21)]
 (.cond (T 22)
 .skip
 (.exit 0)))
 (.seq (.block 1 (sR [vv 25 6,vv 26 7,oo 27 (iS 1 25 26),nn (.store 1 (T 27) (kk (-1)))]
 (sR [vv 28 5,vv 29 7,oo 30 (iS 1 28 29),oo 31 (ld1 30)]
 (.cond (T 31)
 (sR [vv 32 6,vv 33 7,oo 34 (iS 1 32 33),nn (.store 1 (T 34) (kk 0))]
 (sR [oo 35 (fA 1 2),oo 36 (ld1 35),vv 37 7,oo 38 (iS 1 36 37),oo 39 (ld1 38)]
 (.cond (T 39)
 (rR [vv 40 6,vv 41 7,oo 42 (iS 1 40 41),nn (.store 1 (T 42) (kk 1))])
 .skip)))
 .skip))))
 (rR [vv 23 7,oo 24 (iK .add 23 1),vv 7 24]))))))
 (sR [oo 8 (.mov (kk 0))]
 (.block 2 (.loop
 (.block 3 (sR [vv 43 6,oo 44 (lN 43),oo 45 (.mkslice 3 1 8 nI (T 44) (T 44)),vv 9 45]
 (sR [oo 10 (.mov (.const (.slice none 0 0)))]
 (.seq (sR [oo 11 (.mov (kk 0))]
 (.block 4 (.loop
 (.seq (sR [vv 46 11,vv 47 6,oo 48 (lN 47),oo 49 (iB .lss 46 48)]
 (.cond (T 49)
 .skip
 (.exit 4)))
 (.seq (.block 5 (sR [vv 52 9,vv 53 11,oo 54 (iS 1 52 53),nn (.store 1 (T 54) (kk (-1)))]
 (.seq (sR [vv 55 5,vv 56 11,oo 57 (iS 1 55 56),oo 58 (ld1 57),oo 59 (.lnot (T 58))]
 (.cond (T 59)
 (.exit 5)
 .skip))
 (.seq (sR [oo 12 (.mov (kk 0))]
 (.block 6 (.loop
 (.seq (sR [vv 60 12,vv 61 10,oo 62 (lN 61),oo 63 (iB .lss 60 62)]
 (.cond (T 63)
 .skip
 (.exit 6)))
 (.seq (.block 7 (sR [vv 66 6,vv 67 1,vv 68 11,vv 69 10,vv 70 12,oo 71 (iS 1 69 70),oo 72 (ld1 71),oo 73 (cL 83 [T 66,T 67,T 68,T 72])]
 (.cond (T 73)
 (rR [vv 74 9,vv 75 11,vv 76 12,oo 77 (iS 1 74 75),sS 1 77 76])
 .skip)))
 (rR [vv 64 12,oo 65 (iK .add 64 1),vv 12 65]))))))
 (sR [vv 78 9,vv 79 11,oo 80 (iS 1 78 79),oo 81 (ld1 80),oo 82 (iK .lss 81 0)]
 (.cond (T 82)
 (sR [vv 83 9,vv 84 11,vv 85 10,oo 86 (lN 85),oo 87 (iS 1 83 84),sS 1 87 86]
 (rR [vv 88 10,vv 89 11,oo 90 (.bslice 3 1 [T 89]),oo 91 (.append 3 1 8 (T 88) (T 90)),vv 10 91]))
 .skip))))))
 (rR [vv 50 11,oo 51 (iK .add 50 1),vv 11 51]))))))
 (sR [vv 92 9,vv 6 92]
 (.seq (sR [vv 93 10,oo 94 (lN 93),vv 95 8,oo 96 (iB .eql 94 95)]
 (.cond (T 96)
 (sR [vv 97 6,vv 4 97]
 .ret)
 .skip))
 (rR [vv 98 10,oo 99 (lN 98),vv 8 99]))))))))))))))
theorem f77:fnC Try.prog 77=some (c77,100,[(.tmp 4)]):=by kernel_rfl
def c80:CCode :=
 (sR [oo 4 (.mov (.const (.int .u64 0))),oo 5 (.mov (.const (.int .u64 0)))]
 (.seq (.cond bF
 (sR [vv 11 0,oo 12 (.conv .u32 (T 11)),vv 13 1,oo 14 (.conv .u32 (T 13)),oo 15 (cL 84 [T 12,T 14]),vv 10 15,oo 16 (eX 10 0),oo 17 (eX 10 1),vv 6 16,vv 7 17]
 (sR [vv 18 6,oo 19 (.conv .u64 (T 18)),vv 20 7,oo 21 (.conv .u64 (T 20)),vv 4 19,vv 5 21]
 .ret))
 .skip)
 (sR [vv 23 0,vv 24 1,oo 25 (cL 85 [T 23,T 24]),vv 22 25,oo 26 (eX 22 0),oo 27 (eX 22 1),vv 8 26,vv 9 27]
 (sR [vv 28 8,vv 29 9,vv 4 28,vv 5 29]
 .ret))))
theorem f80:fnC Try.prog 80=some (c80,30,[(.tmp 4),(.tmp 5)]):=by kernel_rfl
def c81:CCode :=
 (sR [oo 1 (.box 97 (T 0)),oo 2 (.mov (.const (.slice none 0 0)))]
 (sR [oo 7 (fA 1 1),oo 8 (ld1 7),oo 9 (cL 67 [T 8]),oo 3 (.alloc 23 nS),sS 1 3 9]
 (.seq (sR [oo 4 (.mov bT)]
 (.block 0 (.loop
 (.seq (sR [vv 10 4]
 (.cond (T 10)
 .skip
 (.exit 0)))
 (.block 1 (sR [oo 4 (.mov bF)]
 (sR [oo 11 (fA 2 1),oo 12 (ld1 11),oo 13 (lN 12),oo 14 (.mov (kk 0))]
 (.block 2 (.loop
 (sR [oo 15 (iB .lss 14 13)]
 (.seq (.cond (T 15)
 .skip
 (.exit 2))
 (.seq (.block 3 (sR [vv 16 14,oo 17 (iS 1 12 14),oo 18 (ld1 17),vv 5 16,vv 6 18]
 (sR [oo 19 (ld1 3),vv 20 5,oo 21 (iS 1 19 20),oo 22 (ld1 21),oo 23 (.lnot (T 22)),vv 24 23,vt 25 24 6,gt 26 24 (.mkfunc (.func 87) [T 3]),gt 27 24 (cL 86 [T 25,T 26]),oo 28 (.pick (T 24) (T 27) bF)]
 (.cond (T 28)
 (rR [oo 29 (ld1 3),vv 30 5,oo 31 (iS 1 29 30),nn (.store 1 (T 31) bT),oo 4 (.mov bT)])
 .skip))))
 (rR [oo 32 (iK .add 14 1),vv 14 32])))))))))))))
 (sR [oo 33 (ld1 3),vv 2 33]
 .ret))))
theorem f81:fnC Try.prog 81=some (c81,34,[(.tmp 2)]):=by kernel_rfl
def c82:CCode :=
 (sR [oo 1 (.box 26 (T 0)),oo 2 (.mov (.const (.slice none 0 0)))]
 (sR [oo 3 (.mov (.const (.slice none 0 0)))]
 (sR [vv 7 3,oo 8 (fA 1 1),oo 9 (ld1 8),oo 10 (.append 4 1 1 (T 7) (T 9)),vv 3 10]
 (.seq (sR [oo 4 (.mov bT)]
 (.block 0 (.loop
 (.seq (sR [vv 11 4]
 (.cond (T 11)
 .skip
 (.exit 0)))
 (.block 1 (sR [oo 4 (.mov bF)]
 (sR [oo 5 (.mov (kk 0))]
 (.block 2 (.loop
 (.seq (sR [vv 12 5,oo 13 (fA 2 1),oo 14 (ld1 13),oo 15 (lN 14),oo 16 (iB .lss 12 15)]
 (.cond (T 16)
 .skip
 (.exit 2)))
 (.seq (.block 3 (sR [oo 19 (fA 2 1),oo 20 (ld1 19),vv 21 5,oo 22 (iS 3 20 21),oo 23 (ld3 22),oo 6 (.alloc 71 (.agg [nI,nI,nI])),sS 3 6 23]
 (sR [vv 24 3,oo 25 (fA 2 6),oo 26 (ld1 25),oo 27 (iS 1 24 26),oo 28 (ld1 27),vv 29 28,vt 30 29 3,gt 31 29 (fA 0 6),gt 32 29 (ld1 31),gt 33 29 (iS 1 30 32),gt 34 29 (ld1 33),gt 35 29 (.lnot (T 34)),oo 36 (.pick (T 29) (T 35) bF)]
 (.cond (T 36)
 (sR [vv 37 3,oo 38 (fA 0 6),oo 39 (ld1 38),oo 40 (iS 1 37 39),nn (.store 1 (T 40) bT)]
 (rR [oo 4 (.mov bT)]))
 .skip))))
 (rR [vv 17 5,oo 18 (iK .add 17 1),vv 5 18]))))))))))))
 (sR [vv 41 3,vv 2 41]
 .ret)))))
theorem f82:fnC Try.prog 82=some (c82,42,[(.tmp 2)]):=by kernel_rfl
def c83:CCode :=
 (sR [oo 8 (.mov bF)]
 (.seq (.seq (.drawn [vv 12 0,vv 13 2,oo 14 (iS 1 12 13),oo 15 (ld1 14),vv 16 0,vv 17 3,oo 18 (iS 1 16 17),oo 19 (ld1 18),oo 20 (iB .neq 15 19)] [])
 (.cond (T 20)
 (sR [oo 8 (.mov bF)]
 .ret)
 .skip))
 (.seq (sR [oo 9 (.mov (kk 0))]
 (.block 0 (.loop
 (.seq (sR [vv 21 9,vv 22 1,vv 23 2,oo 24 (iS 1 22 23),oo 25 (ld1 24),oo 26 (lN 25),oo 27 (iB .lss 21 26)]
 (.cond (T 27)
 .skip
 (.exit 0)))
 (.seq (.block 1 (sR [oo 10 (.mov (kk (-1)))]
 (.seq (sR [vv 30 1,vv 31 2,oo 32 (iS 1 30 31),oo 33 (ld1 32),vv 34 9,oo 35 (iS 1 33 34),oo 36 (ld1 35),oo 37 (iK .geq 36 0)]
 (.cond (T 37)
 (rR [vv 38 0,vv 39 1,vv 40 2,oo 41 (iS 1 39 40),oo 42 (ld1 41),vv 43 9,oo 44 (iS 1 42 43),oo 45 (ld1 44),oo 46 (iS 1 38 45),oo 47 (ld1 46),vv 10 47])
 .skip))
 (sR [oo 11 (.mov (kk (-1)))]
 (.seq (sR [vv 48 1,vv 49 3,oo 50 (iS 1 48 49),oo 51 (ld1 50),vv 52 9,oo 53 (iS 1 51 52),oo 54 (ld1 53),oo 55 (iK .geq 54 0)]
 (.cond (T 55)
 (rR [vv 56 0,vv 57 1,vv 58 3,oo 59 (iS 1 57 58),oo 60 (ld1 59),vv 61 9,oo 62 (iS 1 60 61),oo 63 (ld1 62),oo 64 (iS 1 56 63),oo 65 (ld1 64),vv 11 65])
 .skip))
 (sR [vv 66 10,vv 67 11,oo 68 (iB .neq 66 67)]
 (.cond (T 68)
 (sR [oo 8 (.mov bF)]
 .ret)
 .skip)))))))
 (rR [vv 28 9,oo 29 (iK .add 28 1),vv 9 29]))))))
 (sR [oo 8 (.mov bT)]
 .ret))))
theorem f83:fnC Try.prog 83=some (c83,69,[(.tmp 8)]):=by kernel_rfl
def c85:CCode :=
 (sR [oo 4 (.mov (.const (.int .u64 0))),oo 5 (.mov (.const (.int .u64 0)))]
 (sR [vv 14 0,oo 15 (.ibin .and (T 14) (.const (.int .u64 4294967295))),vv 6 15]
 (sR [vv 16 0,oo 17 (.ibin .shr (T 16) (.const (.int .u64 32))),vv 7 17]
 (sR [vv 18 1,oo 19 (.ibin .and (T 18) (.const (.int .u64 4294967295))),vv 8 19]
 (sR [vv 20 1,oo 21 (.ibin .shr (T 20) (.const (.int .u64 32))),vv 9 21]
 (sR [vv 22 6,vv 23 8,oo 24 (iB .mul 22 23),vv 10 24]
 (sR [vv 25 7,vv 26 8,oo 27 (iB .mul 25 26),vv 28 10,oo 29 (.ibin .shr (T 28) (.const (.int .u64 32))),oo 30 (iB .add 27 29),vv 11 30]
 (sR [vv 31 11,oo 32 (.ibin .and (T 31) (.const (.int .u64 4294967295))),vv 12 32]
 (sR [vv 33 11,oo 34 (.ibin .shr (T 33) (.const (.int .u64 32))),vv 13 34]
 (sR [vv 35 12,vv 36 6,vv 37 9,oo 38 (iB .mul 36 37),oo 39 (iB .add 35 38),vv 12 39]
 (sR [vv 40 7,vv 41 9,oo 42 (iB .mul 40 41),vv 43 13,oo 44 (iB .add 42 43),vv 45 12,oo 46 (.ibin .shr (T 45) (.const (.int .u64 32))),oo 47 (iB .add 44 46),vv 4 47]
 (sR [vv 48 0,vv 49 1,oo 50 (iB .mul 48 49),vv 5 50]
 .ret))))))))))))
theorem f85:fnC Try.prog 85=some (c85,51,[(.tmp 4),(.tmp 5)]):=by kernel_rfl
def c86:CCode :=
 (sR [oo 4 (.mov bF)]
 (sR [vv 5 0,vv 6 1,oo 7 (cL 88 [T 5,T 6]),oo 8 (iK .geq 7 0),vv 4 8]
 .ret))
theorem f86:fnC Try.prog 86=some (c86,9,[(.tmp 4)]):=by kernel_rfl
def c87:CCode :=
 (sR [oo 3 (.mov bF)]
 (sR [vv 4 0,oo 5 (iK .geq 4 0),vv 6 5,gt 7 6 (ld1 1),vt 8 6 0,gt 9 6 (iS 1 7 8),gt 10 6 (ld1 9),oo 11 (.pick (T 6) (T 10) bF),vv 3 11]
 .ret))
theorem f87:fnC Try.prog 87=some (c87,12,[(.tmp 3)]):=by kernel_rfl
def c88:CCode :=
 (sR [oo 4 (.mov (kk 0))]
 (.seq (sR [vv 6 0,oo 7 (lN 6),oo 8 (.mov (kk 0))]
 (.block 0 (.loop
 (sR [oo 9 (iB .lss 8 7)]
 (.seq (.cond (T 9)
 .skip
 (.exit 0))
 (.seq (.block 1 (sR [vv 10 8,vv 5 10]
 (sR [vv 11 1,vv 12 0,vv 13 5,oo 14 (iS 1 12 13),oo 15 (ld1 14),oo 16 (.call (T 11) [T 15])]
 (.cond (T 16)
 (sR [vv 17 5,vv 4 17]
 .ret)
 .skip))))
 (rR [oo 18 (iK .add 8 1),vv 8 18])))))))
 (sR [oo 4 (.mov (kk (-1)))]
 .ret)))
theorem f88:fnC Try.prog 88=some (c88,19,[(.tmp 4)]):=by kernel_rfl
end Go.Proofs.Ytjilachpkjlhdaa
namespace Dak
open Go Go.RowKit
variable [Globs]
def AgreeR (σ : Nat->Nat) (base:List AObj) (env:List (Nat × AV)):List (Nat × AV)->Prop
 | []=>True
 | (k,v)::r=>lk env k=v.ren σ/\v.inR base=true/\AgreeR σ base env r
theorem agreeR_lk {σ : Nat->Nat} {base:List AObj} {env:List (Nat × AV)}:∀ {env':List (Nat × AV)},AgreeR σ base env env'->∀ t,lk env' t = .junk \/ (lk env t=(lk env' t).ren σ/\(lk env' t).inR base=true)
 | [],_,t=>.inl rfl
 | (k,v)::r,h,t=>by
  simp only [lk]
  split
  ·rename_i e;subst e;exact .inr ⟨h.1,h.2.1⟩
  ·exact agreeR_lk h.2.2 t
theorem ren_junk {σ : Nat->Nat} {x:AV} (h:x.ren σ = .junk):x = .junk:=by
 cases x <;> simp_all [AV.ren,AV.ren1]
theorem WkE.rename {n:Nat} {env env':List (Nat × AV)} {objs base:List AObj} (σ : Nat->Nat) (hR:Ren σ base objs) (hi:(base.all fun o=>o.inRO base)=true) (h:AgreeR σ base env env'):WkE n ⟨env,objs⟩ ⟨env',base⟩:=by
 intro hk
 refine ⟨fun t ht=>?_,fun F0 w0 a w hs=>?_⟩
 ·rcases agreeR_lk h t with e | ⟨e,_⟩
  ·exact e
  ·have:=hk t ht
   rw [show lk env t = .junk from this] at e
   exact ren_junk e.symm
 obtain ⟨hd,L,g,hsz,ht⟩:=sim_slots hk hs
 have g':=ren_in hR g hi
 refine sim_mk (s:=⟨env',base⟩) (L:=L.back σ base) hd ⟨g'.obj,g'.out,g'.inj,fun i b o m hb=>?_,g.old,g.ext,g.gl⟩ hsz fun t hlt=>?_
 ·have hb:(if isArr base i then L.blk (σ i) else none)=some (b,o,m):=hb
  split at hb
  ·exact g.own _ _ _ _ hb
  ·cases hb
 ·rcases agreeR_lk h t with e | ⟨e,e2⟩
  ·rw [e];exact .junk _
  ·have:=ht t hlt
   simp only at this
   rw [e] at this
   exact unren_vr hR this e2
end Dak
namespace Dak
open Go Go.RowKit
variable [Globs]
variable {P : Program} {F0 : FD} {w0 w : World} {L : Lay} {objs objs0 : List AObj} {nid n : Nat}
theorem bsliceO_ok (g:Good F0 w0 w L objs) {t e:TypeId} (hem:e<mapT) {size:Nat} {parts:List (Nat × Operand)} {ev:Operand->AV} {ρ : Operand->Value}
 (ht:P.underlying t=some (.slice e)) (hs:tsize P e=some size) (hpos:0<size) (hz:∃ z,(P.info? e).bind (·.zero)=some z) (hp:parts.map (·.1)=List.range parts.length)
 (he:∀ x,VR w L objs (ev x) (ρ x)) (hk:∀ x ∈ parts.map (·.2),Known objs (ev x)) (hv:objs[nid]? = some .void)
 (hall:((parts.map (·.2)).all fun x=>(ev x).fits && (ev x).cells.length == size)=true) (hsz:parts.length*size<=2 ^ 24) :
 Does P (do pure (.value (<-Instr.buildSlice t parts.length (parts.map fun p=>(p.1,ρ p.2)).toArray))) F0 w0 w L objs nid (.own nid parts.length 0 parts.length) (some (.arr parts.length size e ((parts.map (·.2)).map ev))):=by
 have hm:parts.length<=maxLen:=by have:=Nat.le_mul_of_pos_right parts.length hpos;unfold maxLen;omega
 rw [List.all_eq_true] at hall
 have hcs:∀ v ∈ (parts.map fun p=>ρ p.2),v.cells.size=size:=by
  intro v hv
  obtain ⟨p,hp,rfl⟩:=List.mem_map.1 hv
  have h1:=hall p.2 (List.mem_map.2 ⟨p,hp,rfl⟩)
  simp only [Bool.and_eq_true,beq_iff_eq] at h1
  rw [(fits_CR (he p.2) h1.1 (hk _ (List.mem_map.2 ⟨p,hp,rfl⟩))).1];exact h1.2
 obtain ⟨z,hz⟩:=hz
 have hinfo:∃ i,P.info? e=some i/\i.zero=some z:=by
  cases hi:P.info? e with
  | none=>rw [hi] at hz;cases hz
  | some i=>rw [hi] at hz;exact ⟨i,rfl,hz⟩
 obtain ⟨i,hi,hiz⟩:=hinfo
 have key:∀ zc:Array Value,∃ us:Array Value,Instr.fill (fun i=>some (i*size,size)) ((Array.range (parts.length*size)).map (zc[· % zc.size]!)) (parts.map fun p=>(p.1,ρ p.2))=some us/\us.size=parts.length*size /\
  ∀ i v,(parts.map fun p=>ρ p.2)[i]? = some v->∀ j,j<size->us[i*size+j]? = v.cells[j]?:=by
  intro zc
  have e:=zipIdx_range ρ parts 0 (by rw [hp,List.range_eq_range'])
  rw [e]
  obtain ⟨us,h1,h2,_,h4⟩:=fill_row size (parts.map fun p=>ρ p.2) 0 ((Array.range (parts.length*size)).map (zc[· % zc.size]!)) hcs (by simp)
  exact ⟨us,h1,by rw [h2];simp,fun i v hv j hj=>by have:=h4 i v hv j hj;rwa [Nat.zero_add] at this⟩
 have hrun:∃ us:Array Value,(Instr.buildSlice t parts.length (parts.map fun p=>(p.1,ρ p.2)).toArray).run P w = .ok (.slice (some ⟨w.heap.size,0,none⟩) parts.length parts.length) (w.alloc (.cells us e))/\us.size=parts.length*size /\
  ∀ i v,(parts.map fun p=>ρ p.2)[i]? = some v->∀ j,j<size->us[i*size+j]? = v.cells[j]?:=by
  have n1:¬ (parts.length*size > 2 ^ 24):=by omega
  have hzv:(zeroValue e).run P w = .ok z w:=by simp [zeroValue,typeInfo,hi,hiz]
  by_cases h0:parts.length*size=0
  ·obtain ⟨us,h1,h2,h3⟩:=key #[]
   refine ⟨us,?_,h2,h3⟩
   have e0:∀ f:Nat->Value,(Array.range (parts.length*size)).map f=#[]:=by intro f;rw [h0];simp
   rw [e0] at h1
   simp only [Instr.buildSlice,Sem.run_bind,run_underlying ht,Result.andThen_ok,run_sizeOf hs,Sem.run_ite,if_neg n1,if_pos h0,Sem.run_pure,e0,h1,newRow,run_newObj]
   rfl
  ·obtain ⟨us,h1,h2,h3⟩:=key z.cells
   refine ⟨us,?_,h2,h3⟩
   simp only [Instr.buildSlice,Sem.run_bind,run_underlying ht,Result.andThen_ok,run_sizeOf hs,Sem.run_ite,if_neg n1,if_neg h0,Sem.run_pure,hzv,h1,newRow,run_newObj]
   rfl
 obtain ⟨us,hrun,hus,hcell⟩:=hrun
 have hrow:Row w L objs us 0 size (parts.map fun p=>ev p.2):=by
  refine row_of (vs:=parts.map fun p=>ρ p.2) (by simp) (by simp [hus]) (fun i x hx=>?_) hcell
  rw [List.getElem?_map,Option.map_eq_some_iff] at hx
  obtain ⟨p,hp,rfl⟩:=hx
  have hm:=List.mem_of_getElem? hp
  have h1:=hall p.2 (List.mem_map.2 ⟨p,hm,rfl⟩)
  simp only [Bool.and_eq_true,beq_iff_eq] at h1
  exact ⟨ρ p.2,by rw [List.getElem?_map,hp];rfl,h1.2,fits_CR (he p.2) h1.1 (hk _ (List.mem_map.2 ⟨p,hm,rfl⟩))⟩
 have hid:=(List.getElem?_eq_some_iff.1 hv).1
 simp only [List.map_map] at *
 refine ⟨.slice (some ⟨w.heap.size,0,none⟩) parts.length parts.length,_,_,by simp [hrun],g.new (gen:=parts.length) (elem:=e) hv us hem hrow,.new hv _ _,?_⟩
 have:=VR.ownL (w:=w.alloc (.cells us e)) (L:=L.put nid (some (w.heap.size,0,us.size))) (objs:=objs.set nid (.arr parts.length size e (parts.map fun p=>ev p.2))) nid parts.length 0 parts.length parts.length size w.heap.size 0 us.size
  (live_self hid) (by simp [Lay.put]) (Nat.le_refl _) hm (by simp [hus])
 simpa [putO,Function.comp_def] using this
theorem bsliceO1_ok {o:Oper} {e:TypeId} {size:Nat} {ps:List Operand} (hlt:e<2000000000) (hc:comp1 P o=some (.bslice e size ps)) (g:Good F0 w0 w L objs) {ev:Operand->AV} {ρ : Operand->Value} (he:∀ x,VR w L objs (ev x) (ρ x)) (hv:objs[nid]? = some .void)
 (hkn:∀ x ∈ ps,Known objs (ev x)) (hall:(ps.all fun x=>(ev x).fits && (ev x).cells.length == size)=true) (hsz:ps.length*size<=2 ^ 24) :
 Does P (execOp ρ o) F0 w0 w L objs nid (.own nid ps.length 0 ps.length) (some (.arr ps.length size e (ps.map ev))):=by
 obtain ⟨dst,op,type,pos,after,guard⟩:=o
 have key:∃ t len parts,op = .buildSlice t len parts:=by
  cases op with
  | buildSlice t len parts=>exact ⟨t,len,parts,rfl⟩
  | call c =>
   exfalso
   obtain ⟨callee,args,argTypes⟩:=c
   simp only [comp1] at hc
   repeat' (split at hc)
   all_goals first | (cases hc;done) | (simp at hc;done) | skip
  | unOp op _ _=>exfalso;cases op <;> simp [comp1] at hc
  | slice _ _ _ hi m=>exfalso;cases m <;> cases hi <;> simp only [comp1] at hc <;> (repeat' (split at hc)) <;> simp at hc
  | build t parts =>
   exfalso
   simp only [comp1] at hc
   repeat' (split at hc)
   all_goals first | (cases hc;done) | (simp [Option.bind_eq_some_iff,Option.map_eq_some_iff] at hc;done)
  | makeMap t rs=>exfalso;cases rs <;> simp only [comp1] at hc <;> (repeat' (split at hc)) <;> simp at hc
  | _=>exfalso;first | (simp [comp1] at hc;done) | (simp only [comp1] at hc;(repeat' (split at hc)) <;> simp at hc)
 obtain ⟨t,len,parts,rfl⟩:=key
 simp only [comp1] at hc
 split at hc
 ·rename_i e' hu
  split at hc
  ·rename_i z size' _ hi
   simp only [Option.ite_none_right_eq_some,Option.some.injEq,COp.bslice.injEq] at hc
   obtain ⟨⟨hp,hps,hem⟩,rfl,rfl,rfl⟩:=hc
   rw [litE_lt hlt] at *
   unfold tinfo at hi
   obtain ⟨i,hi1,hi2⟩:=Option.map_eq_some_iff.1 hi
   simp only [Prod.mk.injEq] at hi2
   have hlen:len=parts.toList.length:=by
    have:=congrArg List.length hps;simpa using this.symm
   subst hlen
   have:=bsliceO_ok (P:=P) g hem hu (by simp [tsize,hi1,hi2.2.1]) hp ⟨z,by simp [hi1,hi2.1]⟩ hps he (fun x hx=>hkn x hx) hv hall (by simpa using hsz)
   have e:(List.map (fun p=>(p.1,ρ p.2)) parts.toList).toArray=parts.map fun x=>(x.1,ρ x.2):=by apply Array.ext';simp
   rw [e] at this
   simpa [execOp] using this
  ·cases hc
 ·cases hc
theorem step_bsliceO {o:Oper} {e:TypeId} {size:Nat} {ps:List Operand} (hlt:e<2000000000) (hc:comp1 P o=some (.bslice e size ps)) {K:St->Prop} {st:St} {a:Act} {w:World} (hsim:Sim F0 w0 st a w)
 (hall:(ps.all fun x=>(St.ev st.tmps x).fits && (St.ev st.tmps x).cells.length == size && (St.ev st.tmps x).isT)=true) (hsz:ps.length*size<=2 ^ 24)
 (h:K ⟨St.put st.tmps o.dst (.own st.objs.length ps.length 0 ps.length),st.objs++[.arr ps.length size e (ps.map (St.ev st.tmps))]⟩)
 {next:Act->World->Prop} {Q:Exit->Act->World->Prop} (hn:∀ st' a' w',K st'->Sim F0 w0 st' a' w'->next a' w'):o.wp P a w next Q:=by
 obtain ⟨hd,L,g,hs,ht⟩:=hsim
 have he:=ev_ok (objs:=st.objs) g.gl hs ht
 obtain ⟨gv,hlv⟩:=good_void g
 have hv:(st.objs++[AObj.void])[st.objs.length]? = some .void:=by simp
 rw [List.all_eq_true] at hall
 have hall':(ps.all fun x=>(St.ev st.tmps x).fits && (St.ev st.tmps x).cells.length == size)=true:=List.all_eq_true.2 fun x hx=>(Bool.and_eq_true_iff.1 (hall x hx)).1
 have hkn:∀ x ∈ ps,Known (st.objs++[AObj.void]) (St.ev st.tmps x):=by
  intro x hx id gg hk
  have hT:=(Bool.and_eq_true_iff.1 (hall x hx)).2
  rcases hk with ⟨o,l,e⟩ | ⟨e',c,e⟩ <;> rw [e] at hT <;> cases hT
 obtain ⟨v,w',L',hr,hg,hl,hvr⟩:=bsliceO1_ok (P:=P) (nid:=st.objs.length) hlt hc gv (fun x=>(he x).stay hlv) hv hkn hall' hsz
 simp only [putO,set_void] at hg hl hvr
 unfold Oper.wp
 rw [hr,Oper.upon_value]
 exact hn _ _ _ h (sim_put hd hs ht hg (hlv.trans hl) o.dst hvr)
theorem CwpE.regionB (k:Nat) {d:Nat} {e:TypeId} {size:Nat} {ps:List Operand} {cs:List COper} {Q:Exit->Est->Prop} {s:Est} (hd:d<n)
 (hall:(ps.all fun x=>(evE s.env x).fits && (evE s.env x).cells.length == size && (evE s.env x).isT)=true) (hsz:ps.length*size<=2 ^ 24)
 (h:RopsE P n (cs.take k) (fun s1=>∃ s2,WkE n s1 s2/\RopsE P n (cs.drop k) (Q .normal) s2) ⟨putE s.env (some d) (.own s.objs.length ps.length 0 ps.length),s.objs++[.arr ps.length size e (ps.map (evE s.env))]⟩) (hlt:e<2000000000:=by decide) :
 CwpE P F0 w0 n (.region (⟨some d,none,.bslice e size ps⟩::cs)) Q s:=by
 intro hk F1 w1 m r rn code hc hro a w hs
 cases code with
 | region id ops dr =>
  cases dr with
  | false =>
   simp only [compC,Option.map_eq_some_iff,CCode.region.injEq] at hc
   obtain ⟨cs',hcs,hcs2⟩:=hc
   refine wpIn_mono (wpIn_region (ops_in (calm_of hcs) lift_in _ _ _ ?_)) (Q:=Lift F1 w1 fun e st=>e = .normal/\LiftE n (Q .normal) st) ?_
   ·rw [hcs2] at hcs
    cases hl:ops.toList with
    | nil=>rw [hl] at hcs;simp at hcs
    | cons o l =>
     rw [hl] at hcs
     simp only [List.mapM_cons,Option.bind_eq_bind,Option.bind_eq_some_iff,Option.pure_def,Option.some.injEq,List.cons.injEq] at hcs
     obtain ⟨c,hc,cs1,hcs1,rfl,rfl⟩:=hcs
     simp only [compO,Option.bind_eq_some_iff] at hc
     obtain ⟨op,hop,hc⟩:=hc
     have hg:o.guard=none:=by
      cases hg:o.guard with
      | none=>rfl
      | some q =>
       obtain ⟨j,want⟩:=q
       rw [hg] at hc
       simp only [Option.map_eq_some_iff,COper.mk.injEq] at hc
       obtain ⟨t,_,_,h2,_⟩:=hc
       cases h2
     rw [hg] at hc
     simp only [Option.some.injEq,COper.mk.injEq,true_and] at hc
     obtain ⟨hdst,rfl⟩:=hc
     have hcomp:comp1 P o=some (.bslice e size ps):=by
      rcases compB_cases hop with h | h
      ·exact h
      ·cases h
     have hsz':ops.size=l.length+1:=by rw [<-Array.length_toList,hl];rfl
     have h0:ops[0]? = some o:=by rw [<-Array.getElem?_toList,hl];rfl
     rw [hsz',List.range_eq_range',List.range'_succ]
     simp only [wpOps,h0]
     have hw:Region.wanted o (yielded ops a.tmps)=true:=by unfold Region.wanted;rw [hg]
     rw [hw,if_pos rfl]
     refine .inl (step_bsliceO (P:=P) (K:=fun st=>st=Est.toSt n ⟨putE s.env (some d) (.own s.objs.length ps.length 0 ps.length),s.objs++[.arr ps.length size e (ps.map (evE s.env))]⟩) hlt hcomp hs ?_ hsz ?_ ?_)
     ·simp only [Est.toSt,ev_toT hk];exact hall
     ·rw [hdst]
      simp only [Est.toSt,ev_toT hk]
      rw [put_toT (show okD n (some d) from hd)]
     ·rintro st' a' w' rfl hs'
      have hk':KeysOk n (putE s.env (some d) (.own s.objs.length ps.length 0 ps.length)):=keys_put hk (show okD n (some d) from hd) _
      have:=rops_ok2 (F0:=F1) (w0:=w1) (K:=LiftE n (Q .normal)) ops (cs1.drop k) l (cs1.take k) 1 (fun j=>by
       rw [<-Array.getElem?_toList,hl,Nat.add_comm];rfl) (by rw [List.take_append_drop];exact hcs1) _ a' w' hs' ?_
      ·exact this
      ·have h1:=ropsE_ok (P:=P) (cs1.take k) _ hk' h
       refine vc_mono (F0:=F0) (w0:=w0) (.region (cs1.take k)) (Q:=fun _=>LiftE n (fun s1=>∃ s2,WkE n s1 s2/\RopsE P n (cs1.drop k) (Q .normal) s2)) (Q':=fun _ st1=>∃ st2,Wk st1 st2/\Rops P (cs1.drop k) (LiftE n (Q .normal)) st2) _ ?_ h1
       rintro _ st ⟨s1,⟨s2,hwk,h2⟩,hk1,rfl⟩
       exact ⟨s2.toSt n,(hwk hk1).2,ropsE_ok _ _ (hwk hk1).1 h2⟩
   ·rintro e a' w' ⟨st',⟨rfl,hq⟩,hs'⟩;exact .mk hq hs'
  | true=>rcases compC_reg hc with ⟨h,_⟩ | ⟨_,_,h⟩ | ⟨_,_,_,h⟩ <;> cases h
 | _=>simp [compC,Option.bind_eq_some_iff] at hc
end Dak
namespace P5
abbrev bt (s:List Bool) (i:Nat):Bool:=s.getD i false
theorem bt_lt {s:List Bool} {i:Nat} (h:bt s i=true):i<s.length:=by
 by_cases hi:i<s.length
 ·exact hi
 ·rw [bt,List.getD_eq_getElem?_getD,List.getElem?_eq_none (by omega)] at h;cases h
theorem bt_ext {s t:List Bool} (hl:s.length=t.length) (h:∀ i,i<s.length->(bt s i=true ↔ bt t i=true)):s=t:=by
 apply List.ext_getElem hl
 intro i h1 h2
 have:=h i h1
 rw [bt,bt,List.getD_eq_getElem?_getD,List.getD_eq_getElem?_getD,List.getElem?_eq_getElem h1,List.getElem?_eq_getElem h2,Option.getD_some,Option.getD_some] at this
 cases e1:s[i] <;> cases e2:t[i] <;> simp_all
theorem bt_map {n:Nat} {f:Nat->Bool} {j:Nat}:bt ((List.range n).map f) j=(decide (j<n) && f j):=by
 rw [bt,List.getD_eq_getElem?_getD,List.getElem?_map]
 by_cases h:j<n
 ·simp [h]
 ·simp [h]
def stepS (n:Nat) (r:Nat->Nat->Bool) (s:List Bool):List Bool:=(List.range n).map fun j=>bt s j || (List.range n).any fun i=>bt s i && r i j
def iterS (n:Nat) (r:Nat->Nat->Bool):Nat->List Bool->List Bool
 | 0,s=>s
 | k+1,s=>iterS n r k (stepS n r s)
def cl (n:Nat) (r:Nat->Nat->Bool) (s:List Bool):List Bool:=iterS n r (n+1) s
structure IsCl (n:Nat) (r:Nat->Nat->Bool) (s t:List Bool):Prop where
 len:t.length=n
 sub:∀ i,bt s i=true->bt t i=true
 clo:∀ i j,bt t i=true->r i j=true->j<n->bt t j=true
 least:∀ P:Nat->Prop,(∀ i,bt s i=true->P i)->(∀ i j,P i->r i j=true->i<n->j<n->P j)->∀ j,bt t j=true->P j
theorem IsCl.uniq {n:Nat} {r:Nat->Nat->Bool} {s t u:List Bool} (h:IsCl n r s t) (k:IsCl n r s u):t=u:=by
 refine bt_ext (by rw [h.len,k.len]) fun j _=>⟨fun hj=>?_,fun hj=>?_⟩
 ·exact h.least (fun j=>bt u j=true) k.sub (fun i j hi hr _ hjn=>k.clo i j hi hr hjn) j hj
 ·exact k.least (fun j=>bt t j=true) h.sub (fun i j hi hr _ hjn=>h.clo i j hi hr hjn) j hj
def cnt (s:List Bool):Nat:=(s.filter id).length
theorem cnt_le (s:List Bool):cnt s<=s.length:=List.length_filter_le _ _
theorem stepS_len (n:Nat) (r:Nat->Nat->Bool) (s:List Bool):(stepS n r s).length=n:=by simp [stepS]
theorem stepS_bt {n:Nat} {r:Nat->Nat->Bool} {s:List Bool} {j:Nat}:bt (stepS n r s) j=true ↔ j<n/\(bt s j=true \/ ∃ i,i<n/\bt s i=true/\r i j=true):=by
 rw [stepS,bt_map]
 simp [List.any_eq_true]
theorem cnt_mono:∀ (s t:List Bool),s.length=t.length->(∀ i,bt s i=true->bt t i=true)->cnt s<=cnt t/\(cnt s=cnt t->s=t)
 | [],[],_,_=>⟨Nat.le_refl _,fun _=>rfl⟩
 | a::s,b::t,hl,h=>by
  have ih:=cnt_mono s t (by simpa using hl) (fun i hi=>h (i+1) hi)
  have h0:=h 0
  simp only [bt,List.getD_cons_zero] at h0
  unfold cnt at *
  cases a <;> cases b <;> simp_all <;> omega
theorem iterS_fix {n:Nat} {r:Nat->Nat->Bool} {s:List Bool} (h:stepS n r s=s):∀ k,iterS n r k s=s
 | 0=>rfl
 | k+1=>by rw [iterS,h];exact iterS_fix h k
theorem iterS_stable {n:Nat} {r:Nat->Nat->Bool}:∀ (k:Nat) (s:List Bool),s.length=n->n-cnt s<k->stepS n r (iterS n r k s)=iterS n r k s
 | 0,_,_,h=>absurd h (Nat.not_lt_zero _)
 | k+1,s,hl,h=>by
  by_cases e:stepS n r s=s
  ·rw [iterS,e,iterS_fix e,e]
  ·rw [iterS]
   have hm:=cnt_mono s (stepS n r s) (by rw [hl,stepS_len]) (fun i hi=>stepS_bt.2 ⟨by have:=bt_lt hi;omega,.inl hi⟩)
   have h1:cnt s<cnt (stepS n r s):=Nat.lt_of_le_of_ne hm.1 (fun e'=>e (hm.2 e').symm)
   have h2:=cnt_le (stepS n r s)
   rw [stepS_len] at h2
   exact iterS_stable k _ (stepS_len _ _ _) (by omega)
theorem iterS_len {n:Nat} {r:Nat->Nat->Bool}:∀ (k:Nat) (s:List Bool),s.length=n->(iterS n r k s).length=n
 | 0,_,h=>h
 | k+1,_,_=>iterS_len k _ (stepS_len _ _ _)
theorem iterS_sub {n:Nat} {r:Nat->Nat->Bool}:∀ (k:Nat) (s:List Bool),s.length=n->∀ i,bt s i=true->bt (iterS n r k s) i=true
 | 0,_,_,_,h=>h
 | k+1,s,hl,i,h=>iterS_sub k _ (stepS_len _ _ _) i (stepS_bt.2 ⟨by have:=bt_lt h;omega,.inl h⟩)
theorem iterS_least {n:Nat} {r:Nat->Nat->Bool} (P:Nat->Prop) (hc:∀ i j,P i->r i j=true->i<n->j<n->P j):∀ (k:Nat) (s:List Bool),(∀ i,bt s i=true->P i)->∀ j,bt (iterS n r k s) j=true->P j
 | 0,_,h,j,hj=>h j hj
 | k+1,s,h,j,hj=>by
  refine iterS_least P hc k _ (fun i hi=>?_) j hj
  obtain ⟨h1,h2 | ⟨m,h3,h4,h5⟩⟩:=stepS_bt.1 hi
  ·exact h i h2
  ·exact hc m i (h m h4) h5 h3 h1
theorem cl_is {n:Nat} {r:Nat->Nat->Bool} {s:List Bool} (hl:s.length=n):IsCl n r s (cl n r s):=by
 refine ⟨iterS_len _ _ hl,iterS_sub _ _ hl,fun i j hi hr hj=>?_,fun P h0 hc=>iterS_least P hc _ _ h0⟩
 have hst:=iterS_stable (r:=r) (n+1) s hl (by omega)
 have hil:i<n:=by have:=bt_lt hi;rwa [cl,iterS_len _ _ hl] at this
 unfold cl at *
 rw [<-hst]
 exact stepS_bt.2 ⟨hj,.inr ⟨i,hil,hi,hr⟩⟩
theorem cl_len {n:Nat} {r:Nat->Nat->Bool} {s:List Bool} (hl:s.length=n):(cl n r s).length=n:=(cl_is hl).len
def orS (s t:List Bool):List Bool:=(List.range (max s.length t.length)).map fun i=>bt s i || bt t i
theorem orS_bt {s t:List Bool} {i:Nat}:bt (orS s t) i=true ↔ bt s i=true \/ bt t i=true:=by
 rw [orS,bt_map]
 simp only [Bool.and_eq_true,decide_eq_true_eq,Bool.or_eq_true]
 refine ⟨fun h=>h.2,fun h=>⟨?_,h⟩⟩
 rcases h with h | h <;> have:=bt_lt h <;> omega
theorem orS_len {s t:List Bool}:(orS s t).length=max s.length t.length:=by simp [orS]
def noneS (n:Nat):List Bool:=List.replicate n false
def oneS (n k:Nat):List Bool:=(List.range n).map fun i=>decide (i=k)
theorem oneS_bt {n k i:Nat}:bt (oneS n k) i=true ↔ i<n/\i=k:=by
 rw [oneS,bt_map];simp
theorem noneS_bt {n i:Nat}:bt (noneS n) i=false:=by
 rw [noneS,bt,List.getD_eq_getElem?_getD,List.getElem?_replicate];split <;> rfl
theorem cl_one {n:Nat} {r:Nat->Nat->Bool} {s:List Bool} (hl:s.length=n) (j:Nat):bt (cl n r s) j=true ↔ ∃ k,bt s k=true/\bt (cl n r (oneS n k)) j=true:=by
 have h1:∀ k,(oneS n k).length=n:=fun k=>by simp [oneS]
 constructor
 ·refine (cl_is hl).least (fun j=>∃ k,bt s k=true/\bt (cl n r (oneS n k)) j=true) (fun i hi=>⟨i,hi,(cl_is (h1 i)).sub i (oneS_bt.2 ⟨by have:=bt_lt hi;omega,rfl⟩)⟩) (fun i j ⟨k,hk,hki⟩ hr _ hj=>⟨k,hk,(cl_is (h1 k)).clo i j hki hr hj⟩) j
 ·rintro ⟨k,hk,hj⟩
  refine (cl_is (h1 k)).least (fun j=>bt (cl n r s) j=true) (fun i hi=>?_) (fun i j hi hr _ hj=>(cl_is hl).clo i j hi hr hj) j hj
  obtain ⟨_,rfl⟩:=oneS_bt.1 hi
  exact (cl_is hl).sub _ hk
section
variable {K : Type} [DecidableEq K]
def posF:List K->K->Nat
 | [],_=>0
 | k::l,t=>if k=t then 0 else posF l t+1
theorem posF_le:∀ (l:List K) (t:K),posF l t<=l.length
 | [],_=>Nat.le_refl _
 | k::l,t=>by
  rw [posF];split
  ·exact Nat.zero_le _
  ·have:=posF_le l t;simp only [List.length_cons];omega
theorem posF_lt {l:List K} {t:K} (h:t ∈ l):posF l t<l.length:=by
 induction l with
 | nil=>simp at h
 | cons k l ih =>
  rw [posF];split
  ·simp
  ·rename_i hne
   have:=ih (by rcases List.mem_cons.1 h with e | e;exact absurd e.symm hne;exact e)
   simp only [List.length_cons];omega
theorem posF_get:∀ {l:List K} {t:K} (h:posF l t<l.length),l[posF l t]=t
 | [],_,h=>by simp [posF] at h
 | k::l,t,h=>by
  by_cases e:k=t
  ·simp [posF,e]
  ·have h2:posF (k::l) t=posF l t+1:=by rw [posF,if_neg e]
   simp only [h2,List.getElem_cons_succ]
   exact posF_get _
theorem posF_mem {l:List K} {t:K}:posF l t<l.length ↔ t ∈ l:=⟨fun h=>by rw [<-posF_get h];exact List.getElem_mem _,posF_lt⟩
theorem posF_app_left {l m:List K} {t:K} (h:t ∈ l):posF (l++m) t=posF l t:=by
 induction l with
 | nil=>simp at h
 | cons k l ih =>
  rw [List.cons_append,posF,posF]
  split
  ·rfl
  ·rename_i hne
   rw [ih (by rcases List.mem_cons.1 h with e | e;exact absurd e.symm hne;exact e)]
theorem posF_new {l:List K} {t:K} (h:t ∉ l):posF l t=l.length:=by
 have:=posF_le l t
 have h2:¬ posF l t<l.length:=fun h'=>h (posF_mem.1 h')
 omega
theorem posF_snoc {l:List K} {t:K} (h:t ∉ l):posF (l++[t]) t=l.length:=by
 induction l with
 | nil=>simp [posF]
 | cons k l ih =>
  rw [List.cons_append,posF,if_neg (fun e=>h (by simp [e])),ih (fun e=>h (by simp [e]))];rfl
theorem posF_inj {l:List K} {s t:K} (hs:s ∈ l) (h:posF l s=posF l t):s=t:=by
 have h1:=posF_lt hs
 have h2:posF l t<l.length:=by rw [<-h];exact h1
 rw [<-posF_get h1,<-posF_get h2]
 simp only [h]
theorem posF_nodup {l:List K} (hn:l.Nodup) (i:Nat) (hi:i<l.length):posF l l[i]=i:=by
 have h1:=posF_lt (List.getElem_mem hi)
 have h2:=posF_get h1
 rw [List.Nodup,List.pairwise_iff_getElem] at hn
 rcases Nat.lt_trichotomy (posF l l[i]) i with h | h | h
 ·exact absurd h2 (hn _ _ h1 hi h)
 ·exact h
 ·exact absurd h2.symm (hn _ _ hi h1 h)
def addK (l:List K) (t:K):List K:=if posF l t<l.length then l else l++[t]
theorem addK_mem (l:List K) (t:K):t ∈ addK l t:=by
 unfold addK;split
 ·rename_i h;exact posF_mem.1 h
 ·simp
theorem addK_pre (l:List K) (t:K):l <+: addK l t:=by
 unfold addK;split
 ·exact List.prefix_rfl
 ·exact List.prefix_append _ _
theorem addK_nodup {l:List K} {t:K} (h:l.Nodup):(addK l t).Nodup:=by
 unfold addK;split
 ·exact h
 ·rename_i hn
  rw [List.nodup_append]
  refine ⟨h,by simp,fun a ha b hb=>?_⟩
  rw [List.mem_singleton] at hb
  subst hb
  rintro rfl
  exact hn (posF_mem.2 ha)
def rowGo (next:Nat->Option K):List Nat->List K->List Int × List K
 | [],l=>([],l)
 | x::xs,l=>match next x with
  | none=>((-1)::(rowGo next xs l).1,(rowGo next xs l).2)
  | some t=>((posF l t:Int)::(rowGo next xs (addK l t)).1,(rowGo next xs (addK l t)).2)
theorem rowGo_len (next:Nat->Option K):∀ (xs:List Nat) (l:List K),(rowGo next xs l).1.length=xs.length
 | [],_=>rfl
 | x::xs,l=>by
  rw [rowGo]
  cases next x with
  | none=>simp [rowGo_len next xs]
  | some t=>simp [rowGo_len next xs]
theorem rowGo_pre (next:Nat->Option K):∀ (xs:List Nat) (l:List K),l <+: (rowGo next xs l).2
 | [],_=>List.prefix_rfl
 | x::xs,l=>by
  rw [rowGo]
  cases next x with
  | none=>exact rowGo_pre next xs l
  | some t=>exact (addK_pre l t).trans (rowGo_pre next xs _)
theorem rowGo_nodup (next:Nat->Option K):∀ (xs:List Nat) (l:List K),l.Nodup->(rowGo next xs l).2.Nodup
 | [],_,h=>h
 | x::xs,l,h=>by
  rw [rowGo]
  cases next x with
  | none=>exact rowGo_nodup next xs l h
  | some t=>exact rowGo_nodup next xs _ (addK_nodup h)
theorem posF_pre {l m:List K} {t:K} (h:l <+: m) (ht:t ∈ l):posF m t=posF l t:=by
 obtain ⟨r,rfl⟩:=h
 exact posF_app_left ht
theorem posF_addK (l:List K) (t:K):posF (addK l t) t=posF l t:=by
 unfold addK;split
 ·rfl
 ·rename_i h
  have hn:t ∉ l:=fun h'=>h (posF_mem.2 h')
  rw [posF_snoc hn,posF_new hn]
theorem rowGo_get (next:Nat->Option K):∀ (xs:List Nat) (l:List K) (i:Nat) (h:i<(rowGo next xs l).1.length) (h2:i<xs.length),
 (rowGo next xs l).1[i]=match next xs[i] with | none=>-1 | some t=>((posF (rowGo next xs l).2 t:Nat):Int)
 | [],_,i,_,h2=>by simp at h2
 | x::xs,l,i,h,h2=>by
  cases hn:next x with
  | none =>
   have e:rowGo next (x::xs) l=((-1)::(rowGo next xs l).1,(rowGo next xs l).2):=by rw [rowGo,hn]
   simp only [e]
   cases i with
   | zero=>simp [hn]
   | succ i =>
    simp only [List.getElem_cons_succ]
    exact rowGo_get next xs l i (by rw [e] at h;simpa using h) (by simpa using h2)
  | some t =>
   have e:rowGo next (x::xs) l=((posF l t:Int)::(rowGo next xs (addK l t)).1,(rowGo next xs (addK l t)).2):=by rw [rowGo,hn]
   simp only [e]
   cases i with
   | zero =>
    simp only [List.getElem_cons_zero,hn]
    rw [posF_pre (rowGo_pre next xs (addK l t)) (addK_mem l t),posF_addK]
   | succ i =>
    simp only [List.getElem_cons_succ]
    exact rowGo_get next xs _ i (by rw [e] at h;simpa using h) (by simpa using h2)
theorem rowGo_mem (next:Nat->Option K):∀ (xs:List Nat) (l:List K) (x:Nat),x ∈ xs->∀ t,next x=some t->t ∈ (rowGo next xs l).2
 | [],_,_,h,_,_=>by simp at h
 | y::xs,l,x,h,t,ht=>by
  cases hn:next y with
  | none =>
   have e:(rowGo next (y::xs) l).2=(rowGo next xs l).2:=by rw [rowGo,hn]
   rw [e]
   rcases List.mem_cons.1 h with rfl | h
   ·rw [hn] at ht;cases ht
   ·exact rowGo_mem next xs l x h t ht
  | some u =>
   have e:(rowGo next (y::xs) l).2=(rowGo next xs (addK l u)).2:=by rw [rowGo,hn]
   rw [e]
   rcases List.mem_cons.1 h with rfl | h
   ·rw [hn] at ht;obtain rfl:=Option.some.inj ht
    exact (rowGo_pre next xs _).subset (addK_mem l u)
   ·exact rowGo_mem next xs _ x h t ht
def bfsGo (M:Nat) (next:K->Nat->Option K) (sy:Nat):Nat->List K->List (List Int)->Option (List K × List (List Int))
 | 0,l,rows=>some (l,rows)
 | f+1,l,rows =>
  if h:rows.length<l.length then
   let r:=rowGo (next l[rows.length]) (List.range sy) l
   if M<r.2.length then none else bfsGo M next sy f r.2 (rows++[r.1])
  else some (l,rows)
def bfs (M:Nat) (next:K->Nat->Option K) (sy:Nat) (first:K):Option (List K × List (List Int)):=bfsGo M next sy (M+1) [first] []
structure Bfs (M:Nat) (next:K->Nat->Option K) (sy:Nat) (l:List K) (rows:List (List Int)):Prop where
 nodup:l.Nodup
 most:l.length<=M
 le:rows.length<=l.length
 len:∀ r ∈ rows,r.length=sy
 get:∀ i (h:i<rows.length) (h2:i<l.length) x,x<sy->rows[i][x]? = some (match next l[i] x with | none=>-1 | some t=>((posF l t:Nat):Int))
 mem:∀ i (h:i<rows.length) (h2:i<l.length) x,x<sy->∀ t,next l[i] x=some t->t ∈ l
theorem Bfs.step {M:Nat} {next:K->Nat->Option K} {sy:Nat} {l:List K} {rows:List (List Int)} (h:Bfs M next sy l rows) (hlt:rows.length<l.length) (hm:(rowGo (next l[rows.length]) (List.range sy) l).2.length<=M) :
 Bfs M next sy (rowGo (next l[rows.length]) (List.range sy) l).2 (rows++[(rowGo (next l[rows.length]) (List.range sy) l).1]):=by
 have hp:=rowGo_pre (next l[rows.length]) (List.range sy) l
 have hpl:=hp.length_le
 have hget:∀ i (h1:i<l.length) (h2:i<(rowGo (next l[rows.length]) (List.range sy) l).2.length),(rowGo (next l[rows.length]) (List.range sy) l).2[i]=l[i]:=fun i h1 h2=>(hp.getElem h1).symm
 refine ⟨rowGo_nodup _ _ _ h.nodup,hm,by simp;omega,fun r hr=>?_,fun i h1 h2 x hx=>?_,fun i h1 h2 x hx t ht=>?_⟩
 ·rcases List.mem_append.1 hr with hr | hr
  ·exact h.len r hr
  ·rw [List.mem_singleton.1 hr,rowGo_len,List.length_range]
 ·have hi:i<rows.length \/ i=rows.length:=by simp at h1;omega
  rcases hi with hi | rfl
  ·rw [List.getElem_append_left hi,h.get i hi (by omega) x hx,hget i (by omega) h2]
   cases hn:next l[i] x with
   | none=>rfl
   | some t =>
    simp only
    rw [posF_pre hp (h.mem i hi (by omega) x hx t hn)]
  ·rw [List.getElem_append_right (Nat.le_refl _)]
   simp only [Nat.sub_self,List.getElem_cons_zero]
   have hl:x<(rowGo (next l[rows.length]) (List.range sy) l).1.length:=by rw [rowGo_len,List.length_range];exact hx
   rw [List.getElem?_eq_getElem hl,rowGo_get _ _ _ x hl (by simpa using hx),hget _ hlt h2]
   simp only [List.getElem_range]
 ·have hi:i<rows.length \/ i=rows.length:=by simp at h1;omega
  rcases hi with hi | rfl
  ·rw [hget i (by omega) h2] at ht
   exact hp.subset (h.mem i hi (by omega) x hx t ht)
  ·rw [hget _ hlt h2] at ht
   exact rowGo_mem _ _ _ x (List.mem_range.2 hx) t ht
theorem Bfs.go {M:Nat} {next:K->Nat->Option K} {sy:Nat}:∀ (f:Nat) {l:List K} {rows:List (List Int)},Bfs M next sy l rows->M+1<=f+rows.length->∀ l' rows',bfsGo M next sy f l rows=some (l',rows')->Bfs M next sy l' rows'/\rows'.length=l'.length/\l <+: l'
 | 0,l,rows,h,hf,l',rows',he=>by have:=h.le;have:=h.most;omega
 | f+1,l,rows,h,hf,l',rows',he=>by
  rw [bfsGo] at he
  split at he
  ·rename_i hlt
   simp only at he
   split at he
   ·cases he
   ·rename_i hm
    obtain ⟨h1,h2,h3⟩:=Bfs.go f (h.step hlt (by omega)) (by simp;omega) l' rows' he
    exact ⟨h1,h2,(rowGo_pre _ _ _).trans h3⟩
  ·simp only [Option.some.injEq,Prod.mk.injEq] at he
   obtain ⟨rfl,rfl⟩:=he
   exact ⟨h,by have:=h.le;omega,List.prefix_rfl⟩
theorem bfs_ok {M:Nat} (hM:1<=M) {next:K->Nat->Option K} {sy:Nat} {first:K} {l:List K} {rows:List (List Int)} (h:bfs M next sy first=some (l,rows)):Bfs M next sy l rows/\rows.length=l.length/\[first] <+: l:=by
 refine Bfs.go (M+1) ⟨by simp,by simpa using hM,by simp,by simp,fun i h=>by simp at h,fun i h=>by simp at h⟩ (by simp) _ _ h
end
end P5
namespace P5
abbrev Edg:=Int × Int × Int
structure Au where
 sy:Int
 acc:List Bool
 ed:List Edg
 deriving DecidableEq
abbrev nilA:Au:=⟨0,[],[]⟩
def badE (n:Nat) (sy:Int) (e:Edg):Bool:=decide (e.1<0 \/ (n:Int)<=e.1 \/ e.2.2<0 \/ (n:Int)<=e.2.2 \/ e.2.1 < -1 \/ sy<=e.2.1)
def validM (a:Au):Int :=
 if 64<a.sy \/ 256<a.acc.length \/ 4096<a.ed.length then 4
 else if a.sy<1 \/ a.acc.length<1 \/ a.ed.any (badE a.acc.length a.sy)=true then 1 else 0
structure VA (a:Au):Prop where
 sy:1<=a.sy/\a.sy<=64
 n:1<=a.acc.length/\a.acc.length<=256
 m:a.ed.length<=4096
 ed:∀ e ∈ a.ed,(0<=e.1/\e.1<a.acc.length)/\(0<=e.2.2/\e.2.2<a.acc.length)/\-1<=e.2.1/\e.2.1<a.sy
theorem valid_VA {a:Au}:validM a=0 ↔ VA a:=by
 unfold validM
 constructor
 ·intro h
  split at h
  ·cases h
  rename_i h1
  split at h
  ·cases h
  rename_i h2
  refine ⟨by omega,by omega,by omega,fun e he=>?_⟩
  have h3:¬ badE a.acc.length a.sy e=true:=fun hb=>h2 (.inr (.inr (List.any_eq_true.2 ⟨e,he,hb⟩)))
  unfold badE at h3
  rw [decide_eq_true_iff] at h3
  omega
 ·rintro ⟨h1,h2,h3,h4⟩
  rw [if_neg (by omega),if_neg]
  rintro (h | h | h)
  ·omega
  ·omega
  ·obtain ⟨e,he,hb⟩:=List.any_eq_true.1 h
   unfold badE at hb
   rw [decide_eq_true_iff] at hb
   have:=h4 e he
   omega
def epsR (a:Au) (i j:Nat):Bool:=a.ed.any fun e=>decide (e.2.1 = -1/\e.1=(i:Int)/\e.2.2=(j:Int))
def clA (a:Au) (s:List Bool):List Bool:=cl a.acc.length (epsR a) s
def firstA (a:Au):List Bool:=clA a (oneS a.acc.length 0)
def imgA (a:Au) (s:List Bool) (x:Int):List Bool:=(List.range a.acc.length).map fun (j:Nat)=>a.ed.any fun e=>decide (e.2.1=x) && bt s e.1.toNat && decide (e.2.2=(j:Int))
def afterA (a:Au) (s:List Bool) (x:Int):List Bool:=clA a (imgA a s x)
def anyA (a:Au) (s:List Bool) (x:Int):Bool:=a.ed.any fun e=>decide (e.2.1=x) && bt s e.1.toNat
def meets (s t:List Bool):Bool:=(List.range s.length).any fun i=>bt s i && bt t i
theorem meets_iff {s t:List Bool}:meets s t=true ↔ ∃ i,bt s i=true/\bt t i=true:=by
 unfold meets
 rw [List.any_eq_true]
 constructor
 ·rintro ⟨i,_,h⟩
  rw [Bool.and_eq_true] at h
  exact ⟨i,h⟩
 ·rintro ⟨i,h1,h2⟩
  exact ⟨i,List.mem_range.2 (bt_lt h1),by rw [h1,h2];rfl⟩
theorem imgA_len (a:Au) (s:List Bool) (x:Int):(imgA a s x).length=a.acc.length:=by simp [imgA]
theorem imgA_bt {a:Au} {s:List Bool} {x:Int} {j:Nat}:bt (imgA a s x) j=true ↔ j<a.acc.length/\∃ e ∈ a.ed,e.2.1=x/\bt s e.1.toNat=true/\e.2.2=(j:Int):=by
 rw [imgA,bt_map]
 simp only [Bool.and_eq_true,decide_eq_true_eq,List.any_eq_true,and_assoc]
theorem afterA_len (a:Au) (s:List Bool) (x:Int):(afterA a s x).length=a.acc.length:=cl_len (imgA_len a s x)
theorem oneS_len (n k:Nat):(oneS n k).length=n:=by simp [oneS]
theorem firstA_len (a:Au):(firstA a).length=a.acc.length:=cl_len (oneS_len _ _)
def moveP (a:Au) (i:Nat) (x:Int):List Bool:=a.ed.foldl (fun s e=>if e.1=(i:Int)/\e.2.1=x then orS s (clA a (oneS a.acc.length e.2.2.toNat)) else s) (noneS a.acc.length)
def afterP (a:Au) (s:List Bool) (x:Int):List Bool:=(List.range a.acc.length).foldl (fun t i=>if bt s i then orS t (moveP a i x) else t) (noneS a.acc.length)
theorem foldl_or {α : Type} (p : α->Prop) [DecidablePred p] (f : α->List Bool) (j:Nat):∀ (l:List α) (s:List Bool),bt (l.foldl (fun s e=>if p e then orS s (f e) else s) s) j=true ↔ bt s j=true \/ ∃ e ∈ l,p e/\bt (f e) j=true
 | [],s=>by simp
 | e::l,s=>by
  rw [List.foldl_cons,foldl_or p f j l]
  by_cases h:p e
  ·rw [if_pos h,orS_bt]
   constructor
   ·rintro ((h1 | h1) | ⟨e',h2,h3⟩)
    ·exact .inl h1
    ·exact .inr ⟨e,by simp,h,h1⟩
    ·exact .inr ⟨e',by simp [h2],h3⟩
   ·rintro (h1 | ⟨e',h2,h3,h4⟩)
    ·exact .inl (.inl h1)
    ·rcases List.mem_cons.1 h2 with rfl | h2
     ·exact .inl (.inr h4)
     ·exact .inr ⟨e',h2,h3,h4⟩
  ·rw [if_neg h]
   constructor
   ·rintro (h1 | ⟨e',h2,h3⟩)
    ·exact .inl h1
    ·exact .inr ⟨e',by simp [h2],h3⟩
   ·rintro (h1 | ⟨e',h2,h3,h4⟩)
    ·exact .inl h1
    ·rcases List.mem_cons.1 h2 with rfl | h2
     ·exact absurd h3 h
     ·exact .inr ⟨e',h2,h3,h4⟩
theorem foldl_or_len {α : Type} (p : α->Prop) [DecidablePred p] (f : α->List Bool) (n:Nat) (hf:∀ e,(f e).length=n):∀ (l:List α) (s:List Bool),s.length=n->(l.foldl (fun s e=>if p e then orS s (f e) else s) s).length=n
 | [],_,h=>h
 | e::l,s,h=>by
  rw [List.foldl_cons]
  refine foldl_or_len p f n hf l _ ?_
  split
  ·rw [orS_len,h,hf,Nat.max_self]
  ·exact h
theorem moveP_len (a:Au) (i:Nat) (x:Int):(moveP a i x).length=a.acc.length:=foldl_or_len _ _ _ (fun e=>cl_len (oneS_len _ _)) _ _ (by simp [noneS])
theorem moveP_bt {a:Au} {i:Nat} {x:Int} {j:Nat}:bt (moveP a i x) j=true ↔ ∃ e ∈ a.ed,(e.1=(i:Int)/\e.2.1=x)/\bt (clA a (oneS a.acc.length e.2.2.toNat)) j=true:=by
 unfold moveP
 rw [foldl_or (fun e:Edg=>e.1=(i:Int)/\e.2.1=x) (fun e=>clA a (oneS a.acc.length e.2.2.toNat)),noneS_bt]
 simp only [Bool.false_eq_true,false_or]
theorem afterP_len (a:Au) (s:List Bool) (x:Int):(afterP a s x).length=a.acc.length:=foldl_or_len (fun i=>bt s i=true) _ _ (fun i=>moveP_len a i x) _ _ (by simp [noneS])
theorem after_eq {a:Au} (hv:VA a) (s:List Bool) (x:Int):afterP a s x=afterA a s x:=by
 refine bt_ext (by rw [afterP_len,afterA_len]) fun j _=>?_
 rw [afterP,foldl_or (fun i=>bt s i=true) (fun i=>moveP a i x)]
 simp only [noneS_bt,Bool.false_eq_true,false_or,List.mem_range,moveP_bt]
 rw [afterA,clA,cl_one (imgA_len a s x)]
 constructor
 ·rintro ⟨i,_,hi,e,he,⟨h1,h2⟩,h3⟩
  have:=hv.ed e he
  refine ⟨e.2.2.toNat,imgA_bt.2 ⟨by omega,e,he,h2,?_,by omega⟩,h3⟩
  rw [h1];exact hi
 ·rintro ⟨k,hk,hj⟩
  obtain ⟨hkn,e,he,h1,h2,h3⟩:=imgA_bt.1 hk
  have:=hv.ed e he
  refine ⟨e.1.toNat,by omega,h2,e,he,⟨by omega,h1⟩,?_⟩
  have:e.2.2.toNat=k:=by omega
  rw [this];exact hj
theorem any_iff {a:Au} (hv:VA a) (s:List Bool) (x:Int):anyA a s x=true ↔ ∃ j,bt (afterA a s x) j=true:=by
 unfold anyA
 simp only [List.any_eq_true,Bool.and_eq_true,decide_eq_true_eq]
 constructor
 ·rintro ⟨e,he,h1,h2⟩
  have:=hv.ed e he
  exact ⟨e.2.2.toNat,(cl_is (imgA_len a s x)).sub _ (imgA_bt.2 ⟨by omega,e,he,h1,h2,by omega⟩)⟩
 ·rintro ⟨j,hj⟩
  obtain ⟨k,hk,_⟩:=(cl_one (imgA_len a s x) j).1 hj
  obtain ⟨_,e,he,h1,h2,_⟩:=imgA_bt.1 hk
  exact ⟨e,he,h1,h2⟩
def acceptsGo (a:Au):List Int->List Bool->Bool
 | [],s=>meets s a.acc
 | x::w,s=>if x<0 \/ a.sy<=x then false else acceptsGo a w (afterA a s x)
def acceptsM (a:Au) (w:List Int):Bool:=if validM a=0 then acceptsGo a w (firstA a) else false
def freshB (s seen:List Bool):Bool:=(List.range s.length).any fun i=>bt s i && !bt seen i
def shortRow (a:Au) (s:List Bool) (w:List Int):List Nat->List Bool->List (List Bool × List Int) × List Bool
 | [],seen=>([],seen)
 | x::xs,seen =>
  let t:=afterA a s x
  if freshB t seen then ((t,w++[(x:Int)])::(shortRow a s w xs (orS seen t)).1,(shortRow a s w xs (orS seen t)).2)
  else shortRow a s w xs (orS seen t)
def shortGo (a:Au):Nat->List (List Bool × List Int)->List Bool->Option (List Int)
 | 0,_,_=>none
 | _+1,[],_=>none
 | f+1,(s,w)::l,seen=>if meets s a.acc then some w else
  let r:=shortRow a s w (List.range a.sy.toNat) seen
  shortGo a f (l++r.1) r.2
def shortestM (a:Au):Option (List Int):=if validM a=0 then shortGo a (a.acc.length+2) [(firstA a,[])] (firstA a) else none
section
variable {K L : Type} [DecidableEq K] [DecidableEq L]
end
section
variable {K : Type} [DecidableEq K]
theorem sub_len {S l:List K} (hn:l.Nodup) (h:∀ k ∈ l,k ∈ S):l.length<=S.length:=by
 induction l generalizing S with
 | nil=>simp
 | cons a l ih =>
  rw [List.nodup_cons] at hn
  have ha:=h a (by simp)
  have:=ih (S:=S.erase a) hn.2 (fun k hk=>(List.mem_erase_of_ne (fun e=>hn.1 (by rw [<-e];exact hk))).2 (h k (by simp [hk])))
  rw [List.length_erase_of_mem ha] at this
  have:=List.length_pos_of_mem ha
  simp only [List.length_cons]
  omega
theorem nodup_of_sub {S l:List K} (hn:S.Nodup) (h:∀ k ∈ S,k ∈ l) (hl:l.length<=S.length):l.Nodup:=by
 induction l generalizing S with
 | nil=>simp
 | cons a l ih =>
  rw [List.nodup_cons]
  have key:a ∉ l:=fun ha=>by
   have:S.length<=l.length:=sub_len hn (fun k hk=>by rcases List.mem_cons.1 (h k hk) with rfl | hk;exact ha;exact hk)
   simp only [List.length_cons] at hl
   omega
  refine ⟨key,ih (S:=S.erase a) (hn.erase a) (fun k hk=>?_) ?_⟩
  ·have hk2:=(hn.mem_erase_iff).1 hk
   rcases List.mem_cons.1 (h k hk2.2) with e | e
   ·exact absurd e hk2.1
   ·exact e
  ·by_cases haS:a ∈ S
   ·rw [List.length_erase_of_mem haS];simp only [List.length_cons] at hl;omega
   ·rw [List.erase_of_not_mem haS];simp only [List.length_cons] at hl;omega
theorem bfs_small {M:Nat} {next:K->Nat->Option K} {sy:Nat} {first:K} {S:List K} (hS:S.length<=M) (h0:first ∈ S) (hc:∀ k ∈ S,∀ x t,x<sy->next k x=some t->t ∈ S):∃ l rows,bfs M next sy first=some (l,rows)/\∀ k ∈ l,k ∈ S:=by
 have row:∀ (k:K) (hk:k ∈ S) (xs:List Nat) (l:List K),(∀ x ∈ xs,x<sy)->(∀ k ∈ l,k ∈ S)->∀ k' ∈ (rowGo (next k) xs l).2,k' ∈ S:=by
  intro k hk xs
  induction xs with
  | nil=>intro l _ h;exact h
  | cons x xs ih =>
   intro l hx h
   rw [rowGo]
   cases hn:next k x with
   | none=>exact ih l (fun y hy=>hx y (by simp [hy])) h
   | some t =>
    refine ih _ (fun y hy=>hx y (by simp [hy])) ?_
    unfold addK
    split
    ·exact h
    ·intro k' hk'
     rcases List.mem_append.1 hk' with hk' | hk'
     ·exact h k' hk'
     ·rw [List.mem_singleton.1 hk'];exact hc k hk x t (hx x (by simp)) hn
 have go:∀ (f:Nat) (l:List K) (rows:List (List Int)),l.Nodup->(∀ k ∈ l,k ∈ S)->∃ l' rows',bfsGo M next sy f l rows=some (l',rows')/\∀ k ∈ l',k ∈ S:=by
  intro f
  induction f with
  | zero=>intro l rows _ h;exact ⟨l,rows,rfl,h⟩
  | succ f ih =>
   intro l rows hn h
   rw [bfsGo]
   split
   ·rename_i hlt
    have h1:=rowGo_nodup (next l[rows.length]) (List.range sy) l hn
    have h2:=row l[rows.length] (h _ (List.getElem_mem _)) (List.range sy) l (fun x hx=>List.mem_range.1 hx) h
    have h3:=sub_len h1 h2
    simp only
    rw [if_neg (by omega)]
    exact ih _ _ h1 h2
   ·exact ⟨l,rows,rfl,h⟩
 exact go _ _ _ (by simp) (by simpa using h0)
end
structure Gr where
 sy:Nat
 acc:List Bool
 to:List (List Int)
 deriving DecidableEq
def gto (g:Gr) (i x:Nat):Int:=(g.to.getD i []).getD x (-1)
structure GrOk (g:Gr):Prop where
 n:1<=g.acc.length
 len:g.to.length=g.acc.length
 row:∀ r ∈ g.to,r.length=g.sy
 lo:∀ i x,-1<=gto g i x
 hi:∀ i x,gto g i x<g.acc.length
def lang (g:Gr):List Nat->Nat->Bool
 | [],i=>bt g.acc i
 | x::w,i=>if gto g i x<0 then false else lang g w (gto g i x).toNat
def klang {K:Type} (next:K->Nat->Option K) (acc:K->Bool) (sy:Nat):List Nat->K->Bool
 | [],k=>acc k
 | x::w,k=>if x<sy then match next k x with | none=>false | some t=>klang next acc sy w t else false
section
variable {K : Type} [DecidableEq K]
def grOf (sy:Nat) (acc:K->Bool) (l:List K) (rows:List (List Int)):Gr:=⟨sy,l.map acc,rows⟩
theorem grOf_to {M:Nat} {next:K->Nat->Option K} {sy:Nat} {acc:K->Bool} {l:List K} {rows:List (List Int)} (h:Bfs M next sy l rows) (hl:rows.length=l.length) (i x:Nat) :
 gto (grOf sy acc l rows) i x=if h:i<l.length then if x<sy then match next l[i] x with | none=>-1 | some t=>((posF l t:Nat):Int) else -1 else -1:=by
 unfold gto grOf
 simp only
 split
 ·rename_i hi
  have hi2:i<rows.length:=by omega
  have e1:rows.getD i []=rows[i]:=by rw [List.getD_eq_getElem?_getD,List.getElem?_eq_getElem hi2];rfl
  rw [e1,List.getD_eq_getElem?_getD]
  split
  ·rename_i hx
   rw [h.get i hi2 hi x hx];rfl
  ·rename_i hx
   rw [List.getElem?_eq_none (by rw [h.len _ (List.getElem_mem hi2)];omega)];rfl
 ·rename_i hi
  have e1:rows.getD i []=[]:=by rw [List.getD_eq_getElem?_getD,List.getElem?_eq_none (by omega)];rfl
  rw [e1];rfl
theorem grOf_ok {M:Nat} {next:K->Nat->Option K} {sy:Nat} {acc:K->Bool} {l:List K} {rows:List (List Int)} (h:Bfs M next sy l rows) (hl:rows.length=l.length) (h1:1<=l.length):GrOk (grOf sy acc l rows):=by
 have hn:(grOf sy acc l rows).acc.length=l.length:=by simp [grOf]
 refine ⟨by rw [hn];exact h1,by rw [hn,<-hl];rfl,h.len,fun i x=>?_,fun i x=>?_⟩
 ·rw [grOf_to h hl]
  split
  ·rename_i hi
   split
   ·cases next l[i] x with
    | none=>simp only;omega
    | some t=>simp only;omega
   ·omega
  ·omega
 ·rw [grOf_to h hl,hn]
  split
  ·rename_i hi
   split
   ·rename_i hx
    cases e:next l[i] x with
    | none=>simp only;omega
    | some t =>
     simp only
     have:=posF_lt (h.mem i (by omega) hi x hx t e)
     omega
   ·omega
  ·omega
theorem grOf_lang {M:Nat} {next:K->Nat->Option K} {sy:Nat} {acc:K->Bool} {l:List K} {rows:List (List Int)} (h:Bfs M next sy l rows) (hl:rows.length=l.length):∀ (w:List Nat) (i:Nat) (hi:i<l.length),lang (grOf sy acc l rows) w i=klang next acc sy w l[i]
 | [],i,hi=>by
  rw [lang,klang,grOf,bt]
  simp only
  rw [List.getD_eq_getElem?_getD,List.getElem?_map,List.getElem?_eq_getElem hi];rfl
 | x::w,i,hi=>by
  rw [lang,klang,grOf_to h hl,dif_pos hi]
  by_cases hx:x<sy
  ·rw [if_pos hx,if_pos hx]
   cases e:next l[i] x with
   | none=>rfl
   | some t =>
    simp only
    have hm:=posF_lt (h.mem i (by omega) hi x hx t e)
    rw [if_neg (by omega),Int.toNat_natCast,grOf_lang h hl w _ hm,posF_get hm]
  ·rw [if_neg hx,if_neg hx];rfl
end
end P5
namespace P5
abbrev cg (c:List Int) (i:Nat):Int:=c.getD i (-1)
structure IsCls (g:Gr) (c:List Int):Prop where
 len:c.length=g.acc.length
 neg:∀ i,i<g.acc.length->(cg c i<0 ↔ ∀ w,lang g w i=false)
 same:∀ i j,i<g.acc.length->j<g.acc.length->(cg c i=cg c j ↔ ∀ w,lang g w i=lang g w j)
def lrow (g:Gr) (c:List Int) (s:Nat):List Nat->List Nat->List Int × List Nat
 | [],l=>([],l)
 | x::xs,l =>
  let t:=gto g s x
  if t<0 \/ cg c t.toNat<0 then ((-1)::(lrow g c s xs l).1,(lrow g c s xs l).2)
  else
   let p:=posF (l.map (cg c)) (cg c t.toNat)
   let r:=lrow g c s xs (if p<l.length then l else l++[t.toNat])
   ((p:Int)::r.1,r.2)
def lgo (g:Gr) (c:List Int):Nat->List Nat->List (List Int)->List Nat × List (List Int)
 | 0,l,rows=>(l,rows)
 | f+1,l,rows =>
  if h:rows.length<l.length then
   let r:=lrow g c l[rows.length] (List.range g.sy) l
   lgo g c f r.2 (rows++[r.1])
  else (l,rows)
def leastG (g:Gr) (c:List Int):Gr :=
 let r:=lgo g c 258 [0] []
 ⟨g.sy,r.1.map (bt g.acc),r.2⟩
abbrev Lng:=List Nat->Bool
noncomputable instance:DecidableEq Lng:=fun _ _=>Classical.propDecidable _
noncomputable def nextL (L:Lng) (x:Nat):Option Lng:=open Classical in if ∀ w,L (x::w)=false then none else some fun w=>L (x::w)
noncomputable def canonL (sy:Nat) (L:Lng):Option (List Lng × List (List Int)):=bfs 257 nextL sy L
noncomputable def canonG (sy:Nat) (L:Lng):Gr:=match canonL sy L with
 | none=>⟨sy,[],[]⟩
 | some r=>⟨sy,r.1.map fun L=>L [],r.2⟩
abbrev lng (g:Gr) (i:Nat):Lng:=fun w=>lang g w i
theorem gto_lt {g:Gr} (h:GrOk g) {i x:Nat} (h0:¬ gto g i x<0):(gto g i x).toNat<g.acc.length:=by
 have:=h.hi i x
 omega
theorem lng_next {g:Gr} (i x:Nat):(fun w=>lang g (x::w) i)=if gto g i x<0 then (fun _=>false) else lng g (gto g i x).toNat:=by
 funext w
 rw [lang]
 split <;> rfl
theorem nextL_none {g:Gr} (h:GrOk g) {c:List Int} (hc:IsCls g c) {i x:Nat} (ht:gto g i x<0 \/ cg c (gto g i x).toNat<0):nextL (lng g i) x=none:=by
 unfold nextL
 rw [if_pos]
 intro w
 have:=congrFun (lng_next (g:=g) i x) w
 refine this.trans ?_
 by_cases h0:gto g i x<0
 ·rw [if_pos h0]
 ·rw [if_neg h0]
  exact (hc.neg _ (gto_lt h h0)).1 (ht.resolve_left h0) w
theorem nextL_some {g:Gr} (h:GrOk g) {c:List Int} (hc:IsCls g c) {i x:Nat} (ht:¬ (gto g i x<0 \/ cg c (gto g i x).toNat<0)):nextL (lng g i) x=some (lng g (gto g i x).toNat):=by
 have h0:¬ gto g i x<0:=fun e=>ht (.inl e)
 have e:=lng_next (g:=g) i x
 rw [if_neg h0] at e
 unfold nextL
 rw [if_neg,e]
 intro hw
 refine ht (.inr ((hc.neg _ (gto_lt h h0)).2 fun w=>?_))
 rw [<-hw w]
 exact (congrFun e w).symm
theorem lng_iff {g:Gr} {c:List Int} (hc:IsCls g c) {i j:Nat} (hi:i<g.acc.length) (hj:j<g.acc.length):cg c i=cg c j ↔ lng g i=lng g j :=
 (hc.same i j hi hj).trans ⟨fun h=>funext h,fun h w=>congrFun h w⟩
theorem posF_cls {g:Gr} {c:List Int} (hc:IsCls g c) {t:Nat} (ht:t<g.acc.length):∀ {l:List Nat},(∀ s ∈ l,s<g.acc.length)->posF (l.map (cg c)) (cg c t)=posF (l.map (lng g)) (lng g t)
 | [],_=>rfl
 | s::l,h=>by
  rw [List.map_cons,List.map_cons,posF,posF,posF_cls hc ht (fun s hs=>h s (by simp [hs]))]
  have:=lng_iff hc (h s (by simp)) ht
  by_cases e:cg c s=cg c t
  ·rw [if_pos e,if_pos (this.1 e)]
  ·rw [if_neg e,if_neg (fun e'=>e (this.2 e'))]
theorem lrow_row {g:Gr} (h:GrOk g) {c:List Int} (hc:IsCls g c) {s:Nat}:∀ (xs:List Nat) (l:List Nat),(∀ s ∈ l,s<g.acc.length) ->
 (rowGo (nextL (lng g s)) xs (l.map (lng g)))=((lrow g c s xs l).1,(lrow g c s xs l).2.map (lng g))/\∀ s' ∈ (lrow g c s xs l).2,s'<g.acc.length
 | [],l,hl=>⟨rfl,hl⟩
 | x::xs,l,hl=>by
  rw [rowGo,lrow]
  simp only
  by_cases ht:gto g s x<0 \/ cg c (gto g s x).toNat<0
  ·obtain ⟨e1,e2⟩:=lrow_row h hc xs l hl
   rw [if_pos ht,nextL_none h hc ht]
   simp only
   rw [e1]
   exact ⟨rfl,e2⟩
  ·have h0:¬ gto g s x<0:=fun e=>ht (.inl e)
   have htn:=gto_lt h h0
   rw [if_neg ht,nextL_some h hc ht]
   simp only
   have ep:=posF_cls hc htn hl
   have ea:addK (l.map (lng g)) (lng g (gto g s x).toNat)=(if posF (l.map (cg c)) (cg c (gto g s x).toNat)<l.length then l else l++[(gto g s x).toNat]).map (lng g):=by
    unfold addK
    rw [<-ep,List.length_map]
    split <;> simp
   have hl':∀ s' ∈ (if posF (l.map (cg c)) (cg c (gto g s x).toNat)<l.length then l else l++[(gto g s x).toNat]),s'<g.acc.length:=by
    intro s' hs'
    split at hs'
    ·exact hl s' hs'
    ·rcases List.mem_append.1 hs' with hs' | hs'
     ·exact hl s' hs'
     ·rw [List.mem_singleton.1 hs'];exact htn
   obtain ⟨e1,e2⟩:=lrow_row h hc xs _ hl'
   rw [ea,e1,<-ep]
   exact ⟨rfl,e2⟩
theorem lgo_go {g:Gr} (h:GrOk g) {c:List Int} (hc:IsCls g c) (hn:g.acc.length<=257):∀ (f:Nat) (l:List Nat) (rows:List (List Int)),(∀ s ∈ l,s<g.acc.length)->(l.map (lng g)).Nodup ->
 bfsGo 257 nextL g.sy f (l.map (lng g)) rows=some ((lgo g c f l rows).1.map (lng g),(lgo g c f l rows).2)/\∀ s ∈ (lgo g c f l rows).1,s<g.acc.length
 | 0,l,rows,hl,_=>⟨rfl,hl⟩
 | f+1,l,rows,hl,hnd=>by
  rw [bfsGo,lgo]
  by_cases hlt:rows.length<l.length
  ·rw [dif_pos (by simpa using hlt),dif_pos hlt]
   simp only [List.getElem_map]
   obtain ⟨e1,e2⟩:=lrow_row h hc (s:=l[rows.length]) (List.range g.sy) l hl
   have hnd2:=rowGo_nodup (nextL (lng g l[rows.length])) (List.range g.sy) _ hnd
   rw [e1] at hnd2 ⊢
   simp only at hnd2 ⊢
   have hle:((lrow g c l[rows.length] (List.range g.sy) l).2.map (lng g)).length<=((List.range g.acc.length).map (lng g)).length:=sub_len hnd2 fun k hk=>by
    obtain ⟨s,hs,rfl⟩:=List.mem_map.1 hk
    exact List.mem_map.2 ⟨s,List.mem_range.2 (e2 s hs),rfl⟩
   rw [List.length_map,List.length_map,List.length_range] at hle
   rw [if_neg (by rw [List.length_map];omega)]
   exact lgo_go h hc hn f _ _ e2 hnd2
  ·rw [dif_neg (by simpa using hlt),dif_neg hlt]
   exact ⟨rfl,hl⟩
theorem least_canon {g:Gr} (h:GrOk g) {c:List Int} (hc:IsCls g c) (hn:g.acc.length<=257):∃ r,canonL g.sy (lng g 0)=some r/\leastG g c=⟨g.sy,r.1.map (fun L=>L []),r.2⟩/\r.1.length<=g.acc.length:=by
 obtain ⟨e1,e2⟩:=lgo_go h hc hn 258 [0] [] (by simpa using Nat.lt_of_lt_of_le Nat.zero_lt_one h.n) (by simp)
 refine ⟨_,e1,?_,?_⟩
 ·unfold leastG
  congr 1
  simp only [List.map_map]
  rfl
 ·have hb:=bfs_ok (M:=257) (by omega) e1
  have:=sub_len (S:=(List.range g.acc.length).map (lng g)) hb.1.nodup fun k hk=>by
   obtain ⟨s,hs,rfl⟩:=List.mem_map.1 hk
   exact List.mem_map.2 ⟨s,List.mem_range.2 (e2 s hs),rfl⟩
  simp only [List.length_map,List.length_range] at this
  simpa using this
theorem least_eq {g:Gr} (h:GrOk g) {c:List Int} (hc:IsCls g c) (hn:g.acc.length<=257):leastG g c=canonG g.sy (lng g 0):=by
 obtain ⟨r,h1,h2,_⟩:=least_canon h hc hn
 rw [h2,canonG,h1]
theorem lang_sy {g:Gr} (h:GrOk g):∀ (w:List Nat) (i:Nat),(∃ x ∈ w,g.sy<=x)->lang g w i=false
 | [],i,hx=>by obtain ⟨x,hx,_⟩:=hx;simp at hx
 | x::w,i,hx=>by
  rw [lang]
  split
  ·rfl
  ·rename_i h0
   refine lang_sy h w _ ?_
   obtain ⟨y,hy,hy2⟩:=hx
   rcases List.mem_cons.1 hy with rfl | hy
   ·exfalso
    apply h0
    unfold gto
    by_cases hi:i<g.to.length
    ·have e1:g.to.getD i []=g.to[i]:=by rw [List.getD_eq_getElem?_getD,List.getElem?_eq_getElem hi];rfl
     rw [e1,List.getD_eq_getElem?_getD,List.getElem?_eq_none (by rw [h.row _ (List.getElem_mem hi)];exact hy2)]
     show (-1:Int)<0
     omega
    ·have e1:g.to.getD i []=[]:=by rw [List.getD_eq_getElem?_getD,List.getElem?_eq_none (by omega)];rfl
     rw [e1]
     show (-1:Int)<0
     omega
   ·exact ⟨y,hy,hy2⟩
theorem klang_nextL (sy:Nat):∀ (w:List Nat) (L:Lng),(∀ x ∈ w,x<sy)->klang nextL (fun L=>L []) sy w L=L w
 | [],L,_=>rfl
 | x::w,L,h=>by
  rw [klang,if_pos (h x (by simp))]
  unfold nextL
  split
  ·rename_i e
   split at e
   ·rename_i hw;exact (hw w).symm
   ·cases e
  ·rename_i t e
   split at e
   ·cases e
   ·obtain rfl:=Option.some.inj e
    exact klang_nextL sy w _ (fun y hy=>h y (by simp [hy]))
theorem least_lang {g:Gr} (h:GrOk g) {c:List Int} (hc:IsCls g c) (hn:g.acc.length<=257):GrOk (leastG g c)/\(leastG g c).acc.length<=g.acc.length/\lng (leastG g c) 0=lng g 0:=by
 obtain ⟨⟨l,rows⟩,h1,h2,h3⟩:=least_canon h hc hn
 have hb:=bfs_ok (M:=257) (by omega) h1
 have hl:1<=l.length:=hb.2.2.length_le
 have e:leastG g c=grOf g.sy (fun L:Lng=>L []) l rows:=h2
 rw [e]
 have ok:=grOf_ok (acc:=fun L:Lng=>L []) hb.1 hb.2.1 hl
 refine ⟨ok,by simpa [grOf] using h3,funext fun w=>?_⟩
 show lang _ w 0=lang g w 0
 have h0:l[0]=lng g 0:=((hb.2.2).getElem (i:=0) (by simp)).symm
 by_cases hw:∃ x ∈ w,g.sy<=x
 ·rw [lang_sy h w 0 hw]
  exact lang_sy ok w 0 hw
 ·rw [grOf_lang hb.1 hb.2.1 w 0 hl,klang_nextL g.sy w _ (fun x hx=>Nat.lt_of_not_le fun h'=>hw ⟨x,hx,h'⟩),h0]
def rowAt (g:Gr) (i:Nat):List Int:=g.to.getD i []
theorem rowAt_len {g:Gr} (h:GrOk g) {i:Nat} (hi:i<g.acc.length):(rowAt g i).length=g.sy:=by
 have hi2:i<g.to.length:=by rw [h.len];exact hi
 have e1:rowAt g i=g.to[i]:=by rw [rowAt,List.getD_eq_getElem?_getD,List.getElem?_eq_getElem hi2];rfl
 rw [e1,h.row _ (List.getElem_mem hi2)]
theorem gto_row (g:Gr) (i x:Nat):gto g i x=(rowAt g i).getD x (-1):=rfl
theorem rowAt_get {g:Gr} {i x:Nat} (hx:x<(rowAt g i).length):(rowAt g i)[x]=gto g i x:=by
 rw [gto_row,List.getD_eq_getElem?_getD,List.getElem?_eq_getElem hx];rfl
theorem gto_mem {g:Gr} {i x:Nat} (h0:¬ gto g i x<0):gto g i x ∈ rowAt g i:=by
 by_cases hx:x<(rowAt g i).length
 ·rw [<-rowAt_get hx];exact List.getElem_mem _
 ·exfalso;apply h0
  rw [gto_row,List.getD_eq_getElem?_getD,List.getElem?_eq_none (by omega)]
  show (-1:Int)<0
  omega
def rrel (g:Gr) (i j:Nat):Bool:=(rowAt g j).any fun t=>decide (t=(i:Int))
theorem rrel_iff {g:Gr} {i j:Nat}:rrel g i j=true ↔ ∃ x,gto g j x=(i:Int):=by
 unfold rrel
 simp only [List.any_eq_true,decide_eq_true_eq]
 constructor
 ·rintro ⟨t,ht,rfl⟩
  obtain ⟨x,hx,e⟩:=List.getElem_of_mem ht
  exact ⟨x,by rw [<-rowAt_get hx,e]⟩
 ·rintro ⟨x,hx⟩
  exact ⟨_,gto_mem (by omega),hx⟩
def liveM (g:Gr):List Bool:=cl g.acc.length (rrel g) g.acc
theorem live_is (g:Gr):IsCl g.acc.length (rrel g) g.acc (liveM g):=cl_is rfl
theorem live_len (g:Gr):(liveM g).length=g.acc.length:=(live_is g).len
theorem lang_live {g:Gr} (h:GrOk g):∀ (w:List Nat) (i:Nat),lang g w i=true->bt (liveM g) i=true
 | [],i,hw=>(live_is g).sub i (by rw [lang] at hw;exact hw)
 | x::w,i,hw=>by
  rw [lang] at hw
  split at hw
  ·cases hw
  ·rename_i h0
   have hi:i<g.acc.length:=by
    by_cases hi:i<g.acc.length
    ·exact hi
    ·exfalso;apply h0
     rw [gto_row,rowAt]
     have e1:g.to.getD i []=[]:=by rw [List.getD_eq_getElem?_getD,List.getElem?_eq_none (by rw [h.len];omega)];rfl
     rw [e1]
     show (-1:Int)<0
     omega
   exact (live_is g).clo _ i (lang_live h w _ hw) (rrel_iff.2 ⟨x,by omega⟩) hi
theorem live_lang {g:Gr} {i:Nat}:bt (liveM g) i=true->∃ w,lang g w i=true:=by
 refine (live_is g).least (fun i=>∃ w,lang g w i=true) (fun i hi=>⟨[],hi⟩) (fun i j ⟨w,hw⟩ hr _ _=>?_) i
 obtain ⟨x,hx⟩:=rrel_iff.1 hr
 refine ⟨x::w,?_⟩
 rw [lang,if_neg (by omega),hx]
 exact hw
theorem dead_iff {g:Gr} (h:GrOk g) {i:Nat}:bt (liveM g) i=false ↔ ∀ w,lang g w i=false:=by
 constructor
 ·intro hb w
  cases e:lang g w i with
  | false=>rfl
  | true=>rw [lang_live h w i e] at hb;cases hb
 ·intro hw
  cases e:bt (liveM g) i with
  | false=>rfl
  | true=>obtain ⟨w,h1⟩:=live_lang e;rw [hw w] at h1;cases h1
def trimT (g:Gr) (t:Int):Int:=if 0<=t/\bt (liveM g) t.toNat=false then -1 else t
def trimM (g:Gr):Gr:=⟨g.sy,g.acc,g.to.map fun r=>r.map (trimT g)⟩
theorem trim_to (g:Gr) (i x:Nat):gto (trimM g) i x=trimT g (gto g i x):=by
 unfold gto trimM
 simp only
 by_cases hi:i<g.to.length
 ·have e1:g.to.getD i []=g.to[i]:=by rw [List.getD_eq_getElem?_getD,List.getElem?_eq_getElem hi];rfl
  have e2:(g.to.map fun r=>r.map (trimT g)).getD i []=g.to[i].map (trimT g):=by rw [List.getD_eq_getElem?_getD,List.getElem?_map,List.getElem?_eq_getElem hi];rfl
  rw [e1,e2,List.getD_eq_getElem?_getD,List.getD_eq_getElem?_getD,List.getElem?_map]
  cases g.to[i][x]? with
  | none=>simp [trimT]
  | some t=>rfl
 ·have e1:g.to.getD i []=[]:=by rw [List.getD_eq_getElem?_getD,List.getElem?_eq_none (by omega)];rfl
  have e2:(g.to.map fun r=>r.map (trimT g)).getD i []=[]:=by rw [List.getD_eq_getElem?_getD,List.getElem?_map,List.getElem?_eq_none (by omega)];rfl
  rw [e1,e2]
  simp [trimT]
theorem trim_ok {g:Gr} (h:GrOk g):GrOk (trimM g):=by
 refine ⟨h.n,by simp [trimM,h.len],fun r hr=>?_,fun i x=>?_,fun i x=>?_⟩
 ·obtain ⟨r',hr',rfl⟩:=List.mem_map.1 hr
  rw [List.length_map];exact h.row _ hr'
 ·have:=h.lo i x
  rw [trim_to,trimT];split <;> omega
 ·have:=h.hi i x
  show gto (trimM g) i x<g.acc.length
  rw [trim_to,trimT];split <;> omega
theorem trim_lang {g:Gr} (h:GrOk g):∀ (w:List Nat) (i:Nat),lang (trimM g) w i=lang g w i
 | [],_=>rfl
 | x::w,i=>by
  rw [lang,lang,trim_to]
  by_cases h0:gto g i x<0
  ·have e:trimT g (gto g i x)=gto g i x:=by rw [trimT,if_neg (by omega)]
   rw [e,if_pos h0,if_pos h0]
  ·by_cases hd:bt (liveM g) (gto g i x).toNat=false
   ·have e:trimT g (gto g i x) = -1:=by rw [trimT,if_pos ⟨by omega,hd⟩]
    rw [e,if_pos (by omega),if_neg h0,(dead_iff h).1 hd w]
   ·have e:trimT g (gto g i x)=gto g i x:=by rw [trimT,if_neg (fun e=>hd e.2)]
    rw [e,if_neg h0,if_neg h0,trim_lang h w]
theorem trim_live {g:Gr} (h:GrOk g) {i x:Nat} (h0:¬ gto (trimM g) i x<0):∃ w,lang (trimM g) w (gto (trimM g) i x).toNat=true:=by
 rw [trim_to,trimT] at h0 ⊢
 split at h0
 ·omega
 ·rename_i hn
  rw [if_neg hn]
  have:bt (liveM g) (gto g i x).toNat=true:=by
   cases e:bt (liveM g) (gto g i x).toNat with
   | true=>rfl
   | false=>exact absurd ⟨by omega,e⟩ hn
  obtain ⟨w,hw⟩:=live_lang this
  exact ⟨w,by rw [trim_lang h];exact hw⟩
def keyM (g:Gr) (c:List Int) (i:Nat):List Int:=cg c i::(rowAt g i).map fun t=>if t<0 then -1 else cg c t.toNat
def maskO (g:Gr) (m:Nat->Bool) (c:List Int) (i:Nat):Option (List Int):=if m i then some (keyM g c i) else none
def clsStep (g:Gr) (m:Nat->Bool) (c:List Int):List Int × List (List Int):=rowGo (maskO g m c) (List.range g.acc.length) []
def clsP (g:Gr) (m:Nat->Bool):Nat->List Int->Nat->List Int
 | 0,c,_=>c
 | f+1,c,many=>let r:=clsStep g m c;if r.2.length=many then c else clsP g m f r.1 r.2.length
def clsR (g:Gr) (m:Nat->Bool):Nat->List Int->Nat->List Int
 | 0,c,_=>c
 | f+1,c,many=>let r:=clsStep g m c;if r.2.length=many then r.1 else clsR g m f r.1 r.2.length
structure Mask (g:Gr) (m:Nat->Bool):Prop where
 live:∀ i w,lang g w i=true->m i=true
 tgt:∀ i x,i<g.acc.length->m i=true->¬ gto g i x<0->m (gto g i x).toNat=true->∃ w,lang g w (gto g i x).toNat=true
structure Ref (g:Gr) (m:Nat->Bool) (c:List Int) (many:Nat):Prop where
 len:c.length=g.acc.length
 lng:∀ i j,i<g.acc.length->j<g.acc.length->m i=true->m j=true->lng g i=lng g j->cg c i=cg c j
 acc:∀ i j,i<g.acc.length->j<g.acc.length->m i=true->m j=true->cg c i=cg c j->bt g.acc i=bt g.acc j
 pos:∀ i,i<g.acc.length->m i=true->0<=cg c i
 neg:∀ i,i<g.acc.length->m i=false->cg c i = -1
 cnt:many=0 \/ ∃ S:List Int,S.Nodup/\S.length=many/\∀ v ∈ S,∃ i,i<g.acc.length/\m i=true/\cg c i=v
theorem key_of_lng {g:Gr} (h:GrOk g) {m:Nat->Bool} (hm:Mask g m) {c:List Int} {many:Nat} (hc:Ref g m c many) {i j:Nat} (hi:i<g.acc.length) (hj:j<g.acc.length) (mi:m i=true) (mj:m j=true) (e:lng g i=lng g j):keyM g c i=keyM g c j:=by
 have side:∀ (i:Nat),i<g.acc.length->m i=true->∀ x,(if gto g i x<0 then (-1:Int) else cg c (gto g i x).toNat) = -1/\(∀ w,lang g (x::w) i=false) \/
  (¬ gto g i x<0/\m (gto g i x).toNat=true/\(∃ w,lang g (x::w) i=true)/\(fun w=>lang g (x::w) i)=P5.lng g (gto g i x).toNat):=by
  intro i hi mi x
  have el:=lng_next (g:=g) i x
  by_cases h0:gto g i x<0
  ·rw [if_pos h0]
   rw [if_pos h0] at el
   exact .inl ⟨rfl,fun w=>congrFun el w⟩
  ·rw [if_neg h0]
   rw [if_neg h0] at el
   by_cases ht:m (gto g i x).toNat=true
   ·obtain ⟨w,hw⟩:=hm.tgt i x hi mi h0 ht
    exact .inr ⟨h0,ht,⟨w,by rw [<-hw];exact congrFun el w⟩,el⟩
   ·have ht2:m (gto g i x).toNat=false:=by simpa using ht
    refine .inl ⟨hc.neg _ (gto_lt h h0) ht2,fun w=>?_⟩
    refine (congrFun el w).trans ?_
    cases e3:lang g w (gto g i x).toNat with
    | false=>exact e3
    | true=>exact absurd (hm.live _ w e3) ht
 unfold keyM
 rw [hc.lng i j hi hj mi mj e]
 congr 1
 apply List.ext_getElem
 ·simp only [List.length_map]
  rw [rowAt_len h hi,rowAt_len h hj]
 ·intro x h1 h2
  simp only [List.getElem_map,rowAt_get]
  have el:∀ w,lang g (x::w) i=lang g (x::w) j:=fun w=>congrFun e (x::w)
  rcases side i hi mi x with ⟨a1,a2⟩ | ⟨a1,a2,⟨w,a3⟩,a4⟩
  ·rcases side j hj mj x with ⟨b1,b2⟩ | ⟨b1,b2,⟨w,b3⟩,b4⟩
   ·rw [a1,b1]
   ·rw [<-el,a2] at b3;cases b3
  ·rcases side j hj mj x with ⟨b1,b2⟩ | ⟨b1,b2,_,b4⟩
   ·rw [el,b2] at a3;cases a3
   ·rw [if_neg a1,if_neg b1]
    refine hc.lng _ _ (gto_lt h a1) (gto_lt h b1) a2 b2 ?_
    rw [<-a4,<-b4]
    exact funext el
theorem step_get {g:Gr} {m:Nat->Bool} {c:List Int} {i:Nat} (hi:i<g.acc.length):cg (clsStep g m c).1 i=if m i then ((posF (clsStep g m c).2 (keyM g c i):Nat):Int) else -1:=by
 have hl:i<(clsStep g m c).1.length:=by rw [clsStep,rowGo_len,List.length_range];exact hi
 have e:=rowGo_get (maskO g m c) (List.range g.acc.length) [] i hl (by simpa using hi)
 rw [cg,List.getD_eq_getElem?_getD,List.getElem?_eq_getElem hl,Option.getD_some]
 refine e.trans ?_
 simp only [List.getElem_range,maskO]
 by_cases hm:m i=true
 ·rw [if_pos hm];simp only [hm,if_true];rfl
 ·rw [if_neg hm];simp only [hm];rfl
theorem step_mem {g:Gr} {m:Nat->Bool} {c:List Int} {i:Nat} (hi:i<g.acc.length) (mi:m i=true):keyM g c i ∈ (clsStep g m c).2 :=
 rowGo_mem _ _ _ i (List.mem_range.2 hi) _ (by rw [maskO,if_pos mi])
theorem step_from {g:Gr} {m:Nat->Bool} {c:List Int}:∀ k ∈ (clsStep g m c).2,∃ i,i<g.acc.length/\m i=true/\keyM g c i=k:=by
 have go:∀ (xs:List Nat) (l:List (List Int)),(∀ i ∈ xs,i<g.acc.length)->(∀ k ∈ l,∃ i,i<g.acc.length/\m i=true/\keyM g c i=k)->∀ k ∈ (rowGo (maskO g m c) xs l).2,∃ i,i<g.acc.length/\m i=true/\keyM g c i=k:=by
  intro xs
  induction xs with
  | nil=>intro l _ h;exact h
  | cons x xs ih =>
   intro l hx h
   rw [rowGo,maskO]
   by_cases hm:m x=true
   ·rw [if_pos hm]
    refine ih _ (fun y hy=>hx y (by simp [hy])) ?_
    unfold addK
    split
    ·exact h
    ·intro k hk
     rcases List.mem_append.1 hk with hk | hk
     ·exact h k hk
     ·rw [List.mem_singleton.1 hk];exact ⟨x,hx x (by simp),hm,rfl⟩
   ·rw [if_neg hm]
    exact ih _ (fun y hy=>hx y (by simp [hy])) h
 exact go _ _ (fun i hi=>List.mem_range.1 hi) (fun k hk=>by simp at hk)
theorem step_nodup {g:Gr} {m:Nat->Bool} {c:List Int}:(clsStep g m c).2.Nodup:=rowGo_nodup _ _ _ (by simp)
theorem step_key {g:Gr} {m:Nat->Bool} {c:List Int} {i j:Nat} (hi:i<g.acc.length) (hj:j<g.acc.length) (mi:m i=true) (mj:m j=true):cg (clsStep g m c).1 i=cg (clsStep g m c).1 j ↔ keyM g c i=keyM g c j:=by
 rw [step_get hi,step_get hj,if_pos mi,if_pos mj]
 constructor
 ·intro e
  exact posF_inj (step_mem hi mi) (by omega)
 ·intro e;rw [e]
theorem key_head {g:Gr} {c:List Int} {i j:Nat} (e:keyM g c i=keyM g c j):cg c i=cg c j:=(List.cons.inj e).1
theorem step_ref {g:Gr} (h:GrOk g) {m:Nat->Bool} (hm:Mask g m) {c:List Int} {many:Nat} (hc:Ref g m c many):Ref g m (clsStep g m c).1 (clsStep g m c).2.length:=by
 refine ⟨by rw [clsStep,rowGo_len,List.length_range],fun i j hi hj mi mj e=>(step_key hi hj mi mj).2 (key_of_lng h hm hc hi hj mi mj e),fun i j hi hj mi mj e=>hc.acc i j hi hj mi mj (key_head ((step_key hi hj mi mj).1 e)),fun i hi mi=>?_,fun i hi mi=>?_,.inr ⟨(List.range (clsStep g m c).2.length).map fun n:Nat=>(n:Int),?_,by simp,fun v hv=>?_⟩⟩
 ·rw [step_get hi,if_pos mi];omega
 ·rw [step_get hi,if_neg (by rw [mi];simp)]
 ·rw [List.Nodup,List.pairwise_map]
  exact (List.nodup_range).imp fun hne e=>hne (by omega)
 ·obtain ⟨k,hk,rfl⟩:=List.mem_map.1 hv
  rw [List.mem_range] at hk
  obtain ⟨i,hi,mi,e⟩:=step_from _ (List.getElem_mem hk)
  refine ⟨i,hi,mi,?_⟩
  rw [step_get hi,if_pos mi,e,posF_nodup step_nodup]
theorem step_le {g:Gr} {m:Nat->Bool} {c:List Int} {many:Nat} (hc:Ref g m c many):many<=(clsStep g m c).2.length/\(clsStep g m c).2.length<=g.acc.length:=by
 constructor
 ·rcases hc.cnt with h0 | ⟨S,h1,h2,h3⟩
  ·omega
  ·rw [<-h2]
   have:=sub_len (S:=(clsStep g m c).2.map fun k=>k.headD 0) h1 fun v hv=>by
    obtain ⟨i,hi,mi,e⟩:=h3 v hv
    exact List.mem_map.2 ⟨keyM g c i,step_mem hi mi,e⟩
   rwa [List.length_map] at this
 ·have:=sub_len (S:=(List.range g.acc.length).map (keyM g c)) (step_nodup (g:=g) (m:=m) (c:=c)) fun k hk=>by
   obtain ⟨i,hi,_,e⟩:=step_from k hk
   exact List.mem_map.2 ⟨i,List.mem_range.2 hi,e⟩
  rwa [List.length_map,List.length_range] at this
theorem step_stable {g:Gr} {m:Nat->Bool} {c:List Int} {many:Nat} (hc:Ref g m c many) (he:(clsStep g m c).2.length=many) {i j:Nat} (hi:i<g.acc.length) (hj:j<g.acc.length) (mi:m i=true) (mj:m j=true) (e:cg c i=cg c j):keyM g c i=keyM g c j:=by
 have hmem:=step_mem (c:=c) hi mi
 rcases hc.cnt with h0 | ⟨S,h1,h2,h3⟩
 ·rw [h0] at he
  rw [List.length_eq_zero_iff.1 he] at hmem
  simp at hmem
 ·have hn:((clsStep g m c).2.map fun k=>k.headD 0).Nodup:=nodup_of_sub h1 (fun v hv=>by
   obtain ⟨i,hi,mi,e⟩:=h3 v hv
   exact List.mem_map.2 ⟨keyM g c i,step_mem hi mi,e⟩) (by rw [List.length_map];omega)
  have hp:=posF_lt hmem
  have hq:=posF_lt (step_mem (c:=c) hj mj)
  have e1:=posF_get hp
  have e2:=posF_get hq
  rw [List.Nodup,List.pairwise_iff_getElem] at hn
  have hh:∀ a b (ha:a<(clsStep g m c).2.length) (hb:b<(clsStep g m c).2.length),((clsStep g m c).2[a]).headD 0=((clsStep g m c).2[b]).headD 0->¬ a<b:=fun a b ha hb e3 hab=>hn a b (by simpa using ha) (by simpa using hb) hab (by simpa using e3)
  have a1:((clsStep g m c).2[posF (clsStep g m c).2 (keyM g c i)]).headD 0=((clsStep g m c).2[posF (clsStep g m c).2 (keyM g c j)]).headD 0:=by rw [e1,e2];exact e
  have a2:=hh _ _ hp hq a1
  have a3:=hh _ _ hq hp a1.symm
  exact posF_inj hmem (by omega)
theorem stable_lang {g:Gr} (h:GrOk g) {m:Nat->Bool} (hm:Mask g m) {c:List Int} {many:Nat} (hc:Ref g m c many) (hk:∀ i j,i<g.acc.length->j<g.acc.length->m i=true->m j=true->cg c i=cg c j->keyM g c i=keyM g c j):∀ (w:List Nat) (i j:Nat),i<g.acc.length->j<g.acc.length->m i=true->m j=true->cg c i=cg c j->lang g w i=lang g w j
 | [],i,j,hi,hj,mi,mj,e=>hc.acc i j hi hj mi mj e
 | x::w,i,j,hi,hj,mi,mj,e=>by
  by_cases hx:x<g.sy
  ·have e1:=(List.cons.inj (hk i j hi hj mi mj e)).2
   have h1:x<(rowAt g i).length:=by rw [rowAt_len h hi];exact hx
   have h2:x<(rowAt g j).length:=by rw [rowAt_len h hj];exact hx
   have e2:((rowAt g i).map fun t=>if t<0 then -1 else cg c t.toNat)[x]'(by simpa using h1)=((rowAt g j).map fun t=>if t<0 then -1 else cg c t.toNat)[x]'(by simpa using h2):=by simp only [e1]
   simp only [List.getElem_map,rowAt_get] at e2
   have none_:∀ i,i<g.acc.length->(if gto g i x<0 then (-1:Int) else cg c (gto g i x).toNat)<0->lang g (x::w) i=false:=by
    intro i hi h3
    rw [lang]
    by_cases h0:gto g i x<0
    ·rw [if_pos h0]
    ·rw [if_neg h0] at h3 ⊢
     cases e3:lang g w (gto g i x).toNat with
     | false=>rfl
     | true=>have:=hc.pos _ (gto_lt h h0) (hm.live _ w e3);omega
   by_cases h3:(if gto g i x<0 then (-1:Int) else cg c (gto g i x).toNat)<0
   ·rw [none_ i hi h3,none_ j hj (by rw [<-e2];exact h3)]
   ·have h4:=h3
    rw [e2] at h4
    have a1:¬ gto g i x<0:=fun h'=>h3 (by rw [if_pos h'];omega)
    have b1:¬ gto g j x<0:=fun h'=>h4 (by rw [if_pos h'];omega)
    rw [if_neg a1] at h3 e2
    rw [if_neg b1] at h4 e2
    have a2:m (gto g i x).toNat=true:=by
     cases e3:m (gto g i x).toNat with
     | true=>rfl
     | false=>have:=hc.neg _ (gto_lt h a1) e3;omega
    have b2:m (gto g j x).toNat=true:=by
     cases e3:m (gto g j x).toNat with
     | true=>rfl
     | false=>have:=hc.neg _ (gto_lt h b1) e3;omega
    rw [lang,lang,if_neg a1,if_neg b1]
    exact stable_lang h hm hc hk w _ _ (gto_lt h a1) (gto_lt h b1) a2 b2 e2
  ·rw [lang_sy h (x::w) i ⟨x,by simp,by omega⟩,lang_sy h (x::w) j ⟨x,by simp,by omega⟩]
structure Fin (g:Gr) (m:Nat->Bool) (c:List Int):Prop where
 len:c.length=g.acc.length
 iff:∀ i j,i<g.acc.length->j<g.acc.length->m i=true->m j=true->(cg c i=cg c j ↔ lng g i=lng g j)
 pos:∀ i,i<g.acc.length->m i=true->0<=cg c i
 neg:∀ i,i<g.acc.length->m i=false->cg c i = -1
theorem clsP_fin {g:Gr} (h:GrOk g) {m:Nat->Bool} (hm:Mask g m):∀ (f:Nat) (c:List Int) (many:Nat),Ref g m c many->g.acc.length-many<f->Fin g m (clsP g m f c many)
 | 0,_,_,_,hf=>absurd hf (Nat.not_lt_zero _)
 | f+1,c,many,hc,hf=>by
  rw [clsP]
  split
  ·rename_i he
   refine ⟨hc.len,fun i j hi hj mi mj=>⟨fun e=>funext fun w=>?_,hc.lng i j hi hj mi mj⟩,hc.pos,hc.neg⟩
   exact stable_lang h hm hc (fun i j hi hj mi mj e=>step_stable hc he hi hj mi mj e) w i j hi hj mi mj e
  ·rename_i he
   have:=step_le hc
   exact clsP_fin h hm f _ _ (step_ref h hm hc) (by omega)
theorem clsR_fin {g:Gr} (h:GrOk g) {m:Nat->Bool} (hm:Mask g m):∀ (f:Nat) (c:List Int) (many:Nat),Ref g m c many->g.acc.length-many<f->Fin g m (clsR g m f c many)
 | 0,_,_,_,hf=>absurd hf (Nat.not_lt_zero _)
 | f+1,c,many,hc,hf=>by
  rw [clsR]
  split
  ·rename_i he
   have hr:=step_ref h hm hc
   refine ⟨hr.len,fun i j hi hj mi mj=>⟨fun e=>funext fun w=>?_,hr.lng i j hi hj mi mj⟩,hr.pos,hr.neg⟩
   have e2:=key_head ((step_key hi hj mi mj).1 e)
   exact stable_lang h hm hc (fun i j hi hj mi mj e=>step_stable hc he hi hj mi mj e) w i j hi hj mi mj e2
  ·rename_i he
   have:=step_le hc
   exact clsR_fin h hm f _ _ (step_ref h hm hc) (by omega)
def accI (g:Gr) (m:Nat->Bool):List Int:=(List.range g.acc.length).map fun i=>if m i then (if bt g.acc i then 1 else 0) else -1
theorem accI_get {g:Gr} {m:Nat->Bool} {i:Nat} (hi:i<g.acc.length):cg (accI g m) i=if m i then (if bt g.acc i then 1 else 0) else -1:=by
 rw [cg,accI,List.getD_eq_getElem?_getD,List.getElem?_map,List.getElem?_range hi];rfl
theorem accI_ref (g:Gr) (m:Nat->Bool):Ref g m (accI g m) 0:=by
 refine ⟨by simp [accI],fun i j hi hj mi mj e=>?_,fun i j hi hj mi mj e=>?_,fun i hi mi=>?_,fun i hi mi=>?_,.inl rfl⟩
 ·have:=congrFun e []
  simp only [lng,lang] at this
  rw [accI_get hi,accI_get hj,if_pos mi,if_pos mj,this]
 ·rw [accI_get hi,accI_get hj,if_pos mi,if_pos mj] at e
  cases h1:bt g.acc i <;> cases h2:bt g.acc j <;> simp_all
 ·rw [accI_get hi,if_pos mi];split <;> omega
 ·rw [accI_get hi,if_neg (by rw [mi];simp)]
def classesR (g:Gr):List Int:=clsR g (fun i=>bt (liveM g) i) (g.acc.length+1) (accI g fun i=>bt (liveM g) i) 0
def classesP (g:Gr):List Int :=
 let c:=clsP g (fun _=>true) (g.acc.length+1) (accI g fun _=>true) 0
 (List.range g.acc.length).map fun i=>if bt (liveM g) i then cg c i else -1
theorem classesR_is {g:Gr} (h:GrOk g):IsCls g (classesR g):=by
 have hf:=clsR_fin h (m:=fun i=>bt (liveM g) i) ⟨fun i w hw=>lang_live h w i hw,fun i x _ _ _ ht=>live_lang ht⟩ (g.acc.length+1) (accI g fun i=>bt (liveM g) i) 0 (accI_ref g _) (by omega)
 have hneg:∀ i,i<g.acc.length->(cg (classesR g) i<0 ↔ ∀ w,lang g w i=false):=fun i hi=>by
  rw [<-dead_iff h]
  cases e:bt (liveM g) i with
  | false=>exact ⟨fun _=>rfl,fun _=>by rw [classesR,hf.neg i hi e];omega⟩
  | true=>exact ⟨fun h'=>by have:=hf.pos i hi e;rw [classesR] at h';omega,fun h'=>by cases h'⟩
 refine ⟨hf.len,hneg,fun i j hi hj=>?_⟩
 have key:∀ i j,i<g.acc.length->j<g.acc.length->bt (liveM g) i=true->bt (liveM g) j=false->(cg (classesR g) i=cg (classesR g) j ↔ ∀ w,lang g w i=lang g w j):=fun i j hi hj hb hd=>by
  constructor
  ·intro e
   have h1:=hf.pos i hi hb
   have h2:=hf.neg j hj hd
   rw [classesR] at e
   omega
  ·intro e
   obtain ⟨w,hw⟩:=live_lang hb
   rw [e w,(dead_iff h).1 hd w] at hw;cases hw
 cases e1:bt (liveM g) i with
 | true =>
  cases e2:bt (liveM g) j with
  | true=>exact (hf.iff i j hi hj e1 e2).trans ⟨fun e w=>congrFun e w,fun e=>funext e⟩
  | false=>exact key i j hi hj e1 e2
 | false =>
  cases e2:bt (liveM g) j with
  | true=>exact ⟨fun e w=>((key j i hj hi e2 e1).1 e.symm w).symm,fun e=>((key j i hj hi e2 e1).2 fun w=>(e w).symm).symm⟩
  | false =>
   refine ⟨fun _ w=>by rw [(dead_iff h).1 e1 w,(dead_iff h).1 e2 w],fun _=>?_⟩
   rw [classesR,hf.neg i hi e1,hf.neg j hj e2]
theorem classesP_is {g:Gr} (h:GrOk g) (ht:∀ i x,¬ gto g i x<0->∃ w,lang g w (gto g i x).toNat=true):IsCls g (classesP g):=by
 have hf:=clsP_fin h (m:=fun _=>true) ⟨fun _ _ _=>rfl,fun i x _ _ h0 _=>ht i x h0⟩ (g.acc.length+1) (accI g fun _=>true) 0 (accI_ref g _) (by omega)
 have hg:∀ i,i<g.acc.length->cg (classesP g) i=if bt (liveM g) i then cg (clsP g (fun _=>true) (g.acc.length+1) (accI g fun _=>true) 0) i else -1:=fun i hi=>by
  rw [cg,classesP]
  rw [List.getD_eq_getElem?_getD,List.getElem?_map,List.getElem?_range hi];rfl
 refine ⟨by simp [classesP],fun i hi=>?_,fun i j hi hj=>?_⟩
 ·rw [<-dead_iff h,hg i hi]
  have:=hf.pos i hi rfl
  cases e:bt (liveM g) i with
  | false=>simp
  | true=>simp only [if_true];exact ⟨fun h'=>by omega,fun h'=>by cases h'⟩
 ·rw [hg i hi,hg j hj]
  have p1:=hf.pos i hi rfl
  have p2:=hf.pos j hj rfl
  cases e1:bt (liveM g) i with
  | true =>
   cases e2:bt (liveM g) j with
   | true=>exact (hf.iff i j hi hj rfl rfl).trans ⟨fun e w=>congrFun e w,fun e=>funext e⟩
   | false =>
    refine ⟨fun e=>?_,fun e=>?_⟩
    ·simp only [if_true,Bool.false_eq_true,if_false] at e;omega
    ·obtain ⟨w,hw⟩:=live_lang e1
     rw [e w,(dead_iff h).1 e2 w] at hw;cases hw
  | false =>
   cases e2:bt (liveM g) j with
   | true =>
    refine ⟨fun e=>?_,fun e=>?_⟩
    ·simp only [if_true,Bool.false_eq_true,if_false] at e;omega
    ·obtain ⟨w,hw⟩:=live_lang e2
     rw [<-e w,(dead_iff h).1 e1 w] at hw;cases hw
   | false=>exact ⟨fun _ w=>by rw [(dead_iff h).1 e1 w,(dead_iff h).1 e2 w],fun _=>rfl⟩
def leastP (g:Gr):Gr:=leastG (trimM g) (classesP (trimM g))
def leastR (g:Gr):Gr:=leastG g (classesR g)
theorem leastR_eq {g:Gr} (h:GrOk g) (hn:g.acc.length<=257):leastR g=canonG g.sy (lng g 0):=least_eq h (classesR_is h) hn
theorem leastP_eq {g:Gr} (h:GrOk g) (hn:g.acc.length<=257):leastP g=canonG g.sy (lng g 0):=by
 have e:lng (trimM g) 0=lng g 0:=funext fun w=>trim_lang h w 0
 rw [leastP,least_eq (trim_ok h) (classesP_is (trim_ok h) fun i x h0=>trim_live h h0) hn,e]
 rfl
theorem leastP_R {g:Gr} (h:GrOk g) (hn:g.acc.length<=257):leastP g=leastR g:=by rw [leastP_eq h hn,leastR_eq h hn]
theorem leastR_lang {g:Gr} (h:GrOk g) (hn:g.acc.length<=257):GrOk (leastR g)/\(leastR g).acc.length<=g.acc.length/\lng (leastR g) 0=lng g 0:=least_lang h (classesR_is h) hn
def edRow (i:Int):Nat->List Int->List Edg
 | _,[]=>[]
 | x,t::r=>if t<0 then edRow i (x+1) r else (i,(x:Int),t)::edRow i (x+1) r
def edAll:Nat->List (List Int)->List Edg
 | _,[]=>[]
 | i,r::rs=>edRow (i:Int) 0 r++edAll (i+1) rs
theorem edRow_snoc (i:Int) (t:Int):∀ (r:List Int) (x:Nat),edRow i x (r++[t])=edRow i x r++(if t<0 then [] else [(i,((x+r.length:Nat):Int),t)])
 | [],x=>by
  show edRow i x [t]=_
  rw [edRow,edRow,edRow]
  split <;> simp
 | u::r,x=>by
  rw [List.cons_append,edRow,edRow,edRow_snoc i t r (x+1)]
  have:x+1+r.length=x+(u::r).length:=by simp only [List.length_cons];omega
  rw [this]
  split <;> simp
theorem edAll_snoc (r:List Int):∀ (rs:List (List Int)) (i:Nat),edAll i (rs++[r])=edAll i rs++edRow ((i+rs.length:Nat):Int) 0 r
 | [],i=>by
  show edAll i [r]=_
  rw [edAll,edAll,edAll]
  simp
 | u::rs,i=>by
  rw [List.cons_append,edAll,edAll,edAll_snoc r rs (i+1)]
  have:i+1+rs.length=i+(u::rs).length:=by simp only [List.length_cons];omega
  rw [this,List.append_assoc]
def auOf (g:Gr):Au:=⟨g.sy,g.acc,edAll 0 g.to⟩
theorem mem_edRow {i:Int} {e:Edg}:∀ {r:List Int} {x:Nat},e ∈ edRow i x r ↔ ∃ k,∃ (h:k<r.length),¬ r[k]<0/\e=(i,((x+k:Nat):Int),r[k])
 | [],x=>by simp [edRow]
 | t::r,x=>by
  rw [edRow]
  constructor
  ·intro h
   have h':e ∈ edRow i (x+1) r \/ (¬ t<0/\e=(i,(x:Int),t)):=by
    split at h
    ·exact .inl h
    ·rename_i ht
     rcases List.mem_cons.1 h with h | h
     ·exact .inr ⟨ht,h⟩
     ·exact .inl h
   rcases h' with h' | ⟨h1,h2⟩
   ·obtain ⟨k,hk,a,b⟩:=mem_edRow.1 h'
    refine ⟨k+1,by simpa using hk,by simpa using a,?_⟩
    rw [b]
    have:x+1+k=x+(k+1):=by omega
    rw [this];rfl
   ·exact ⟨0,by simp,by simpa using h1,by rw [h2];rfl⟩
  ·rintro ⟨k,hk,a,b⟩
   cases k with
   | zero =>
    have a':¬ t<0:=a
    rw [if_neg a']
    exact List.mem_cons.2 (.inl b)
   | succ k =>
    have h':e ∈ edRow i (x+1) r:=mem_edRow.2 ⟨k,by simpa using hk,by simpa using a,by
     rw [b]
     have:x+(k+1)=x+1+k:=by omega
     rw [this];rfl⟩
    split
    ·exact h'
    ·exact List.mem_cons.2 (.inr h')
theorem mem_edAll {e:Edg}:∀ {rs:List (List Int)} {i:Nat},e ∈ edAll i rs ↔ ∃ k,∃ (h:k<rs.length),∃ x,∃ (hx:x<rs[k].length),¬ rs[k][x]<0/\e=(((i+k:Nat):Int),(x:Int),rs[k][x])
 | [],i=>by simp [edAll]
 | r::rs,i=>by
  rw [edAll,List.mem_append,mem_edRow,mem_edAll]
  constructor
  ·rintro (⟨k,hk,a,b⟩ | ⟨k,hk,x,hx,a,b⟩)
   ·exact ⟨0,by simp,k,hk,a,by rw [b];simp⟩
   ·refine ⟨k+1,by simpa using hk,x,by simpa using hx,by simpa using a,?_⟩
    rw [b]
    have:i+1+k=i+(k+1):=by omega
    rw [this];rfl
  ·rintro ⟨k,hk,x,hx,a,b⟩
   cases k with
   | zero=>exact .inl ⟨x,hx,a,by rw [b];simp⟩
   | succ k =>
    refine .inr ⟨k,by simpa using hk,x,by simpa using hx,by simpa using a,?_⟩
    rw [b]
    have:i+(k+1)=i+1+k:=by omega
    rw [this];rfl
theorem mem_auOf {g:Gr} (h:GrOk g) {e:Edg}:e ∈ (auOf g).ed ↔ ∃ i x:Nat,i<g.acc.length/\x<g.sy/\¬ gto g i x<0/\e=((i:Int),(x:Int),gto g i x):=by
 rw [auOf,mem_edAll]
 have e1:∀ (k:Nat) (hk:k<g.to.length) (x:Nat) (hx:x<g.to[k].length),g.to[k][x]=gto g k x:=fun k hk x hx=>by
  have e2:g.to.getD k []=g.to[k]:=by rw [List.getD_eq_getElem?_getD,List.getElem?_eq_getElem hk];rfl
  rw [gto,e2,List.getD_eq_getElem?_getD,List.getElem?_eq_getElem hx];rfl
 constructor
 ·rintro ⟨k,hk,x,hx,a,b⟩
  refine ⟨k,x,by rw [<-h.len];exact hk,by rw [<-h.row _ (List.getElem_mem hk)];exact hx,?_,?_⟩
  ·rw [<-e1 k hk x hx];exact a
  ·rw [b,e1 k hk x hx];simp
 ·rintro ⟨i,x,hi,hx,a,b⟩
  have hi2:i<g.to.length:=by rw [h.len];exact hi
  have hx2:x<g.to[i].length:=by rw [h.row _ (List.getElem_mem hi2)];exact hx
  exact ⟨i,hi2,x,hx2,by rw [e1 i hi2 x hx2];exact a,by rw [b,e1 i hi2 x hx2];simp⟩
def setT (t:List (List Int)) (i x:Nat) (v:Int):List (List Int):=t.set i ((t.getD i []).set x v)
def tabGo (t:List (List Int)):List Edg->List (List Int)
 | []=>t
 | e::l=>tabGo (setT t e.1.toNat e.2.1.toNat e.2.2) l
def tab0 (n sy:Nat):List (List Int):=List.replicate n (List.replicate sy (-1))
def tabM (a:Au):List (List Int):=tabGo (tab0 a.acc.length a.sy.toNat) a.ed
def tabG (a:Au):Gr:=⟨a.sy.toNat,a.acc,tabM a⟩
def tg (t:List (List Int)) (i x:Nat):Int:=(t.getD i []).getD x (-1)
structure TabOk (t:List (List Int)) (n sy:Nat):Prop where
 len:t.length=n
 row:∀ r ∈ t,r.length=sy
theorem TabOk.getD {t:List (List Int)} {n sy:Nat} (h:TabOk t n sy) {i:Nat} (hi:i<n):(t.getD i []).length=sy:=by
 have hi2:i<t.length:=by rw [h.len];exact hi
 have e2:t.getD i []=t[i]:=by rw [List.getD_eq_getElem?_getD,List.getElem?_eq_getElem hi2];rfl
 rw [e2,h.row _ (List.getElem_mem hi2)]
theorem TabOk.set {t:List (List Int)} {n sy:Nat} (h:TabOk t n sy) {i x:Nat} {v:Int} (hi:i<n):TabOk (setT t i x v) n sy:=by
 refine ⟨by rw [setT,List.length_set,h.len],fun r hr=>?_⟩
 rw [setT] at hr
 rcases List.mem_or_eq_of_mem_set hr with hr | rfl
 ·exact h.row r hr
 ·rw [List.length_set,h.getD hi]
theorem setT_get {t:List (List Int)} {n sy:Nat} (h:TabOk t n sy) {i x:Nat} {v:Int} (hi:i<n) (hx:x<sy) (j y:Nat):tg (setT t i x v) j y=if j=i/\y=x then v else tg t j y:=by
 have hi2:i<t.length:=by rw [h.len];exact hi
 unfold tg setT
 by_cases hj:j=i
 ·subst hj
  have e1:(t.set j ((t.getD j []).set x v)).getD j []=(t.getD j []).set x v:=by rw [List.getD_eq_getElem?_getD,List.getElem?_set_self hi2];rfl
  rw [e1]
  by_cases hy:y=x
  ·subst hy
   rw [if_pos ⟨rfl,rfl⟩,List.getD_eq_getElem?_getD,List.getElem?_set_self (by rw [h.getD hi];exact hx)];rfl
  ·rw [if_neg (fun e=>hy e.2),List.getD_eq_getElem?_getD,List.getElem?_set_ne (fun e=>hy e.symm),<-List.getD_eq_getElem?_getD]
 ·have e1:(t.set i ((t.getD i []).set x v)).getD j []=t.getD j []:=by rw [List.getD_eq_getElem?_getD,List.getElem?_set_ne (fun e=>hj e.symm),<-List.getD_eq_getElem?_getD]
  rw [e1,if_neg (fun e=>hj e.1)]
theorem tabGo_ok {n sy:Nat}:∀ {l:List Edg} {t:List (List Int)},TabOk t n sy->(∀ e ∈ l,e.1.toNat<n)->TabOk (tabGo t l) n sy
 | [],_,h,_=>h
 | e::l,_,h,hl=>tabGo_ok (l:=l) (h.set (hl e (List.mem_cons_self ..))) (fun e' he'=>hl e' (List.mem_cons_of_mem _ he'))
theorem tab0_ok (n sy:Nat):TabOk (tab0 n sy) n sy:=by
 refine ⟨by simp [tab0],fun r hr=>?_⟩
 rw [tab0] at hr
 rw [List.eq_of_mem_replicate hr,List.length_replicate]
theorem tab0_get (n sy i x:Nat):tg (tab0 n sy) i x = -1:=by
 have e1:(tab0 n sy).getD i []=if i<n then List.replicate sy (-1) else []:=by
  rw [tab0,List.getD_eq_getElem?_getD,List.getElem?_replicate]
  split <;> rfl
 rw [tg,e1]
 split
 ·rw [List.getD_eq_getElem?_getD,List.getElem?_replicate]
  split <;> rfl
 ·rfl
theorem tabGo_get {n sy:Nat} (f:Nat->Nat->Int):∀ {l:List Edg} {t:List (List Int)},TabOk t n sy->(∀ e ∈ l,e.1.toNat<n/\e.2.1.toNat<sy/\e.2.2=f e.1.toNat e.2.1.toNat)->∀ i x,((∃ e ∈ l,e.1.toNat=i/\e.2.1.toNat=x)->tg (tabGo t l) i x=f i x)/\((¬ ∃ e ∈ l,e.1.toNat=i/\e.2.1.toNat=x)->tg (tabGo t l) i x=tg t i x)
 | [],t,_,_,i,x=>⟨fun ⟨e,he,_⟩=>by simp at he,fun _=>rfl⟩
 | e::l,t,h,hl,i,x=>by
  obtain ⟨h1,h2,h3⟩:=hl e (by simp)
  have ih:=tabGo_get f (l:=l) (h.set (x:=e.2.1.toNat) (v:=e.2.2) h1) (fun e' he'=>hl e' (List.mem_cons_of_mem _ he')) i x
  rw [tabGo]
  by_cases hr:∃ e ∈ l,e.1.toNat=i/\e.2.1.toNat=x
  ·exact ⟨fun _=>ih.1 hr,fun hn=>absurd (let ⟨e',a,b⟩:=hr;⟨e',by simp [a],b⟩) hn⟩
  ·have e4:=ih.2 hr
   rw [setT_get h h1 h2] at e4
   constructor
   ·rintro ⟨e',he',a,b⟩
    rcases List.mem_cons.1 he' with rfl | he'
    ·rw [e4,if_pos ⟨a.symm,b.symm⟩,h3,a,b]
    ·exact absurd ⟨e',he',a,b⟩ hr
   ·intro hn
    rw [e4,if_neg]
    rintro ⟨a,b⟩
    exact hn ⟨e,by simp,a.symm,b.symm⟩
theorem tab_ext {s t:List (List Int)} {n sy:Nat} (hs:TabOk s n sy) (ht:TabOk t n sy) (h:∀ i x,tg s i x=tg t i x):s=t:=by
 apply List.ext_getElem (by rw [hs.len,ht.len])
 intro i h1 h2
 have r1:=hs.row _ (List.getElem_mem h1)
 have r2:=ht.row _ (List.getElem_mem h2)
 apply List.ext_getElem (by rw [r1,r2])
 intro x h3 h4
 have:=h i x
 have e1:s.getD i []=s[i]:=by rw [List.getD_eq_getElem?_getD,List.getElem?_eq_getElem h1];rfl
 have e2:t.getD i []=t[i]:=by rw [List.getD_eq_getElem?_getD,List.getElem?_eq_getElem h2];rfl
 rw [tg,tg,e1,e2,List.getD_eq_getElem?_getD,List.getD_eq_getElem?_getD,List.getElem?_eq_getElem h3,List.getElem?_eq_getElem h4] at this
 exact this
theorem tab_auOf {g:Gr} (h:GrOk g):tabG (auOf g)=g:=by
 have hsy:((g.sy:Int)).toNat=g.sy:=Int.toNat_natCast _
 have ht:TabOk g.to g.acc.length g.sy:=⟨h.len,h.row⟩
 have hm:∀ e ∈ (auOf g).ed,e.1.toNat<g.acc.length/\e.2.1.toNat<g.sy/\e.2.2=gto g e.1.toNat e.2.1.toNat:=fun e he=>by
  obtain ⟨i,x,hi,hx,_,rfl⟩:=(mem_auOf h).1 he
  exact ⟨hi,hx,rfl⟩
 have e0:tabM (auOf g)=g.to:=by
  have e1:tabM (auOf g)=tabGo (tab0 g.acc.length g.sy) (auOf g).ed:=by
   show tabGo (tab0 g.acc.length ((g.sy:Int)).toNat) (auOf g).ed=_
   rw [hsy]
  rw [e1]
  refine tab_ext (tabGo_ok (tab0_ok _ _) fun e he=>(hm e he).1) ht fun i x=>?_
  have hg:=tabGo_get (gto g) (tab0_ok g.acc.length g.sy) hm i x
  by_cases hr:∃ e ∈ (auOf g).ed,e.1.toNat=i/\e.2.1.toNat=x
  ·exact hg.1 hr
  ·rw [hg.2 hr,tab0_get]
   show -1=gto g i x
   have hlo:=h.lo i x
   by_cases h0:gto g i x<0
   ·omega
   ·exfalso
    have h1:=gto_mem h0
    by_cases hi:i<g.acc.length
    ·by_cases hx:x<g.sy
     ·exact hr ⟨_,(mem_auOf h).2 ⟨i,x,hi,hx,h0,rfl⟩,rfl,rfl⟩
     ·apply h0
      rw [gto_row,List.getD_eq_getElem?_getD,List.getElem?_eq_none (by rw [rowAt_len h hi];omega)]
      show (-1:Int)<0
      omega
    ·rw [rowAt,List.getD_eq_getElem?_getD,List.getElem?_eq_none (by rw [h.len];omega)] at h1
     simp at h1
 show (⟨((g.sy:Int)).toNat,g.acc,tabM (auOf g)⟩:Gr)=g
 rw [e0,hsy]
def checkedM (g:Gr):Au × Int:=if validM (auOf g)=0 then (auOf g,0) else (nilA,4)
def nextA (a:Au) (s:List Bool) (x:Nat):Option (List Bool):=if anyA a s (x:Int) then some (afterA a s (x:Int)) else none
def setsM (a:Au):Option Gr:=(bfs 256 (nextA a) a.sy.toNat (firstA a)).map fun r=>grOf a.sy.toNat (fun s=>meets s a.acc) r.1 r.2
def fixedM (a:Au):Au × Int:=if validM a=0 then match setsM a with | none=>(nilA,4) | some g=>checkedM (leastR g) else (nilA,validM a)
def twoM (a b:Au):Int × Gr × Gr :=
 let g0:Gr:=⟨0,[],[]⟩
 if validM a=0 then if validM b=0 then if a.sy=b.sy then
  if (fixedM a).2=0 then if (fixedM b).2=0 then (0,tabG (fixedM a).1,tabG (fixedM b).1) else ((fixedM b).2,g0,g0) else ((fixedM a).2,g0,g0)
  else (13,g0,g0) else (validM b,g0,g0) else (validM a,g0,g0)
abbrev PI:=Int × Int
def negG (g:Gr):Gr:=⟨g.sy,g.acc.map (fun b=>!b)++[true],g.to.map (fun r=>r.map fun t=>if t<0 then (g.acc.length:Int) else t)++[List.replicate g.sy (g.acc.length:Int)]⟩
def notM (a:Au):Au × Int:=if (fixedM a).2=0 then checkedM (leastR (negG (tabG (fixedM a).1))) else (nilA,(fixedM a).2)
def turnS (a:Au) (s:List Bool) (x:Int):List Bool:=(List.range a.acc.length).map fun (j:Nat)=>a.ed.any fun e=>decide (e.2.1=x) && bt s e.2.2.toNat && decide (e.1=(j:Int))
def anyT (a:Au) (s:List Bool) (x:Int):Bool:=a.ed.any fun e=>decide (e.2.1=x) && bt s e.2.2.toNat
def nextT (a:Au) (s:List Bool) (x:Nat):Option (List Bool):=if anyT a s (x:Int) then some (turnS a s (x:Int)) else none
def turnedM (a:Au):Option Gr:=(bfs 256 (nextT a) a.sy.toNat a.acc).map fun r=>grOf a.sy.toNat (fun s=>bt s 0) r.1 r.2
def turnM (a:Au):Au × Int:=if (fixedM a).2=0 then match turnedM (fixedM a).1 with | none=>(nilA,4) | some g=>checkedM (leastR g) else (nilA,(fixedM a).2)
def stepI (g:Gr) (i:Int) (x:Nat):Int:=if i<0 then -1 else gto g i.toNat x
def tellsI (g h:Gr) (p:PI):Bool:=(decide (0<=p.1) && bt g.acc p.1.toNat) != (decide (0<=p.2) && bt h.acc p.2.toNat)
def stepP (g h:Gr) (p:PI) (x:Nat):PI:=(stepI g p.1 x,stepI h p.2 x)
def apartRow (g h:Gr) (p:PI) (w:List Int):List Nat->List PI->List (PI × List Int) × List PI
 | [],seen=>([],seen)
 | x::xs,seen =>
  let t:=stepP g h p x
  if t ∈ seen then apartRow g h p w xs seen
  else ((t,w++[(x:Int)])::(apartRow g h p w xs (seen++[t])).1,(apartRow g h p w xs (seen++[t])).2)
def apartGo (g h:Gr):Nat->List (PI × List Int)->List PI->Option (List Int)
 | 0,_,_=>none
 | _+1,[],_=>none
 | f+1,(p,w)::l,seen=>if tellsI g h p then some w else
  let r:=apartRow g h p w (List.range g.sy) seen
  apartGo g h f (l++r.1) r.2
def apartM (g h:Gr):Option (List Int):=apartGo g h 66051 [((0,0),[])] [(0,0)]
def differM (a b:Au):Option (List Int) × Int :=
 let t:=twoM a b
 if t.1=0 then (apartM t.2.1 t.2.2,0) else (none,t.1)
theorem setsM_ok {a:Au} {g:Gr} (h:setsM a=some g):GrOk g/\g.acc.length<=256/\g.sy=a.sy.toNat/\∀ w,lang g w 0=klang (nextA a) (fun s=>meets s a.acc) a.sy.toNat w (firstA a):=by
 unfold setsM at h
 rw [Option.map_eq_some_iff] at h
 obtain ⟨⟨l,rows⟩,h1,rfl⟩:=h
 obtain ⟨b1,b2,b3⟩:=bfs_ok (M:=256) (by omega) h1
 have hl:1<=l.length:=b3.length_le
 have h0:l[0]=firstA a:=((b3).getElem (i:=0) (by simp)).symm
 refine ⟨grOf_ok b1 b2 hl,by simpa [grOf] using b1.most,rfl,fun w=>?_⟩
 rw [grOf_lang b1 b2 w 0 hl,h0]
theorem accepts_klang {a:Au} (hv:VA a):∀ (w:List Nat) (s:List Bool),s.length=a.acc.length->klang (nextA a) (fun s=>meets s a.acc) a.sy.toNat w s=acceptsGo a (w.map fun (x:Nat)=>(x:Int)) s
 | [],s,_=>rfl
 | x::w,s,hs=>by
  rw [klang,List.map_cons,acceptsGo]
  have:=hv.sy
  by_cases hx:x<a.sy.toNat
  ·rw [if_pos hx,if_neg (by omega),nextA]
   by_cases ha:anyA a s (x:Int)=true
   ·rw [if_pos ha]
    exact accepts_klang hv w _ (afterA_len _ _ _)
   ·rw [if_neg ha]
    have hno:∀ j,bt (afterA a s (x:Int)) j=false:=fun j=>by
     cases e:bt (afterA a s (x:Int)) j with
     | false=>rfl
     | true=>exact absurd ((any_iff hv s (x:Int)).2 ⟨j,e⟩) ha
    have dead:∀ (w:List Int) (t:List Bool),t.length=a.acc.length->(∀ j,bt t j=false)->acceptsGo a w t=false:=by
     intro w
     induction w with
     | nil =>
      intro t _ ht
      rw [acceptsGo]
      cases e:meets t a.acc with
      | false=>rfl
      | true=>obtain ⟨i,h1,_⟩:=meets_iff.1 e;rw [ht] at h1;cases h1
     | cons y w ih =>
      intro t htl ht
      rw [acceptsGo]
      split
      ·rfl
      ·refine ih _ (afterA_len _ _ _) fun j=>?_
       cases e:bt (afterA a t y) j with
       | false=>rfl
       | true =>
        have:=(any_iff hv t y).2 ⟨j,e⟩
        unfold anyA at this
        obtain ⟨e',_,h2⟩:=List.any_eq_true.1 this
        rw [ht] at h2
        simp at h2
    exact (dead _ _ (afterA_len _ _ _) hno).symm
  ·rw [if_neg hx,if_pos (by omega)]
def wI (w:List Nat):List Int:=w.map fun (x:Nat)=>(x:Int)
theorem sets_lang {a:Au} (hv:VA a) {g:Gr} (h:setsM a=some g) (w:List Nat):lang g w 0=acceptsM a (wI w):=by
 rw [(setsM_ok h).2.2.2,accepts_klang hv w _ (firstA_len a),acceptsM,if_pos (valid_VA.2 hv)];rfl
theorem checked_cases (g:Gr):(VA (auOf g)/\checkedM g=(auOf g,0)) \/ (¬ VA (auOf g)/\checkedM g=(nilA,4)):=by
 unfold checkedM
 by_cases h:validM (auOf g)=0
 ·exact .inl ⟨valid_VA.1 h,by rw [if_pos h]⟩
 ·exact .inr ⟨fun h'=>h (valid_VA.2 h'),by rw [if_neg h]⟩
structure Norm (g:Gr):Prop where
 ok:GrOk g
 va:VA (auOf g)
 can:g=canonG g.sy (lng g 0)
theorem fixed_norm {a:Au} (h:(fixedM a).2=0):VA a/\∃ g d,setsM a=some d/\g=leastR d/\fixedM a=(auOf g,0)/\Norm g/\g.sy=a.sy.toNat/\lng g 0=fun w=>acceptsM a (wI w):=by
 unfold fixedM at h ⊢
 by_cases hv:validM a=0
 ·rw [if_pos hv] at h ⊢
  refine ⟨valid_VA.1 hv,?_⟩
  cases e:setsM a with
  | none=>rw [e] at h;simp at h
  | some d =>
   rw [e] at h
   simp only at h ⊢
   obtain ⟨h1,h2,h3,_⟩:=setsM_ok e
   obtain ⟨l1,l2,l3⟩:=leastR_lang h1 (by omega)
   rcases checked_cases (leastR d) with ⟨c1,c2⟩ | ⟨_,c2⟩
   ·have hsy:(leastR d).sy=d.sy:=rfl
    refine ⟨leastR d,d,rfl,rfl,c2,⟨l1,c1,?_⟩,by rw [hsy,h3],?_⟩
    ·rw [l3,hsy];exact leastR_eq h1 (by omega)
    ·rw [l3];exact funext fun w=>sets_lang (valid_VA.1 hv) e w
   ·rw [c2] at h;simp at h
 ·rw [if_neg hv] at h
  exact absurd h hv
theorem cl_noeps {n:Nat} {r:Nat->Nat->Bool} {s:List Bool} (hl:s.length=n) (hr:∀ i j,r i j=false):cl n r s=s :=
 (cl_is hl).uniq ⟨hl,fun _ h=>h,fun i j _ h _=>(by rw [hr] at h;cases h),fun P h _ j hj=>h j hj⟩
theorem auOf_eps {g:Gr} (h:GrOk g) (i j:Nat):epsR (auOf g) i j=false:=by
 cases e:epsR (auOf g) i j with
 | false=>rfl
 | true =>
  obtain ⟨e',he,h1⟩:=List.any_eq_true.1 e
  obtain ⟨i,x,_,_,_,rfl⟩:=(mem_auOf h).1 he
  simp only [decide_eq_true_eq] at h1
  omega
theorem auOf_cl {g:Gr} (h:GrOk g) {s:List Bool} (hl:s.length=g.acc.length):clA (auOf g) s=s:=cl_noeps hl (auOf_eps h)
theorem auOf_first {g:Gr} (h:GrOk g):firstA (auOf g)=oneS g.acc.length 0:=auOf_cl h (oneS_len _ _)
theorem auOf_any {g:Gr} (h:GrOk g) {i x:Nat} (hi:i<g.acc.length) (hx:x<g.sy):anyA (auOf g) (oneS g.acc.length i) (x:Int)=true ↔ ¬ gto g i x<0:=by
 unfold anyA
 simp only [List.any_eq_true,Bool.and_eq_true,decide_eq_true_eq]
 constructor
 ·rintro ⟨e,he,h1,h2⟩
  obtain ⟨j,y,_,_,h5,rfl⟩:=(mem_auOf h).1 he
  have e1:=(oneS_bt.1 h2).2
  simp only [Int.toNat_natCast] at e1
  have e2:y=x:=Int.ofNat_inj.1 h1
  rw [e1,e2] at h5
  exact h5
 ·intro h0
  exact ⟨_,(mem_auOf h).2 ⟨i,x,hi,hx,h0,rfl⟩,rfl,oneS_bt.2 ⟨hi,rfl⟩⟩
theorem auOf_after {g:Gr} (h:GrOk g) {i x:Nat} (hi:i<g.acc.length) (hx:x<g.sy) (h0:¬ gto g i x<0):afterA (auOf g) (oneS g.acc.length i) (x:Int)=oneS g.acc.length (gto g i x).toNat:=by
 rw [afterA,auOf_cl h (imgA_len _ _ _)]
 refine bt_ext (by rw [imgA_len,oneS_len];rfl) fun j _=>?_
 rw [imgA_bt,oneS_bt]
 constructor
 ·rintro ⟨hj,e,he,h1,h2,h3⟩
  obtain ⟨k,y,_,_,h5,rfl⟩:=(mem_auOf h).1 he
  have e1:=(oneS_bt.1 h2).2
  simp only [Int.toNat_natCast] at e1
  have e2:y=x:=Int.ofNat_inj.1 h1
  subst e1 e2
  exact ⟨hj,by simp only at h3;omega⟩
 ·rintro ⟨hj,rfl⟩
  exact ⟨hj,_,(mem_auOf h).2 ⟨i,x,hi,hx,h0,rfl⟩,rfl,oneS_bt.2 ⟨hi,rfl⟩,by simp only;omega⟩
theorem sets_auOf {g:Gr} (h:GrOk g) (hn:g.acc.length<=256):∃ d,setsM (auOf g)=some d:=by
 have hsy:(auOf g).sy.toNat=g.sy:=Int.toNat_natCast _
 obtain ⟨l,rows,h1,_⟩:=bfs_small (M:=256) (next:=nextA (auOf g)) (sy:=g.sy) (first:=firstA (auOf g)) (S:=(List.range g.acc.length).map (oneS g.acc.length)) (by simpa using hn)
  (by rw [auOf_first h];exact List.mem_map.2 ⟨0,List.mem_range.2 h.n,rfl⟩)
  (fun k hk x t hx ht=>by
   obtain ⟨i,hi,rfl⟩:=List.mem_map.1 hk
   rw [List.mem_range] at hi
   unfold nextA at ht
   split at ht
   ·rename_i ha
    have h0:=(auOf_any h hi hx).1 ha
    obtain rfl:=Option.some.inj ht
    rw [auOf_after h hi hx h0]
    exact List.mem_map.2 ⟨_,List.mem_range.2 (gto_lt h h0),rfl⟩
   ·cases ht)
 exact ⟨_,by rw [setsM,hsy,h1];rfl⟩
theorem accepts_auOf {g:Gr} (h:GrOk g):∀ (w:List Nat) (i:Nat),i<g.acc.length->acceptsGo (auOf g) (wI w) (oneS g.acc.length i)=lang g w i
 | [],i,hi=>by
  show meets (oneS g.acc.length i) g.acc=bt g.acc i
  cases e:bt g.acc i with
  | true=>exact meets_iff.2 ⟨i,oneS_bt.2 ⟨hi,rfl⟩,e⟩
  | false =>
   cases e2:meets (oneS g.acc.length i) g.acc with
   | false=>rfl
   | true =>
    obtain ⟨j,h1,h2⟩:=meets_iff.1 e2
    obtain ⟨_,rfl⟩:=oneS_bt.1 h1
    rw [e] at h2;cases h2
 | x::w,i,hi=>by
  show acceptsGo (auOf g) ((x:Int)::wI w) _=_
  rw [acceptsGo]
  by_cases hx:x<g.sy
  ·have hsy:¬ ((x:Int)<0 \/ (auOf g).sy<=(x:Int)):=by show ¬ ((x:Int)<0 \/ (g.sy:Int)<=(x:Int));omega
   rw [if_neg hsy,lang]
   by_cases h0:gto g i x<0
   ·rw [if_pos h0]
    have hno:∀ j,bt (afterA (auOf g) (oneS g.acc.length i) (x:Int)) j=false:=fun j=>by
     rw [afterA,auOf_cl h (imgA_len _ _ _)]
     cases e:bt (imgA (auOf g) (oneS g.acc.length i) (x:Int)) j with
     | false=>rfl
     | true =>
      obtain ⟨_,e',he,h1,h2,h3⟩:=imgA_bt.1 e
      have:=(auOf_any h hi hx).1 (List.any_eq_true.2 ⟨e',he,by rw [h2,h1];simp⟩)
      exact absurd h0 this
    have e1:afterA (auOf g) (oneS g.acc.length i) (x:Int)=noneS g.acc.length:=bt_ext (by rw [afterA_len];simp [noneS,auOf]) fun j _=>by rw [hno,noneS_bt]
    rw [e1]
    have dead:∀ (w:List Int),acceptsGo (auOf g) w (noneS g.acc.length)=false:=by
     intro w
     induction w with
     | nil =>
      show meets (noneS g.acc.length) g.acc=false
      cases e:meets (noneS g.acc.length) g.acc with
      | false=>rfl
      | true=>obtain ⟨i,h1,_⟩:=meets_iff.1 e;rw [noneS_bt] at h1;cases h1
     | cons y w ih =>
      rw [acceptsGo]
      split
      ·rfl
      ·have e2:afterA (auOf g) (noneS g.acc.length) y=noneS g.acc.length:=by
        rw [afterA,auOf_cl h (imgA_len _ _ _)]
        refine bt_ext (by rw [imgA_len];simp [noneS,auOf]) fun j _=>?_
        rw [imgA_bt]
        constructor
        ·rintro ⟨_,_,_,_,h2,_⟩;rw [noneS_bt] at h2;cases h2
        ·intro h2;rw [noneS_bt] at h2;cases h2
       rw [e2];exact ih
    exact dead _
   ·rw [if_neg h0,auOf_after h hi hx h0]
    exact accepts_auOf h w _ (gto_lt h h0)
  ·rw [if_pos (by show (x:Int)<0 \/ (g.sy:Int)<=(x:Int);omega),lang_sy h (x::w) i ⟨x,by simp,by omega⟩]
theorem accepts_norm {g:Gr} (h:GrOk g) (hv:VA (auOf g)) (w:List Nat):acceptsM (auOf g) (wI w)=lang g w 0:=by
 rw [acceptsM,if_pos (valid_VA.2 hv),auOf_first h]
 exact accepts_auOf h w 0 h.n
theorem fixed_again {g:Gr} (h:Norm g):fixedM (auOf g)=(auOf g,0):=by
 have hn:g.acc.length<=256:=h.va.n.2
 obtain ⟨d,hd⟩:=sets_auOf h.ok hn
 obtain ⟨d1,d2,d3,_⟩:=setsM_ok hd
 have hsy:(auOf g).sy.toNat=g.sy:=Int.toNat_natCast _
 have e:lng d 0=lng g 0:=funext fun w=>by
  show lang d w 0=lang g w 0
  rw [sets_lang h.va hd,accepts_norm h.ok h.va]
 have e2:leastR d=g:=by
  rw [leastR_eq d1 (by omega),e,d3,hsy];exact h.can.symm
 rw [fixedM,if_pos (valid_VA.2 h.va),hd]
 simp only [e2]
 rw [checkedM,if_pos (valid_VA.2 h.va)]
def natB:List Bool->Nat
 | []=>0
 | b::l=>b.toNat+2*natB l
theorem natB_bit:∀ (l:List Bool) (i:Nat),(natB l).testBit i=l.getD i false
 | [],i=>by simp [natB]
 | b::l,0=>by
  rw [natB,Nat.testBit_zero]
  cases b <;> simp
 | b::l,i+1=>by
  rw [natB,Nat.testBit_add_one]
  have:(b.toNat+2*natB l) / 2=natB l:=by cases b <;> simp <;> omega
  rw [this,natB_bit l i];rfl
def wdv (s:List Bool) (k:Nat):BitVec 64:=BitVec.ofNat 64 (natB ((List.range 64).map fun i=>bt s (64*k+i)))
theorem wdv_bit (s:List Bool) (k i:Nat):(wdv s k).getLsbD i=(decide (i<64) && bt s (64*k+i)):=by
 rw [wdv,BitVec.getLsbD_ofNat,natB_bit]
 by_cases h:i<64
 ·simp [h,List.getD_eq_getElem?_getD]
 ·simp [h]
theorem wdv_or (s t:List Bool) (k:Nat):wdv (orS s t) k=wdv s k ||| wdv t k:=by
 apply BitVec.eq_of_getLsbD_eq
 intro i hi
 rw [BitVec.getLsbD_or,wdv_bit,wdv_bit,wdv_bit]
 have:bt (orS s t) (64*k+i)=(bt s (64*k+i) || bt t (64*k+i)):=by
  rw [Bool.eq_iff_iff,orS_bt,Bool.or_eq_true]
 rw [this]
 simp [hi]
theorem wdv_none (n k:Nat):wdv (noneS n) k=0#64:=by
 apply BitVec.eq_of_getLsbD_eq
 intro i hi
 rw [wdv_bit,noneS_bt];simp
def putS (s:List Bool) (i:Nat):List Bool:=s.set i true
theorem putS_len (s:List Bool) (i:Nat):(putS s i).length=s.length:=by simp [putS]
theorem putS_bt {s:List Bool} {i j:Nat} (hi:i<s.length):bt (putS s i) j=(decide (j=i) || bt s j):=by
 rw [bt,putS,List.getD_eq_getElem?_getD,List.getElem?_set]
 by_cases h:i=j
 ·subst h;simp [hi]
 ·rw [if_neg h,<-List.getD_eq_getElem?_getD]
  have:¬ j=i:=fun e=>h e.symm
  simp [this]
theorem wdv_put {s:List Bool} {i:Nat} (hi:i<s.length) (k:Nat):wdv (putS s i) k=if k=i / 64 then wdv s k ||| BitVec.twoPow 64 (i % 64) else wdv s k:=by
 apply BitVec.eq_of_getLsbD_eq
 intro j hj
 rw [wdv_bit,putS_bt hi]
 by_cases hk:k=i / 64
 ·rw [if_pos hk,BitVec.getLsbD_or,wdv_bit,BitVec.getLsbD_twoPow]
  have e:decide (64*k+j=i)=decide (i % 64=j):=by rw [decide_eq_decide];omega
  have e2:i % 64<64:=Nat.mod_lt _ (by omega)
  rw [e]
  simp only [hj,e2,decide_true,Bool.true_and]
  rw [Bool.or_comm]
 ·rw [if_neg hk,wdv_bit]
  have e:decide (64*k+j=i)=false:=by rw [decide_eq_false_iff_not];omega
  rw [e];simp
theorem wdv_has {s:List Bool} {i:Nat}:(wdv s (i / 64)).getLsbD (i % 64)=bt s i:=by
 rw [wdv_bit]
 have e2:i % 64<64:=Nat.mod_lt _ (by omega)
 have e3:64*(i / 64)+i % 64=i:=Nat.div_add_mod i 64
 rw [e3];simp [e2]
theorem word_zero {x:BitVec 64}:x=0#64 ↔ ∀ i,i<64->x.getLsbD i=false:=by
 constructor
 ·rintro rfl i _;simp
 ·intro h
  apply BitVec.eq_of_getLsbD_eq
  intro i hi
  rw [h i hi];simp
theorem meets_words {s t:List Bool} (hs:s.length<=256):meets s t=true ↔ ∃ k,k<4/\wdv s k &&& wdv t k ≠ 0#64:=by
 rw [meets_iff]
 constructor
 ·rintro ⟨i,h1,h2⟩
  have:=bt_lt h1
  refine ⟨i / 64,by omega,fun h=>?_⟩
  have h3:=word_zero.1 h (i % 64) (Nat.mod_lt _ (by omega))
  rw [BitVec.getLsbD_and,wdv_has,wdv_has,h1,h2] at h3
  cases h3
 ·rintro ⟨k,_,h⟩
  have h':¬ ∀ i,i<64->(wdv s k &&& wdv t k).getLsbD i=false:=fun h2=>h (word_zero.2 h2)
  rw [Classical.not_forall] at h'
  obtain ⟨i,h'⟩:=h'
  rw [Classical.not_imp] at h'
  obtain ⟨hi,h'⟩:=h'
  rw [BitVec.getLsbD_and,wdv_bit,wdv_bit] at h'
  simp only [hi,decide_true,Bool.true_and,Bool.not_eq_false,Bool.and_eq_true] at h'
  exact ⟨_,h'.1,h'.2⟩
theorem fresh_iff {s t:List Bool}:freshB s t=true ↔ ∃ i,bt s i=true/\bt t i=false:=by
 unfold freshB
 rw [List.any_eq_true]
 constructor
 ·rintro ⟨i,_,h⟩
  rw [Bool.and_eq_true,Bool.not_eq_true'] at h
  exact ⟨i,h⟩
 ·rintro ⟨i,h1,h2⟩
  exact ⟨i,List.mem_range.2 (bt_lt h1),by rw [h1,h2];rfl⟩
theorem fresh_words {s t:List Bool} (hs:s.length<=256):freshB s t=true ↔ ∃ k,k<4/\wdv s k &&& ~~~ wdv t k ≠ 0#64:=by
 rw [fresh_iff]
 constructor
 ·rintro ⟨i,h1,h2⟩
  have:=bt_lt h1
  refine ⟨i / 64,by omega,fun h=>?_⟩
  have hm:i % 64<64:=Nat.mod_lt _ (by omega)
  have h3:=word_zero.1 h (i % 64) hm
  rw [BitVec.getLsbD_and,BitVec.getLsbD_not,wdv_has,wdv_has,h1,h2] at h3
  simp [hm] at h3
 ·rintro ⟨k,_,h⟩
  have h':¬ ∀ i,i<64->(wdv s k &&& ~~~ wdv t k).getLsbD i=false:=fun h2=>h (word_zero.2 h2)
  rw [Classical.not_forall] at h'
  obtain ⟨i,h'⟩:=h'
  rw [Classical.not_imp] at h'
  obtain ⟨hi,h'⟩:=h'
  rw [BitVec.getLsbD_and,BitVec.getLsbD_not,wdv_bit,wdv_bit] at h'
  simp only [hi,decide_true,Bool.true_and,Bool.not_eq_false,Bool.and_eq_true,Bool.not_eq_true'] at h'
  exact ⟨_,h'.1,h'.2⟩
theorem words_ext {s t:List Bool} (hl:s.length=t.length) (h2:s.length<=256) (h:∀ k,k<4->wdv s k=wdv t k):s=t:=by
 refine bt_ext hl fun i hi=>?_
 have e:=congrArg (fun x=>BitVec.getLsbD x (i % 64)) (h (i / 64) (by omega))
 simp only [wdv_has] at e
 rw [e]
def wdi (s:List Bool) (k:Nat):Int:=((wdv s k).toNat:Int)
theorem ofInt_word (x:BitVec 64):BitVec.ofInt 64 ((x.toNat:Nat):Int)=x:=by
 rw [BitVec.ofInt_natCast,BitVec.ofNat_toNat,BitVec.setWidth_eq]
theorem wdi_none (n k:Nat):wdi (noneS n) k=0:=by rw [wdi,wdv_none];rfl
theorem word_int {x:BitVec 64}:((x.toNat:Nat):Int)=0 ↔ x=0#64:=by
 constructor
 ·intro h;exact BitVec.eq_of_toNat_eq (by simpa using h)
 ·rintro rfl;rfl
end P5
namespace Go.Proofs.Ytjilachpkjlhdaa
open Go.RowKit Dak P5
attribute [go_sem_proc] Nat.reduceLT Nat.reduceEqDiff Nat.reduceAdd Nat.reduceSub Nat.reduceMul Nat.reducePow Nat.reduceLeDiff reduceCtorEq Int.reduceToNat
attribute [go_sem_proc ↓] reduceIte
theorem _root_.Dak.WkE.kp [Globs] {n:Nat} {env env':List (Nat × AV)} {objs:List AObj} (h:Agree env env':=by simp only [go_sem];try rfl):WkE n ⟨env,objs⟩ ⟨env',objs⟩:=WkE.keep h
instance:Globs:=⟨fun _=>[]⟩
def I64 (n:Int):Prop:=-9223372036854775808<=n/\n<=9223372036854775807
abbrev vi (n:Int):AV:=.val (.int .i64 n)
abbrev vb (b:Bool):AV:=.val (.bool b)
abbrev vw (n:Int):AV:=.val (.int .u64 n)
abbrev vc (n:Int):AV:=.val (.int .u8 n)
abbrev vints (l:List Int):AV:=.list 1 (l.map vi)
abbrev vbools (l:List Bool):AV:=.list 1 (l.map vb)
abbrev vrows (l:List (List Int)):AV:=.list 1 (l.map vints)
abbrev vsets (l:List (List Bool)):AV:=.list 1 (l.map vbools)
abbrev vpair (p:PI):AV:=.agg [vi p.1,vi p.2]
abbrev vedge (e:Edg):AV:=.agg [vi e.1,vi e.2.1,vi e.2.2]
abbrev vedges (l:List Edg):AV:=.list 3 (l.map vedge)
abbrev vau (a:Au):AV:=.agg [vi a.sy,vbools a.acc,vedges a.ed]
abbrev vset (s:List Bool):AV:=.agg [vw (wdi s 0),vw (wdi s 1),vw (wdi s 2),vw (wdi s 3)]
theorem wrap_id {n:Int} (h1 : -9223372036854775808<=n) (h2:n<=9223372036854775807):IntKind.i64.wrap n=n:=by rw [IntKind.wrap_i64];omega
theorem wrap_u {n:Int} (h1:0<=n) (h2:n<18446744073709551616):IntKind.u64.wrap n=n:=by rw [IntKind.wrap_u64];omega
theorem wrap_s (k:Nat) (h:k<=9223372036854775806):IntKind.i64.wrap ((k:Int)+1)=((k+1:Nat):Int):=by rw [wrap_id (by omega) (by omega)];omega
theorem isT_map {α : Type} {f : α->AV} (h:∀ x,(f x).isT=true):∀ l:List α,((l.map f).all AV.isT)=true
 | []=>rfl
 | x::l=>by simp only [List.map_cons,List.all_cons,h,isT_map h l,Bool.and_self]
theorem inn_map {α : Type} {f : α->AV} {k:Nat} (h:∀ x,(f x).inn k=true):∀ {l:List α},((l.map f).all (AV.inn k))=true
 | []=>rfl
 | x::l=>by simp only [List.map_cons,List.all_cons,h,inn_map h,Bool.and_self]
def idxGo {α : Type} (p : α->Bool):List α->Nat->Int
 | [],_=>-1
 | x::r,k=>if p x=true then k else idxGo p r (k+1)
theorem idxGo_any {α : Type} (p : α->Bool):∀ (l:List α) (k:Nat),decide (0<=idxGo p l k)=l.any p
 | [],_=>rfl
 | x::r,k=>by
  rw [idxGo]
  cases h:p x with
  | true=>simp [h]
  | false=>rw [if_neg (by simp),idxGo_any p r (k+1)];simp [h]
theorem isT_clo {fn:Fn} {caps:List AV} (h:(caps.all AV.isT1)=true):(AV.clo fn caps).isT=true:=h
theorem isT1s {caps:List AV} (h:(caps.all AV.isT1)=true):(caps.all AV.isT)=true:=List.all_eq_true.2 fun x hx=>isT1_isT (List.all_eq_true.1 h x hx)
theorem IndexFunc88_s (g:FuncId) (caps:List AV) (hcap:(caps.all AV.isT1)=true) (p:Int->Bool) (l:List (Int)) (hl:l.length<=9223372036854775806) (hp:∀ x ∈ l,Ctr Try.prog g (vi x::caps) (vb (p x))):Ctr Try.prog 88 [.list 1 (l.map vi),.clo (.func g) caps] (vi (idxGo p l 0)):=by
 refine specC f88 (by simp) fun F0 w0=>?_
 unfold c88
 refine CwpE.cut (st:=⟨[(0,.list 1 (l.map vi)),(1,.clo (.func g) caps)],[]⟩) ?_ ?_
 ·simp only [go_sem]
  exact ⟨_,WkE.kp,rfl⟩
 refine CwpE.step (fun s=>idxGo p l 0 = -1/\s=⟨[],[]⟩) ?_ ?_
 rotate_left
 ·rintro s ⟨h,rfl⟩
  rw [h]
  refine CwpE.vc ?_
  simp only [go_sem]
  exact .tree _ rfl
 simp only [go_sem]
 refine loopX 0 (fun m s=>∃ k:Nat,m=l.length-k/\k<=l.length/\idxGo p l 0=idxGo p (l.drop k) k/\s=⟨[(0,.list 1 (l.map vi)),(1,.clo (.func g) caps),(7,vi l.length),(8,vi k)],[]⟩)
  (fun s=>idxGo p l 0 = -1/\s=⟨[],[]⟩) l.length
  ⟨[(0,.list 1 (l.map vi)),(1,.clo (.func g) caps),(7,vi l.length),(8,vi (0:Nat))],[]⟩ (WkE.keep (by simp only [go_sem];rfl)) ⟨0,by omega,by omega,rfl,rfl⟩ ?_ ?_
 rotate_left
 ·rintro s ⟨h,rfl⟩
  simp only [go_sem]
  exact ⟨_,.refl _ _,h,rfl⟩
 rintro m s ⟨k,rfl,hk,hi,rfl⟩
 by_cases hlt:k<l.length
 ·have g1:(k:Int)<(l.length:Int):=by omega
  have g0:(0:Int)<=(k:Int):=by omega
  have w1:IntKind.i64.wrap ((k:Int)+1)=((k+1:Nat):Int):=by rw [wrap_id (by omega) (by omega)];omega
  rw [List.drop_eq_getElem_cons hlt,idxGo] at hi
  simp only [go_sem,g1,g0,List.getElem?_map,List.getElem?_eq_getElem hlt]
  refine callCN (hp l[k] (List.getElem_mem hlt)) (snaps_self (vi l[k]::caps) (by simp only [List.all_cons,isT1s hcap,Bool.and_true];rfl) _) ?_
  cases hb:p l[k] with
  | true =>
   rw [if_pos hb] at hi
   rw [hi]
   simp only [go_sem]
   exact .tree _ rfl
  | false =>
   rw [if_neg (by rw [hb];simp)] at hi
   simp only [go_sem,w1]
   exact ⟨l.length-(k+1),⟨[(0,.list 1 (l.map vi)),(1,.clo (.func g) caps),(7,vi l.length),(8,vi (k+1:Nat))],[]⟩,by omega,WkE.kp,k+1,rfl,by omega,hi,rfl⟩
 ·have g1:¬ (k:Int)<(l.length:Int):=by omega
  rw [List.drop_eq_nil_of_le (by omega),idxGo] at hi
  simp only [go_sem,g1]
  exact ⟨⟨[],[]⟩,WkE.keep trivial,hi,rfl⟩
theorem ContainsFunc86_s (g:FuncId) (caps:List AV) (hcap:(caps.all AV.isT1)=true) (p:Int->Bool) (l:List (Int)) (hl:l.length<=9223372036854775806) (hp:∀ x ∈ l,Ctr Try.prog g (vi x::caps) (vb (p x))):Ctr Try.prog 86 [.list 1 (l.map vi),.clo (.func g) caps] (vb (l.any p)):=by
 refine specE f86 (by simp) fun F0 w0=>?_
 simp only [c86,go_sem,↓reduceIte,reduceCtorEq,Nat.reduceLT,Nat.reduceEqDiff]
 refine callN (IndexFunc88_s g caps hcap p l hl hp) (snaps_self [.list 1 (l.map vi),.clo (.func g) caps] (by simp only [List.all_cons,List.all_nil,Bool.and_true];exact Bool.and_eq_true_iff.2 ⟨rfl,isT_clo hcap⟩) _) ?_
 simp only [go_sem]
 rw [idxGo_any]
 exact .tree _ rfl
theorem IndexFunc72_s (g:FuncId) (caps:List AV) (hcap:(caps.all AV.isT1)=true) (p:Edg->Bool) (l:List (Edg)) (hl:l.length<=9223372036854775806) (hp:∀ x ∈ l,Ctr Try.prog g (vedge x::caps) (vb (p x))):Ctr Try.prog 72 [.list 3 (l.map vedge),.clo (.func g) caps] (vi (idxGo p l 0)):=by
 refine specC f72 (by simp) fun F0 w0=>?_
 unfold c72
 refine CwpE.cut (st:=⟨[(0,.list 3 (l.map vedge)),(1,.clo (.func g) caps)],[]⟩) ?_ ?_
 ·simp only [go_sem]
  exact ⟨_,WkE.kp,rfl⟩
 refine CwpE.step (fun s=>idxGo p l 0 = -1/\s=⟨[],[]⟩) ?_ ?_
 rotate_left
 ·rintro s ⟨h,rfl⟩
  rw [h]
  refine CwpE.vc ?_
  simp only [go_sem]
  exact .tree _ rfl
 simp only [go_sem]
 refine loopX 0 (fun m s=>∃ k:Nat,m=l.length-k/\k<=l.length/\idxGo p l 0=idxGo p (l.drop k) k/\s=⟨[(0,.list 3 (l.map vedge)),(1,.clo (.func g) caps),(7,vi l.length),(8,vi k)],[]⟩)
  (fun s=>idxGo p l 0 = -1/\s=⟨[],[]⟩) l.length
  ⟨[(0,.list 3 (l.map vedge)),(1,.clo (.func g) caps),(7,vi l.length),(8,vi (0:Nat))],[]⟩ (WkE.keep (by simp only [go_sem];rfl)) ⟨0,by omega,by omega,rfl,rfl⟩ ?_ ?_
 rotate_left
 ·rintro s ⟨h,rfl⟩
  simp only [go_sem]
  exact ⟨_,.refl _ _,h,rfl⟩
 rintro m s ⟨k,rfl,hk,hi,rfl⟩
 by_cases hlt:k<l.length
 ·have g1:(k:Int)<(l.length:Int):=by omega
  have g0:(0:Int)<=(k:Int):=by omega
  have w1:IntKind.i64.wrap ((k:Int)+1)=((k+1:Nat):Int):=by rw [wrap_id (by omega) (by omega)];omega
  rw [List.drop_eq_getElem_cons hlt,idxGo] at hi
  simp only [go_sem,g1,g0,List.getElem?_map,List.getElem?_eq_getElem hlt]
  refine callCN (hp l[k] (List.getElem_mem hlt)) (snaps_self (vedge l[k]::caps) (by simp only [List.all_cons,isT1s hcap,Bool.and_true];rfl) _) ?_
  cases hb:p l[k] with
  | true =>
   rw [if_pos hb] at hi
   rw [hi]
   simp only [go_sem]
   exact .tree _ rfl
  | false =>
   rw [if_neg (by rw [hb];simp)] at hi
   simp only [go_sem,w1]
   exact ⟨l.length-(k+1),⟨[(0,.list 3 (l.map vedge)),(1,.clo (.func g) caps),(7,vi l.length),(8,vi (k+1:Nat))],[]⟩,by omega,WkE.kp,k+1,rfl,by omega,hi,rfl⟩
 ·have g1:¬ (k:Int)<(l.length:Int):=by omega
  rw [List.drop_eq_nil_of_le (by omega),idxGo] at hi
  simp only [go_sem,g1]
  exact ⟨⟨[],[]⟩,WkE.keep trivial,hi,rfl⟩
theorem ContainsFunc39_s (g:FuncId) (caps:List AV) (hcap:(caps.all AV.isT1)=true) (p:Edg->Bool) (l:List (Edg)) (hl:l.length<=9223372036854775806) (hp:∀ x ∈ l,Ctr Try.prog g (vedge x::caps) (vb (p x))):Ctr Try.prog 39 [.list 3 (l.map vedge),.clo (.func g) caps] (vb (l.any p)):=by
 refine specE f39 (by simp) fun F0 w0=>?_
 simp only [c39,go_sem,↓reduceIte,reduceCtorEq,Nat.reduceLT,Nat.reduceEqDiff]
 refine callN (IndexFunc72_s g caps hcap p l hl hp) (snaps_self [.list 3 (l.map vedge),.clo (.func g) caps] (by simp only [List.all_cons,List.all_nil,Bool.and_true];exact Bool.and_eq_true_iff.2 ⟨rfl,isT_clo hcap⟩) _) ?_
 simp only [go_sem]
 rw [idxGo_any]
 exact .tree _ rfl
def aroundL (n most:Int):Int:=if most<1 then 0 else (if n<0 then -(n+1) else n) % most
theorem aroundL_bd (n most:Int) (h:1<=most):0<=aroundL n most/\aroundL n most<most:=by
 unfold aroundL
 rw [if_neg (by omega)]
 exact ⟨Int.emod_nonneg _ (by omega),Int.emod_lt_of_pos _ (by omega)⟩
theorem Around_s (n most:Int) (hn:I64 n) (hm:I64 most):Ctr Try.prog 33 [vi n,vi most] (vi (aroundL n most)):=by
 obtain ⟨h1,h2⟩:=hn
 obtain ⟨h3,h4⟩:=hm
 refine specE f33 (by simp) fun F0 w0=>?_
 by_cases a:n<0
 ·have e1:IntKind.i64.wrap (n+1)=n+1:=wrap_id (by omega) (by omega)
  have e2:IntKind.i64.wrap (0-(n+1)) = -(n+1):=by rw [wrap_id (by omega) (by omega)];omega
  by_cases b:most<1
  ·simp only [c33,go_sem,↓reduceIte,reduceCtorEq,Nat.reduceLT,Nat.reduceEqDiff,a,b,e1,e2]
   simp only [aroundL,b,if_true]
   exact .tree _ rfl
  ·have b0:¬ most=0:=by omega
   simp only [c33,go_sem,↓reduceIte,reduceCtorEq,Nat.reduceLT,Nat.reduceEqDiff,a,b,e1,e2,b0]
   have:(-(n+1)).tmod most=aroundL n most:=by
    simp only [aroundL,a,b,if_true,if_false]
    rw [Int.tmod_eq_emod_of_nonneg (by omega)]
   rw [this]
   exact .tree _ rfl
 ·by_cases b:most<1
  ·simp only [c33,go_sem,↓reduceIte,reduceCtorEq,Nat.reduceLT,Nat.reduceEqDiff,a,b]
   simp only [aroundL,b,if_true]
   exact .tree _ rfl
  ·have b0:¬ most=0:=by omega
   simp only [c33,go_sem,↓reduceIte,reduceCtorEq,Nat.reduceLT,Nat.reduceEqDiff,a,b,b0]
   have:n.tmod most=aroundL n most:=by
    simp only [aroundL,a,b,if_false]
    rw [Int.tmod_eq_emod_of_nonneg (by omega)]
   rw [this]
   exact .tree _ rfl
def atL (l:List Int) (i most:Int):Int:=if i<0 then 0 else match l[i.toNat]? with
 | some x=>aroundL x most
 | none=>0
theorem atL_bd (l:List Int) (i most:Int) (h:1<=most):0<=atL l i most/\atL l i most<most:=by
 unfold atL
 split
 ·omega
 ·split
  ·exact aroundL_bd _ _ h
  ·omega
theorem At_s (l:List Int) (i most:Int) (hl:∀ x ∈ l,I64 x) (hm:I64 most):Ctr Try.prog 54 [vints l,vi i,vi most] (vi (atL l i most)):=by
 refine specE f54 (by simp) fun F0 w0=>?_
 by_cases a:i<0
 ·simp only [c54,go_sem,↓reduceIte,reduceCtorEq,Nat.reduceLT,Nat.reduceEqDiff,Nat.reduceAdd,a]
  simp only [atL,a,if_true]
  exact .tree _ rfl
 ·by_cases b:(l.length:Int)<=i
  ·simp only [c54,go_sem,↓reduceIte,reduceCtorEq,Nat.reduceLT,Nat.reduceEqDiff,Nat.reduceAdd,a,b,List.length_map]
   have:l[i.toNat]? = none:=by rw [List.getElem?_eq_none];omega
   simp only [atL,a,if_false,this]
   exact .tree _ rfl
  ·have hlt:i.toNat<l.length:=by omega
   have a':0<=i:=by omega
   simp only [c54,go_sem,↓reduceIte,reduceCtorEq,Nat.reduceLT,Nat.reduceEqDiff,Nat.reduceAdd,a,b,a',List.length_map,List.getElem?_map,List.getElem?_eq_getElem hlt]
   refine callF (Around_s _ _ (hl _ (List.getElem_mem _)) hm) (.cons (.tree _ rfl) (.cons (.tree _ rfl) .nil)) rfl ?_
   have:atL l i most=aroundL l[i.toNat] most:=by simp only [atL,a,if_false,List.getElem?_eq_getElem hlt]
   rw [this]
   simp only [go_sem]
   exact .tree _ rfl
theorem takeS_eq {α : Type} {A B:List α} {k:Nat} (h:A.take k=B.take k) (ha:k<A.length) (hb:k<B.length) (he:A[k]=B[k]):A.take (k+1)=B.take (k+1):=by
 rw [List.take_succ_eq_append_getElem ha,List.take_succ_eq_append_getElem hb,h,he]
theorem SameInts_s (A B:List Int) (hA:A.length<=9223372036854775806):Ctr Try.prog 20 [vints A,vints B] (vb (decide (A=B))):=by
 refine specE f20 (by simp) fun F0 w0=>?_
 by_cases hl:A.length=B.length
 ·have hl':(A.length:Int)=(B.length:Int):=by omega
  simp only [c20,go_sem,↓reduceIte,reduceCtorEq,Nat.reduceLT,Nat.reduceEqDiff,hl']
  refine loopE (fun m s=>∃ k:Nat,m=B.length-k/\k<=B.length/\A.take k=B.take k/\s=⟨[(0,vints A),(1,vints B),(5,vi k)],[]⟩) B.length ⟨[(0,vints A),(1,vints B),(5,vi (0:Nat))],[]⟩ (WkE.keep (by simp [go_sem,↓reduceIte,reduceCtorEq,Nat.reduceEqDiff])) ⟨0,by simp⟩ ?_
  rintro m s ⟨k,rfl,hk,ht,rfl⟩
  by_cases hlt:k<B.length
  ·have hltA:k<A.length:=by omega
   have h1:(k:Int)<(A.length:Int):=by omega
   have h0:(0:Int)<=(k:Int):=by omega
   have hw:IntKind.i64.wrap ((k:Int)+1)=((k+1:Nat):Int):=by rw [wrap_id (by omega) (by omega)];omega
   by_cases he:A[k]=B[k]
   ·simp only [go_sem,h1,h0,List.getElem?_map,List.getElem?_eq_getElem hlt,List.getElem?_eq_getElem hltA,he,hw]
    refine ⟨B.length-(k+1),⟨[(0,vints A),(1,vints B),(5,vi (k+1:Nat))],[]⟩,by omega,WkE.keep (by simp [go_sem,↓reduceIte,reduceCtorEq,Nat.reduceEqDiff]),k+1,rfl,by omega,takeS_eq ht hltA hlt he,rfl⟩
   ·simp only [go_sem,h1,h0,List.getElem?_map,List.getElem?_eq_getElem hlt,List.getElem?_eq_getElem hltA,he]
    have:decide (A=B)=false:=by rw [decide_eq_false_iff_not];rintro rfl;exact he rfl
    rw [this];exact .tree _ rfl
  ·have hkB:k=B.length:=by omega
   have h1:¬ (k:Int)<(A.length:Int):=by omega
   simp only [go_sem,h1]
   have:decide (A=B)=true:=by
    rw [decide_eq_true_eq]
    rw [hkB,List.take_length,<-hl,List.take_length] at ht
    exact ht
   rw [this];exact .tree _ rfl
 ·have hl':¬ (A.length:Int)=(B.length:Int):=by omega
  simp only [c20,go_sem,↓reduceIte,reduceCtorEq,Nat.reduceLT,Nat.reduceEqDiff,hl']
  have:decide (A=B)=false:=by rw [decide_eq_false_iff_not];rintro rfl;exact hl rfl
  rw [this];exact .tree _ rfl
theorem wk_nilN {s:Nat} (e:TypeId):WkE 1 ⟨[(0,.val (.slice none 0 0))],[]⟩ ⟨[(0,.own 0 0 0 0)],[.arr 0 s e []]⟩:=(WkE.nil (n:=1) (env:=[(0,.val (.slice none 0 0))]) (objs:=[]) 0 s e (by omega) rfl).trans (WkE.keep ⟨rfl,trivial⟩)
theorem Clone47_n (l:List Int) (hl:l.length<=100000):CtrN Try.prog 47 [.list 1 (l.map vi)] (.own 0 l.length 0 l.length) [.arr l.length 1 3 (l.map vi)]:=by
 refine specN f47 (by simp) rfl (by simp only [List.all_cons,List.all_nil,Bool.and_true,AObj.innO];exact inn_map (fun _=>rfl)) rfl fun F0 w0=>?_
 unfold c47
 refine CwpE.cut (st:=⟨[(0,.list 1 (l.map vi))],[]⟩) ?_ ?_
 ·simp only [go_sem]
  exact ⟨_,WkE.kp,rfl⟩
 have q1:l.length*8<=140737488355328:=by omega
 cases l with
 | nil =>
  show CwpE _ _ _ _ _ _ ⟨[(0,.list 1 [])],[]⟩
  refine CwpE.seqJ (fun st=>st=⟨[(0,.list 1 [])],[]⟩) ?_ ?_
  ·refine CwpE.cut (st:=⟨[(4,.anyB),(0,.list 1 [])],[]⟩) ?_ ?_
   ·simp only [go_sem]
    exact ⟨_,WkE.kp,rfl⟩
   refine CwpE.split 4 rfl fun b=>CwpE.vc ?_
   cases b
   ·simp only [go_sem]
    exact ⟨_,WkE.kp,rfl⟩
   ·simp only [go_sem]
    exact ⟨_,rfl,wk_nilN 3⟩
  ·rintro _ rfl
   refine CwpE.vc ?_
   simp only [go_sem]
   exact ⟨_,rfl,.refl _ _⟩
 | cons x l =>
  refine CwpE.vc ?_
  have q2:(l.length+1)*8<=140737488355328:=q1
  have q3:0<l.length+1:=by omega
  simp only [go_sem,q2,q3]
  exact ⟨_,rfl,.refl _ _⟩
theorem Clone67_n (l:List Bool) (hl:l.length<=100000):CtrN Try.prog 67 [.list 1 (l.map vb)] (.own 0 l.length 0 l.length) [.arr l.length 1 4 (l.map vb)]:=by
 refine specN f67 (by simp) rfl (by simp only [List.all_cons,List.all_nil,Bool.and_true,AObj.innO];exact inn_map (fun _=>rfl)) rfl fun F0 w0=>?_
 unfold c67
 refine CwpE.cut (st:=⟨[(0,.list 1 (l.map vb))],[]⟩) ?_ ?_
 ·simp only [go_sem]
  exact ⟨_,WkE.kp,rfl⟩
 have q1:l.length*1<=140737488355328:=by omega
 cases l with
 | nil =>
  show CwpE _ _ _ _ _ _ ⟨[(0,.list 1 [])],[]⟩
  refine CwpE.seqJ (fun st=>st=⟨[(0,.list 1 [])],[]⟩) ?_ ?_
  ·refine CwpE.cut (st:=⟨[(4,.anyB),(0,.list 1 [])],[]⟩) ?_ ?_
   ·simp only [go_sem]
    exact ⟨_,WkE.kp,rfl⟩
   refine CwpE.split 4 rfl fun b=>CwpE.vc ?_
   cases b
   ·simp only [go_sem]
    exact ⟨_,WkE.kp,rfl⟩
   ·simp only [go_sem]
    exact ⟨_,rfl,wk_nilN 4⟩
  ·rintro _ rfl
   refine CwpE.vc ?_
   simp only [go_sem]
   exact ⟨_,rfl,.refl _ _⟩
 | cons x l =>
  refine CwpE.vc ?_
  have q2:(l.length+1)*1<=140737488355328:=q1
  have q3:0<l.length+1:=by omega
  simp only [go_sem,q2,q3]
  exact ⟨_,rfl,.refl _ _⟩
theorem snap_ref {objs:List AObj} {id g el c:Nat} {cs:List AV} (hc:cellsAt objs (.ref id g el c)=some cs) (hT:(cs.all AV.isT)=true):Snap objs (.ref id g el c) (.ptr cs) :=
 .ref id g el c cs cs hc rfl fun i h1 _=>.tree _ (List.all_eq_true.1 hT _ (List.getElem_mem h1))
theorem snap_clo {objs:List AObj} {fn:Fn} {cs ds:List AV} (h:Snaps objs cs ds):Snap objs (.clo fn cs) (.clo fn ds):=.clo fn cs ds h.get.1 h.get.2
def SzA (a:Au):Prop:=a.acc.length<=100000/\a.ed.length<=100000
theorem badE_iff {n:Nat} {sy:Int} {e:Edg}:badE n sy e=true ↔ (e.1<0 \/ (n:Int)<=e.1 \/ e.2.2<0 \/ (n:Int)<=e.2.2 \/ e.2.1 < -1 \/ sy<=e.2.1):=by
 unfold badE;rw [decide_eq_true_iff]
theorem valid_4 {a:Au} (h:64<a.sy \/ 256<(a.acc.length:Int) \/ 4096<(a.ed.length:Int)):validM a=4:=by
 unfold validM
 rw [if_pos (by omega)]
theorem valid_1 {a:Au} (h:¬ (64<a.sy \/ 256<(a.acc.length:Int) \/ 4096<(a.ed.length:Int))) (h2:a.sy<1 \/ (a.acc.length:Int)<1):validM a=1:=by
 unfold validM
 rw [if_neg (by omega),if_pos (by omega)]
theorem valid_e {a:Au} (h:¬ (64<a.sy \/ 256<(a.acc.length:Int) \/ 4096<(a.ed.length:Int))) (h2:¬ (a.sy<1 \/ (a.acc.length:Int)<1)):validM a=if a.ed.any (badE a.acc.length a.sy) then 1 else 0:=by
 unfold validM
 rw [if_neg (by omega)]
 cases a.ed.any (badE a.acc.length a.sy) with
 | true=>rw [if_pos (by simp)];rfl
 | false =>
  rw [if_neg]
  ·rfl
  ·rintro (h | h | h)
   ·omega
   ·omega
   ·cases h
theorem any_drop {α : Type} {p : α->Bool} {l:List α} {k:Nat} (h:k<l.length):(l.drop k).any p=(p l[k] || (l.drop (k+1)).any p):=by
 rw [List.drop_eq_getElem_cons h,List.any_cons]
set_option maxHeartbeats 1000000 in
theorem rValid_s (a:Au) (hz:SzA a):Ctr Try.prog 15 [vau a] (vi (validM a)):=by
 obtain ⟨hz1,hz2⟩:=hz
 refine specC f15 (by simp) fun F0 w0=>?_
 unfold c15
 refine CwpE.cut (st:=⟨[(1,.ref 0 1 0 0)],[.arr 1 3 26 [vau a]]⟩) ?_ ?_
 ·simp only [go_sem]
  exact ⟨_,WkE.kp,rfl⟩
 refine CwpE.cut (st:=⟨[(1,.ref 0 1 0 0),(3,vi a.acc.length)],[.arr 1 3 26 [vau a]]⟩) ?_ ?_
 ·simp only [go_sem,List.length_map]
  exact ⟨_,WkE.kp,rfl⟩
 by_cases h:64<a.sy \/ 256<(a.acc.length:Int) \/ 4096<(a.ed.length:Int)
 ·refine CwpE.step (fun _=>False) ?_ (fun _ h=>h.elim)
  rw [valid_4 h]
  by_cases h1:64<a.sy
  ·simp only [go_sem,h1]
   exact .tree _ rfl
  ·by_cases h2:256<(a.acc.length:Int)
   ·simp only [go_sem,h1,h2]
    exact .tree _ rfl
   ·have h3:4096<(a.ed.length:Int):=by omega
    simp only [go_sem,h1,h2,h3,List.length_map]
    exact .tree _ rfl
 refine CwpE.cut (st:=⟨[(1,.ref 0 1 0 0),(3,vi a.acc.length)],[.arr 1 3 26 [vau a]]⟩) ?_ ?_
 ·have h1:¬ 64<a.sy:=fun e=>h (.inl e)
  have h2:¬ 256<(a.acc.length:Int):=fun e=>h (.inr (.inl e))
  have h3:¬ 4096<(a.ed.length:Int):=fun e=>h (.inr (.inr e))
  simp only [go_sem,h1,h2,h3,List.length_map]
  exact ⟨_,WkE.kp,rfl⟩
 by_cases k:a.sy<1 \/ (a.acc.length:Int)<1
 ·refine CwpE.step (fun _=>False) ?_ (fun _ h=>h.elim)
  rw [valid_1 h k]
  by_cases k1:a.sy<1
  ·simp only [go_sem,k1]
   exact .tree _ rfl
  ·have k2:(a.acc.length:Int)<1:=by omega
   simp only [go_sem,k1,k2]
   exact .tree _ rfl
 refine CwpE.cut (st:=⟨[(1,.ref 0 1 0 0),(3,vi a.acc.length)],[.arr 1 3 26 [vau a]]⟩) ?_ ?_
 ·have k1:¬ a.sy<1:=fun e=>k (.inl e)
  have k2:¬ (a.acc.length:Int)<1:=fun e=>k (.inr e)
  simp only [go_sem,k1,k2]
  exact ⟨_,WkE.kp,rfl⟩
 rw [valid_e h k]
 refine CwpE.vc ?_
 simp only [go_sem]
 refine loopX 0 (fun m s=>∃ i:Nat,m=a.ed.length-i/\i<=a.ed.length/\a.ed.any (badE a.acc.length a.sy)=(a.ed.drop i).any (badE a.acc.length a.sy)/\s=⟨[(1,.ref 0 1 0 0),(3,vi a.acc.length),(4,vi i)],[.arr 1 3 26 [vau a]]⟩)
  (fun s=>a.ed.any (badE a.acc.length a.sy)=false/\s=⟨[],[]⟩) a.ed.length
  ⟨[(1,.ref 0 1 0 0),(3,vi a.acc.length),(4,vi (0:Nat))],[.arr 1 3 26 [vau a]]⟩ (WkE.keep (by simp only [go_sem];rfl)) ⟨0,by omega,by omega,rfl,rfl⟩ ?_ ?_
 rotate_left
 ·rintro s ⟨h,rfl⟩
  rw [h]
  simp only [go_sem]
  exact .tree _ rfl
 rintro m s ⟨i,rfl,hi,he,rfl⟩
 by_cases hlt:i<a.ed.length
 rotate_left
 ·have g1:¬ (i:Int)<(a.ed.length:Int):=by omega
  rw [List.drop_eq_nil_of_le (by omega)] at he
  simp only [go_sem,g1,List.length_map]
  exact ⟨⟨[],[]⟩,(WkE.keep (env':=[]) trivial).trans (WkE.round trivial rfl rfl rfl),he,rfl⟩
 have g1:(i:Int)<(a.ed.length:Int):=by omega
 have g0:(0:Int)<=(i:Int):=by omega
 have w1:=wrap_s i (by omega)
 rw [any_drop hlt] at he
 have hb:=badE_iff (n:=a.acc.length) (sy:=a.sy) (e:=a.ed[i])
 have hg:(a.ed.map vedge)[i]? = some (vedge a.ed[i]):=by rw [List.getElem?_map,List.getElem?_eq_getElem hlt];rfl
 generalize a.ed[i]=e at hb hg he
 have done:badE a.acc.length a.sy e=true->a.ed.any (badE a.acc.length a.sy)=true:=fun h=>by rw [he,h];rfl
 by_cases b1:e.1<0
 ·rw [done (hb.2 (by omega))]
  simp only [go_sem,g1,g0,hg,b1,List.length_map]
  exact .tree _ rfl
 by_cases b2:(a.acc.length:Int)<=e.1
 ·rw [done (hb.2 (by omega))]
  simp only [go_sem,g1,g0,hg,b1,b2,List.length_map]
  exact .tree _ rfl
 by_cases b3:e.2.2<0
 ·rw [done (hb.2 (by omega))]
  simp only [go_sem,g1,g0,hg,b1,b2,b3,List.length_map]
  exact .tree _ rfl
 by_cases b4:(a.acc.length:Int)<=e.2.2
 ·rw [done (hb.2 (by omega))]
  simp only [go_sem,g1,g0,hg,b1,b2,b3,b4,List.length_map]
  exact .tree _ rfl
 by_cases b5:e.2.1 < -1
 ·rw [done (hb.2 (by omega))]
  simp only [go_sem,g1,g0,hg,b1,b2,b3,b4,b5,List.length_map]
  exact .tree _ rfl
 by_cases b6:a.sy<=e.2.1
 ·rw [done (hb.2 (by omega))]
  simp only [go_sem,g1,g0,hg,b1,b2,b3,b4,b5,b6,List.length_map]
  exact .tree _ rfl
 have hf:badE a.acc.length a.sy e=false:=by
  cases h:badE a.acc.length a.sy e with
  | false=>rfl
  | true=>have:=hb.1 h;omega
 rw [hf,Bool.false_or] at he
 simp only [go_sem,g1,g0,hg,b1,b2,b3,b4,b5,b6,w1,List.length_map]
 exact ⟨a.ed.length-(i+1),⟨[(1,.ref 0 1 0 0),(3,vi a.acc.length),(4,vi (i+1:Nat))],[.arr 1 3 26 [vau a]]⟩,by omega,WkE.round (by simp only [go_sem]) rfl (by simp [AObj.innO,AV.inn,AV.inn1]) rfl,i+1,rfl,by omega,he,rfl⟩
theorem bad40_s (a:Au) (e:Edg):Ctr Try.prog 40 [vedge e,.ptr [vi a.acc.length],.ptr [vi a.sy,vbools a.acc,vedges a.ed]] (vb (badE a.acc.length a.sy e)):=by
 refine specE f40 (by simp) fun F0 w0=>?_
 have hb:=badE_iff (n:=a.acc.length) (sy:=a.sy) (e:=e)
 have m1:(if e.2.2<e.1 then e.2.2 else e.1)<0 ↔ (e.1<0 \/ e.2.2<0):=by split <;> omega
 have m2:(a.acc.length:Int)<=(if e.1<e.2.2 then e.2.2 else e.1) ↔ ((a.acc.length:Int)<=e.1 \/ (a.acc.length:Int)<=e.2.2):=by split <;> omega
 by_cases b1:(if e.2.2<e.1 then e.2.2 else e.1)<0
 ·have:badE a.acc.length a.sy e=true:=hb.2 (by have:=m1.1 b1;omega)
  rw [this]
  simp only [c40,go_sem,↓reduceIte,Nat.reduceLT,Nat.reduceEqDiff,Nat.reduceAdd,b1]
  exact .tree _ rfl
 by_cases b2:(a.acc.length:Int)<=(if e.1<e.2.2 then e.2.2 else e.1)
 ·have:badE a.acc.length a.sy e=true:=hb.2 (by have:=m2.1 b2;omega)
  rw [this]
  simp only [c40,go_sem,↓reduceIte,reduceCtorEq,Nat.reduceLT,Nat.reduceEqDiff,Nat.reduceAdd,b1,b2]
  exact .tree _ rfl
 by_cases b3:e.2.1 < -1
 ·have:badE a.acc.length a.sy e=true:=hb.2 (by omega)
  rw [this]
  simp only [c40,go_sem,↓reduceIte,reduceCtorEq,Nat.reduceLT,Nat.reduceEqDiff,Nat.reduceAdd,b1,b2,b3]
  exact .tree _ rfl
 by_cases b4:a.sy<=e.2.1
 ·have:badE a.acc.length a.sy e=true:=hb.2 (by omega)
  rw [this]
  simp only [c40,go_sem,↓reduceIte,reduceCtorEq,Nat.reduceLT,Nat.reduceEqDiff,Nat.reduceAdd,b1,b2,b3,b4]
  exact .tree _ rfl
 have hf:badE a.acc.length a.sy e=false:=by
  cases h:badE a.acc.length a.sy e with
  | false=>rfl
  | true =>
   have h1:=hb.1 h
   have n1:=mt m1.2 b1
   have n2:=mt m2.2 b2
   omega
 rw [hf]
 simp only [c40,go_sem,↓reduceIte,reduceCtorEq,Nat.reduceLT,Nat.reduceEqDiff,Nat.reduceAdd,b1,b2,b3,b4]
 exact .tree _ rfl
set_option maxHeartbeats 1000000 in
theorem Valid_s (a:Au) (hz:SzA a):Ctr Try.prog 14 [vau a] (vi (validM a)):=by
 obtain ⟨hz1,hz2⟩:=hz
 refine specC f14 (by simp) fun F0 w0=>?_
 unfold c14
 refine CwpE.cut (st:=⟨[(1,.ref 0 1 0 0)],[.arr 1 3 34 [vau a]]⟩) ?_ ?_
 ·simp only [go_sem]
  exact ⟨_,WkE.kp,rfl⟩
 refine CwpE.cut (st:=⟨[(1,.ref 0 1 0 0),(3,.ref 1 1 0 0)],[.arr 1 3 34 [vau a],.arr 1 1 3 [vi a.acc.length]]⟩) ?_ ?_
 ·simp only [go_sem,List.length_map]
  exact ⟨_,WkE.kp,rfl⟩
 by_cases h:64<a.sy \/ 256<(a.acc.length:Int) \/ 4096<(a.ed.length:Int)
 ·refine CwpE.step (fun _=>False) ?_ (fun _ h=>h.elim)
  rw [valid_4 h]
  by_cases h1:64<a.sy
  ·simp only [go_sem,h1]
   exact .tree _ rfl
  ·by_cases h2:256<(a.acc.length:Int)
   ·simp only [go_sem,h1,h2]
    exact .tree _ rfl
   ·have h3:4096<(a.ed.length:Int):=by omega
    simp only [go_sem,h1,h2,h3,List.length_map]
    exact .tree _ rfl
 refine CwpE.cut (st:=⟨[(1,.ref 0 1 0 0),(3,.ref 1 1 0 0)],[.arr 1 3 34 [vau a],.arr 1 1 3 [vi a.acc.length]]⟩) ?_ ?_
 ·have h1:¬ 64<a.sy:=fun e=>h (.inl e)
  have h2:¬ 256<(a.acc.length:Int):=fun e=>h (.inr (.inl e))
  have h3:¬ 4096<(a.ed.length:Int):=fun e=>h (.inr (.inr e))
  simp only [go_sem,h1,h2,h3,List.length_map]
  exact ⟨_,WkE.kp,rfl⟩
 by_cases k:a.sy<1 \/ (a.acc.length:Int)<1
 ·refine CwpE.step (fun _=>False) ?_ (fun _ h=>h.elim)
  rw [valid_1 h k]
  by_cases k1:a.sy<1
  ·simp only [go_sem,k1]
   exact .tree _ rfl
  ·have k2:(a.acc.length:Int)<1:=by omega
   simp only [go_sem,k1,k2]
   exact .tree _ rfl
 rw [valid_e h k]
 refine CwpE.vc ?_
 have k1:¬ a.sy<1:=fun e=>k (.inl e)
 have k2:¬ (a.acc.length:Int)<1:=fun e=>k (.inr e)
 simp only [go_sem,k1,k2]
 have hcon:=ContainsFunc39_s 40 [.ptr [vi a.acc.length],.ptr [vi a.sy,vbools a.acc,vedges a.ed]] (by simp [AV.isT1]) (badE a.acc.length a.sy) a.ed (by omega) fun e _=>bad40_s a e
 refine callF hcon (.cons (.tree _ rfl) (.cons (snap_clo (.cons (snap_ref rfl rfl) (.cons (snap_ref rfl rfl) .nil))) .nil)) rfl ?_
 cases hb:a.ed.any (badE a.acc.length a.sy) with
 | true =>
  simp only [go_sem]
  exact .tree _ rfl
 | false =>
  simp only [go_sem]
  exact .tree _ rfl
theorem quo64 (i:Nat) (h:i<256):IntKind.i64.wrap ((i:Int).tdiv 64)=((i / 64:Nat):Int):=by
 rw [Int.tdiv_eq_ediv_of_nonneg (by omega),wrap_id (by omega) (by omega)];omega
theorem rem64 (i:Nat):(i:Int).tmod 64=((i % 64:Nat):Int):=by
 rw [Int.tmod_eq_emod_of_nonneg (by omega)];omega
theorem has_word (x:BitVec 64) (r:Nat) (hr:r<64):decide (IntKind.u64.wrap (((BitVec.ofInt 64 (((x.toNat:Nat):Int).fdiv (2 ^ min r 64)) &&& BitVec.ofInt 64 1).toNat:Nat):Int)=1)=x.getLsbD r:=by
 have hm:min r 64=r:=by omega
 rw [hm]
 have e1:((x.toNat:Nat):Int).fdiv (2 ^ r)=((x.toNat >>> r:Nat):Int):=by
  rw [Int.fdiv_eq_ediv_of_nonneg _ (by exact Int.pow_nonneg (by omega)),Nat.shiftRight_eq_div_pow]
  simp
 rw [e1]
 have e2:BitVec.ofInt 64 ((x.toNat >>> r:Nat):Int)=x >>> r:=by
  rw [BitVec.ofInt_natCast]
  apply BitVec.eq_of_toNat_eq
  rw [BitVec.toNat_ofNat,BitVec.toNat_ushiftRight]
  apply Nat.mod_eq_of_lt
  have:=x.isLt
  exact Nat.lt_of_le_of_lt (Nat.shiftRight_le _ _) this
 rw [e2]
 have hlt:=(x >>> r &&& BitVec.ofInt 64 1).isLt
 rw [wrap_u (by omega) (by omega)]
 have e3:(x >>> r &&& BitVec.ofInt 64 1)=if x.getLsbD r then 1#64 else 0#64:=by
  apply BitVec.eq_of_getLsbD_eq
  intro j hj
  rw [BitVec.getLsbD_and,BitVec.getLsbD_ushiftRight]
  have:BitVec.ofInt 64 1=1#64:=rfl
  rw [this,BitVec.getLsbD_one]
  by_cases h0:j=0
  ·subst h0
   cases h:x.getLsbD r <;> simp []
  ·cases h:x.getLsbD r <;> simp [h0]
 rw [e3]
 cases x.getLsbD r <;> simp
theorem has_s (s:List Bool) (i:Nat) (hi:i<256):Ctr Try.prog 62 [vset s,vi i] (vb (bt s i)):=by
 refine specE f62 (by simp) fun F0 w0=>?_
 have e1:=quo64 i hi
 have e2:=rem64 i
 have hr:i % 64<64:=Nat.mod_lt _ (by omega)
 have hw:=has_word (wdv s (i / 64)) (i % 64) hr
 rw [wdv_has] at hw
 rw [<-hw]
 generalize hr':i % 64=r at *
 have hn:¬ (r:Int)<0:=by omega
 have k0:((0:Nat):Int)=0:=rfl
 have k1:((1:Nat):Int)=1:=rfl
 have k2:((2:Nat):Int)=2:=rfl
 have k3:((3:Nat):Int)=3:=rfl
 have k4:((4:Nat):Int)=4:=rfl
 have hq:i / 64=0 \/ i / 64=1 \/ i / 64=2 \/ i / 64=3:=by omega
 rcases hq with hq | hq | hq | hq <;> rw [hq] at e1 ⊢ <;> simp only [c62,go_sem,↓reduceIte,reduceCtorEq,Nat.reduceLT,Nat.reduceEqDiff,Nat.reduceAdd,Nat.reduceMul,Int.reduceToNat,Int.reduceLT,Int.reduceLE,Int.reduceEq,Int.reduceToNat,Int.le_refl,e1,e2,hn,k0,k1,k2,k3,k4,Int.toNat_natCast] <;> exact .tree _ rfl
theorem and_word (x y:BitVec 64):(IntKind.u64.wrap (((BitVec.ofInt 64 ((x.toNat:Nat):Int) &&& BitVec.ofInt 64 ((y.toNat:Nat):Int)).toNat:Nat):Int)=0) ↔ x &&& y=0#64:=by
 rw [ofInt_word,ofInt_word]
 have hlt:=(x &&& y).isLt
 rw [wrap_u (by omega) (by omega)]
 exact word_int
theorem or_word (x y:BitVec 64):IntKind.u64.wrap (((BitVec.ofInt 64 ((x.toNat:Nat):Int) ||| BitVec.ofInt 64 ((y.toNat:Nat):Int)).toNat:Nat):Int)=(((x ||| y).toNat:Nat):Int):=by
 rw [ofInt_word,ofInt_word]
 have hlt:=(x ||| y).isLt
 rw [wrap_u (by omega) (by omega)]
theorem wdi_or (s t:List Bool) (k:Nat):wdi (orS s t) k=IntKind.u64.wrap (((BitVec.ofInt 64 (wdi s k) ||| BitVec.ofInt 64 (wdi t k)).toNat:Nat):Int):=by
 unfold wdi
 rw [or_word,wdv_or]
theorem meet_word (s t:List Bool) (k:Nat):(IntKind.u64.wrap (((BitVec.ofInt 64 (wdi s k) &&& BitVec.ofInt 64 (wdi t k)).toNat:Nat):Int)=0) ↔ wdv s k &&& wdv t k=0#64:=and_word _ _
theorem shl_word (r:Nat) (hr:r<64):IntKind.u64.wrap (1*2 ^ min r 64)=(((BitVec.twoPow 64 r).toNat:Nat):Int):=by
 have hm:min r 64=r:=by omega
 rw [hm,BitVec.toNat_twoPow]
 have h1:2 ^ r<2 ^ 64:=Nat.pow_lt_pow_right (by omega) hr
 rw [Nat.mod_eq_of_lt h1,Int.one_mul]
 have e:((2:Int) ^ r)=((2 ^ r:Nat):Int):=by simp
 rw [e]
 have h2:2 ^ 64=18446744073709551616:=rfl
 rw [h2] at h1
 generalize 2 ^ r=P at h1
 rw [wrap_u (by omega) (by omega)]
theorem put_word (s:List Bool) (i:Nat) (hi:i<s.length):wdi (putS s i) (i / 64)=IntKind.u64.wrap (((BitVec.ofInt 64 (wdi s (i / 64)) ||| BitVec.ofInt 64 (IntKind.u64.wrap (1*2 ^ min (i % 64) 64))).toNat:Nat):Int):=by
 rw [shl_word _ (Nat.mod_lt _ (by omega)),wdi,wdi,or_word,wdv_put hi,if_pos rfl]
theorem put_other (s:List Bool) (i k:Nat) (hi:i<s.length) (hk:k ≠ i / 64):wdi (putS s i) k=wdi s k:=by
 rw [wdi,wdi,wdv_put hi,if_neg hk]
set_option maxHeartbeats 1000000 in
theorem meets_s (s t:List Bool) (hs:s.length<=256):Ctr Try.prog 43 [vset s,vset t] (vb (meets s t)):=by
 refine specC f43 (by simp) fun F0 w0=>?_
 have hm:=meets_words (t:=t) hs
 have k0:((0:Nat):Int)=0:=rfl
 have k1:((1:Nat):Int)=1:=rfl
 have k2:((2:Nat):Int)=2:=rfl
 have k3:((3:Nat):Int)=3:=rfl
 have k4:((4:Nat):Int)=4:=rfl
 unfold c43
 refine CwpE.cut (st:=⟨[(2,.ref 0 1 0 0),(3,.ref 1 1 0 0)],[.arr 1 4 79 [vset s],.arr 1 4 79 [vset t]]⟩) ?_ ?_
 ·simp only [go_sem]
  exact ⟨_,WkE.kp,rfl⟩
 refine CwpE.vc ?_
 simp only [go_sem]
 refine loopX 0 (fun m z=>∃ k:Nat,m=4-k/\k<=4/\(∀ j,j<k->wdv s j &&& wdv t j=0#64)/\z=⟨[(2,.ref 0 1 0 0),(3,.ref 1 1 0 0),(7,vset s),(8,vi k)],[.arr 1 4 79 [vset s],.arr 1 4 79 [vset t]]⟩)
  (fun z=>meets s t=false/\z=⟨[],[]⟩) 4
  ⟨[(2,.ref 0 1 0 0),(3,.ref 1 1 0 0),(7,vset s),(8,vi (0:Nat))],[.arr 1 4 79 [vset s],.arr 1 4 79 [vset t]]⟩ (WkE.keep (by simp only [go_sem];rfl)) ⟨0,by omega,by omega,fun j hj=>absurd hj (by omega),rfl⟩ ?_ ?_
 rotate_left
 ·rintro z ⟨h,rfl⟩
  rw [h]
  simp only [go_sem]
  exact .tree _ rfl
 rintro m z ⟨k,rfl,hk,hz,rfl⟩
 by_cases h4:k=4
 ·subst h4
  have hf:meets s t=false:=by
   cases e:meets s t with
   | false=>rfl
   | true=>obtain ⟨j,h1,h2⟩:=hm.1 e;exact absurd (hz j h1) h2
  simp only [go_sem,Int.lt_irrefl,k4]
  exact ⟨⟨[],[]⟩,(WkE.keep (env':=[]) trivial).trans (WkE.round trivial rfl rfl rfl),hf,rfl⟩
 have hw:=meet_word s t k
 have w1:=wrap_s k (by omega)
 have hcase:k=0 \/ k=1 \/ k=2 \/ k=3:=by omega
 have l0:(0:Int)<4:=by decide
 have l1:(1:Int)<4:=by decide
 have l2:(2:Int)<4:=by decide
 have l3:(3:Int)<4:=by decide
 by_cases hx:wdv s k &&& wdv t k=0#64
 ·have hx':=hw.2 hx
  have hz':∀ j,j<k+1->wdv s j &&& wdv t j=0#64:=fun j hj=>by
   rcases Nat.lt_succ_iff_lt_or_eq.1 hj with hj | rfl
   ·exact hz j hj
   ·exact hx
  rcases hcase with rfl | rfl | rfl | rfl
  ·simp only [k0,k1] at w1
   simp only [go_sem,Int.le_refl,k0,k4,l0]
   generalize hW:IntKind.u64.wrap _=W
   have hW0:W=0:=hW.symm.trans hx'
   simp only [go_sem,hW0,w1]
   exact ⟨4-(0+1),⟨[(2,.ref 0 1 0 0),(3,.ref 1 1 0 0),(7,vset s),(8,vi (0+1:Nat))],[.arr 1 4 79 [vset s],.arr 1 4 79 [vset t]]⟩,by omega,WkE.kp,0+1,rfl,by omega,hz',rfl⟩
  ·simp only [k1,k2] at w1
   simp only [go_sem,Int.reduceLE,k1,k4,l1]
   generalize hW:IntKind.u64.wrap _=W
   have hW0:W=0:=hW.symm.trans hx'
   simp only [go_sem,hW0,w1]
   exact ⟨4-(1+1),⟨[(2,.ref 0 1 0 0),(3,.ref 1 1 0 0),(7,vset s),(8,vi (1+1:Nat))],[.arr 1 4 79 [vset s],.arr 1 4 79 [vset t]]⟩,by omega,WkE.kp,1+1,rfl,by omega,hz',rfl⟩
  ·simp only [k2,k3] at w1
   simp only [go_sem,Int.reduceLE,k2,k4,l2]
   generalize hW:IntKind.u64.wrap _=W
   have hW0:W=0:=hW.symm.trans hx'
   simp only [go_sem,hW0,w1]
   exact ⟨4-(2+1),⟨[(2,.ref 0 1 0 0),(3,.ref 1 1 0 0),(7,vset s),(8,vi (2+1:Nat))],[.arr 1 4 79 [vset s],.arr 1 4 79 [vset t]]⟩,by omega,WkE.kp,2+1,rfl,by omega,hz',rfl⟩
  ·simp only [k3] at w1
   simp only [go_sem,Int.reduceLE,k3,k4,l3]
   generalize hW:IntKind.u64.wrap _=W
   have hW0:W=0:=hW.symm.trans hx'
   simp only [go_sem,hW0,w1]
   exact ⟨4-(3+1),⟨[(2,.ref 0 1 0 0),(3,.ref 1 1 0 0),(7,vset s),(8,vi (3+1:Nat))],[.arr 1 4 79 [vset s],.arr 1 4 79 [vset t]]⟩,by omega,WkE.kp,3+1,rfl,by omega,hz',rfl⟩
 ·have ht:meets s t=true:=hm.2 ⟨k,by omega,hx⟩
  rw [ht]
  rcases hcase with rfl | rfl | rfl | rfl <;> simp only [go_sem,Int.reduceLE,Int.le_refl,k0,k1,k2,k3,k4,l0,l1,l2,l3]
  all_goals
   generalize hW:IntKind.u64.wrap _=W
   have hW0:¬ W=0:=fun e=>hx (hw.1 (hW.trans e))
   simp only [go_sem,hW0]
   exact .tree _ rfl
theorem inn_set {B:List AObj} {n id:Nat} {o:AObj} (hB:(B.all fun o=>o.innO n)=true) (ho:o.innO n=true):((B.set id o).all fun o=>o.innO n)=true:=by
 refine List.all_eq_true.2 fun x hx=>?_
 rcases List.mem_or_eq_of_mem_set hx with h | h
 ·exact List.all_eq_true.1 hB x h
 ·rw [h];exact ho
theorem inn_setV {xs:List AV} {n e:Nat} {x:AV} (hB:(xs.all (AV.inn n))=true) (ho:x.inn n=true):((xs.set e x).all (AV.inn n))=true:=by
 refine List.all_eq_true.2 fun y hy=>?_
 rcases List.mem_or_eq_of_mem_set hy with h | h
 ·exact List.all_eq_true.1 hB y h
 ·rw [h];exact ho
theorem all_get {B:List AObj} {n id:Nat} {o:AObj} (hB:(B.all fun o=>o.innO n)=true) (h:B[id]? = some o):o.innO n=true:=List.all_eq_true.1 hB o (List.mem_of_getElem? h)
set_option maxHeartbeats 1000000 in
theorem put1_m (B:List AObj) (id g e sz:Nat) (et:TypeId) (xs:List AV) (s:List Bool) (i:Nat) (hB:B[id]? = some (.arr g sz et xs)) (hx:xs[e]? = some (.agg [vw (wdi s 0),vw (wdi s 1),vw (wdi s 2),vw (wdi s 3)])) (het:et<1000000000) (hin:(B.all fun o=>o.innO B.length)=true) (hi:i<s.length) (hl:s.length<=256) :
 CtrM Try.prog 60 [.ref id g e 0,vi i] B (.tup []) (B.set id (.arr g sz et (xs.set e (.agg [vw (wdi (putS s i) 0),vw (wdi (putS s i) 1),vw (wdi (putS s i) 2),vw (wdi (putS s i) 3)])))):=by
 have hid:id<B.length:=(List.getElem?_eq_some_iff.1 hB).1
 have hxs:(xs.all (AV.inn B.length))=true:=all_get hin hB
 have hnew:(AV.agg [vw (wdi (putS s i) 0),vw (wdi (putS s i) 1),vw (wdi (putS s i) 2),vw (wdi (putS s i) 3)]).inn B.length=true:=rfl
 refine specM f60 (by simp) (by simp) (inn_set hin (inn_setV hxs hnew)) rfl fun F0 w0 G hG=>?_
 have hBG:(B++[G])[id]? = some (.arr g sz et xs):=by rw [List.getElem?_append_left hid];exact hB
 have hset:∀ o,(B++[G]).set id o=B.set id o++[G]:=fun o=>List.set_append_left _ _ hid
 have e1:=quo64 i (by omega)
 have e2:=rem64 i
 have hp:=put_word s i hi
 have ho:∀ k,k ≠ i / 64->wdi (putS s i) k=wdi s k:=fun k=>put_other s i k hi
 have hn:¬ ((i % 64:Nat):Int)<0:=by omega
 have k0:((0:Nat):Int)=0:=rfl
 have k1:((1:Nat):Int)=1:=rfl
 have k2:((2:Nat):Int)=2:=rfl
 have k3:((3:Nat):Int)=3:=rfl
 have k4:((4:Nat):Int)=4:=rfl
 generalize i % 64=r at *
 have hq:i / 64=0 \/ i / 64=1 \/ i / 64=2 \/ i / 64=3:=by omega
 refine CwpE.vc ?_
 rcases hq with hq | hq | hq | hq <;> rw [hq] at e1 hp ho
 ·rw [ho 1 (by omega),ho 2 (by omega),ho 3 (by omega),hp]
  simp only [c60,go_sem,Nat.reduceLeDiff,↓reduceIte,reduceCtorEq,Nat.reduceLT,Nat.reduceEqDiff,Nat.reduceAdd,Nat.reduceMul,Int.reduceToNat,Int.reduceLT,Int.reduceEq,Int.reduceToNat,Int.le_refl,e1,e2,hn,k0,k4,hBG,hx,het,hset,Int.toNat_natCast]
  exact ⟨_,rfl,.refl _ _⟩
 ·rw [ho 0 (by omega),ho 2 (by omega),ho 3 (by omega),hp]
  simp only [c60,go_sem,Nat.reduceLeDiff,↓reduceIte,reduceCtorEq,Nat.reduceLT,Nat.reduceEqDiff,Nat.reduceAdd,Nat.reduceMul,Int.reduceToNat,Int.reduceLT,Int.reduceLE,Int.reduceEq,Int.reduceToNat,e1,e2,hn,k1,k4,hBG,hx,het,hset,Int.toNat_natCast]
  exact ⟨_,rfl,.refl _ _⟩
 ·rw [ho 0 (by omega),ho 1 (by omega),ho 3 (by omega),hp]
  simp only [c60,go_sem,Nat.reduceLeDiff,↓reduceIte,reduceCtorEq,Nat.reduceLT,Nat.reduceEqDiff,Nat.reduceAdd,Nat.reduceMul,Int.reduceToNat,Int.reduceLT,Int.reduceLE,Int.reduceEq,Int.reduceToNat,e1,e2,hn,k2,k4,hBG,hx,het,hset,Int.toNat_natCast]
  exact ⟨_,rfl,.refl _ _⟩
 ·rw [ho 0 (by omega),ho 1 (by omega),ho 2 (by omega),hp]
  simp only [c60,go_sem,↓reduceIte,reduceCtorEq,Nat.reduceLT,Nat.reduceEqDiff,Nat.reduceAdd,Nat.reduceMul,Int.reduceToNat,Int.reduceLT,Int.reduceLE,Int.reduceEq,Int.reduceToNat,e1,e2,hn,k3,k4,hBG,hx,het,hset,Int.toNat_natCast]
  exact ⟨_,rfl,.refl _ _⟩
set_option maxHeartbeats 1000000 in
theorem put2_m (B:List AObj) (id g e sz:Nat) (et:TypeId) (xs:List AV) (x0 x5 f0 f1 f2 f3:AV) (s:List Bool) (i:Nat) (hB:B[id]? = some (.arr g sz et xs)) (hx:xs[e]? = some (.agg [x0,vw (wdi s 0),vw (wdi s 1),vw (wdi s 2),vw (wdi s 3),x5,f0,f1,f2,f3])) (het:et<1000000000) (hin:(B.all fun o=>o.innO B.length)=true) (hi:i<s.length) (hl:s.length<=256) :
 CtrM Try.prog 60 [.ref id g e 1,vi i] B (.tup []) (B.set id (.arr g sz et (xs.set e (.agg [x0,vw (wdi (putS s i) 0),vw (wdi (putS s i) 1),vw (wdi (putS s i) 2),vw (wdi (putS s i) 3),x5,f0,f1,f2,f3])))):=by
 have hid:id<B.length:=(List.getElem?_eq_some_iff.1 hB).1
 have hxs:(xs.all (AV.inn B.length))=true:=all_get hin hB
 have hnew:(AV.agg [x0,vw (wdi (putS s i) 0),vw (wdi (putS s i) 1),vw (wdi (putS s i) 2),vw (wdi (putS s i) 3),x5,f0,f1,f2,f3]).inn B.length=true:=by
  have h:=List.all_eq_true.1 hxs _ (List.mem_of_getElem? hx)
  simpa [AV.inn,AV.inn1] using h
 refine specM f60 (by simp) (by simp) (inn_set hin (inn_setV hxs hnew)) rfl fun F0 w0 G hG=>?_
 have hBG:(B++[G])[id]? = some (.arr g sz et xs):=by rw [List.getElem?_append_left hid];exact hB
 have hset:∀ o,(B++[G]).set id o=B.set id o++[G]:=fun o=>List.set_append_left _ _ hid
 have e1:=quo64 i (by omega)
 have e2:=rem64 i
 have hp:=put_word s i hi
 have ho:∀ k,k ≠ i / 64->wdi (putS s i) k=wdi s k:=fun k=>put_other s i k hi
 have hn:¬ ((i % 64:Nat):Int)<0:=by omega
 have k0:((0:Nat):Int)=0:=rfl
 have k1:((1:Nat):Int)=1:=rfl
 have k2:((2:Nat):Int)=2:=rfl
 have k3:((3:Nat):Int)=3:=rfl
 have k4:((4:Nat):Int)=4:=rfl
 generalize i % 64=r at *
 have hq:i / 64=0 \/ i / 64=1 \/ i / 64=2 \/ i / 64=3:=by omega
 refine CwpE.vc ?_
 rcases hq with hq | hq | hq | hq <;> rw [hq] at e1 hp ho
 ·rw [ho 1 (by omega),ho 2 (by omega),ho 3 (by omega),hp]
  simp only [c60,go_sem,Nat.reduceLeDiff,↓reduceIte,reduceCtorEq,Nat.reduceLT,Nat.reduceEqDiff,Nat.reduceAdd,Nat.reduceMul,Int.reduceToNat,Int.reduceLT,Int.reduceEq,Int.reduceToNat,Int.le_refl,e1,e2,hn,k0,k4,hBG,hx,het,hset,Int.toNat_natCast]
  exact ⟨_,rfl,.refl _ _⟩
 ·rw [ho 0 (by omega),ho 2 (by omega),ho 3 (by omega),hp]
  simp only [c60,go_sem,Nat.reduceLeDiff,↓reduceIte,reduceCtorEq,Nat.reduceLT,Nat.reduceEqDiff,Nat.reduceAdd,Nat.reduceMul,Int.reduceToNat,Int.reduceLT,Int.reduceLE,Int.reduceEq,Int.reduceToNat,e1,e2,hn,k1,k4,hBG,hx,het,hset,Int.toNat_natCast]
  exact ⟨_,rfl,.refl _ _⟩
 ·rw [ho 0 (by omega),ho 1 (by omega),ho 3 (by omega),hp]
  simp only [c60,go_sem,Nat.reduceLeDiff,↓reduceIte,reduceCtorEq,Nat.reduceLT,Nat.reduceEqDiff,Nat.reduceAdd,Nat.reduceMul,Int.reduceToNat,Int.reduceLT,Int.reduceLE,Int.reduceEq,Int.reduceToNat,e1,e2,hn,k2,k4,hBG,hx,het,hset,Int.toNat_natCast]
  exact ⟨_,rfl,.refl _ _⟩
 ·rw [ho 0 (by omega),ho 1 (by omega),ho 2 (by omega),hp]
  simp only [c60,go_sem,Nat.reduceLeDiff,↓reduceIte,reduceCtorEq,Nat.reduceLT,Nat.reduceEqDiff,Nat.reduceAdd,Nat.reduceMul,Int.reduceToNat,Int.reduceLT,Int.reduceLE,Int.reduceEq,Int.reduceToNat,e1,e2,hn,k3,k4,hBG,hx,het,hset,Int.toNat_natCast]
  exact ⟨_,rfl,.refl _ _⟩
end Go.Proofs.Ytjilachpkjlhdaa
namespace P5
structure Vis (F:Nat->List Nat) (n:Nat) (s:List Bool) (k:Nat) (t:List Bool):Prop where
 len:t.length=n
 sub:∀ i,bt s i=true->bt t i=true
 mem:bt t k=true
 clo:∀ i,bt t i=true->bt s i=false->∀ j ∈ F i,bt t j=true
 sound:∀ P:Nat->Prop,(∀ i,bt s i=true->P i)->P k->(∀ i,P i->∀ j ∈ F i,P j)->∀ j,bt t j=true->P j
theorem Vis.done {F:Nat->List Nat} {n:Nat} {s:List Bool} {k:Nat} (hl:s.length=n) (h:bt s k=true):Vis F n s k s :=
 ⟨hl,fun _ h=>h,h,fun i h1 h2=>(by rw [h1] at h2;cases h2),fun _ h0 _ _ j hj=>h0 j hj⟩
structure VisL (F:Nat->List Nat) (n:Nat) (s:List Bool) (k:Nat) (l:List Nat) (t:List Bool):Prop where
 len:t.length=n
 sub:∀ i,bt s i=true->bt t i=true
 mem:bt t k=true
 has:∀ j ∈ l,bt t j=true
 clo:∀ i,bt t i=true->bt s i=false->i ≠ k->∀ j ∈ F i,bt t j=true
 sound:∀ P:Nat->Prop,(∀ i,bt s i=true->P i)->P k->(∀ i,P i->∀ j ∈ F i,P j)->∀ j,bt t j=true->P j
theorem VisL.start {F:Nat->List Nat} {n:Nat} {s:List Bool} {k:Nat} (hl:s.length=n) (hk:k<n):VisL F n s k [] (putS s k):=by
 have hb:∀ j,bt (putS s k) j=(decide (j=k) || bt s j):=fun j=>putS_bt (by omega)
 refine ⟨by rw [putS_len,hl],fun i h=>by rw [hb,h,Bool.or_true],by rw [hb];simp,fun j hj=>by simp at hj,fun i h1 h2 h3=>?_,fun P h0 hk _ j hj=>?_⟩
 ·rw [hb,h2] at h1;simp at h1;exact absurd h1 h3
 ·rw [hb] at hj
  simp only [Bool.or_eq_true,decide_eq_true_eq] at hj
  rcases hj with rfl | hj
  ·exact hk
  ·exact h0 j hj
theorem VisL.step {F:Nat->List Nat} {n:Nat} {s t u:List Bool} {k:Nat} {l:List Nat} {j:Nat} (h:VisL F n s k l t) (hj:j ∈ F k) (hv:Vis F n t j u):VisL F n s k (l++[j]) u:=by
 refine ⟨hv.len,fun i hi=>hv.sub i (h.sub i hi),hv.sub _ h.mem,fun i hi=>?_,fun i h1 h2 h3=>?_,fun P h0 hk hc=>?_⟩
 ·rcases List.mem_append.1 hi with hi | hi
  ·exact hv.sub i (h.has i hi)
  ·rw [List.mem_singleton.1 hi];exact hv.mem
 ·cases e:bt t i with
  | true=>exact fun m hm=>hv.sub m (h.clo i e h2 h3 m hm)
  | false=>exact hv.clo i h1 e
 ·exact hv.sound P (h.sound P h0 hk hc) (hc k hk j hj) hc
theorem VisL.done {F:Nat->List Nat} {n:Nat} {s t:List Bool} {k:Nat} (h:VisL F n s k (F k) t):Vis F n s k t :=
 ⟨h.len,h.sub,h.mem,fun i h1 h2=>by
  by_cases e:i=k
  ·subst e;exact h.has
  ·exact h.clo i h1 h2 e,h.sound⟩
theorem cnt_sub {s t:List Bool} (hl:s.length=t.length) (h:∀ i,bt s i=true->bt t i=true):cnt s<=cnt t:=(cnt_mono s t hl h).1
theorem cnt_put {s:List Bool} {k:Nat} (hk:k<s.length) (h:bt s k=false):cnt s<cnt (putS s k):=by
 have hm:=cnt_mono s (putS s k) (by rw [putS_len]) (fun i hi=>by rw [putS_bt hk,hi,Bool.or_true])
 refine Nat.lt_of_le_of_ne hm.1 fun e=>?_
 have:=hm.2 e
 rw [this,putS_bt hk] at h
 simp at h
def epsF (l:List Edg) (i:Nat):List Int:=(l.filter fun e=>decide (e.2.1<0/\e.1=(i:Int))).map fun e=>e.2.2
theorem epsF_snoc (l:List Edg) (e:Edg) (i:Nat):epsF (l++[e]) i=if e.2.1<0/\e.1=(i:Int) then epsF l i++[e.2.2] else epsF l i:=by
 unfold epsF
 rw [List.filter_append,List.map_append]
 by_cases h:e.2.1<0/\e.1=(i:Int)
 ·rw [if_pos h,List.filter_cons_of_pos (by simpa using h)];rfl
 ·rw [if_neg h,List.filter_cons_of_neg (by simpa using h)];simp
theorem epsF_mem {a:Au} (hv:VA a) {i:Nat} {j:Int}:j ∈ epsF a.ed i ↔ 0<=j/\epsR a i j.toNat=true:=by
 unfold epsF epsR
 rw [List.mem_map]
 simp only [List.mem_filter,decide_eq_true_eq,List.any_eq_true]
 constructor
 ·rintro ⟨e,⟨he,h1,h2⟩,rfl⟩
  have:=hv.ed e he
  exact ⟨by omega,e,he,by omega,h2,by omega⟩
 ·rintro ⟨h0,e,he,h1,h2,h3⟩
  exact ⟨e,⟨he,by omega,h2⟩,by omega⟩
theorem epsF_lt {a:Au} (hv:VA a) {i:Nat} {j:Int} (h:j ∈ epsF a.ed i):0<=j/\j<a.acc.length:=by
 unfold epsF at h
 obtain ⟨e,he,rfl⟩:=List.mem_map.1 h
 have:=hv.ed e (List.mem_filter.1 he).1
 omega
abbrev epsN (a:Au) (i:Nat):List Nat:=(epsF a.ed i).map Int.toNat
theorem vis_cl {a:Au} (hv:VA a) {i:Nat} (hi:i<a.acc.length) {t:List Bool} (h:Vis (epsN a) a.acc.length (noneS a.acc.length) i t):t=clA a (oneS a.acc.length i):=by
 refine IsCl.uniq (n:=a.acc.length) (r:=epsR a) (s:=oneS a.acc.length i) ⟨h.len,fun j hj=>?_,fun j k hj hr hk=>?_,fun P h0 hc j hj=>?_⟩ (cl_is (oneS_len _ _))
 ·obtain ⟨_,rfl⟩:=oneS_bt.1 hj
  exact h.mem
 ·refine h.clo j hj noneS_bt k (List.mem_map.2 ⟨(k:Int),(epsF_mem hv).2 ⟨by omega,by simpa using hr⟩,Int.toNat_natCast k⟩)
 ·have:=h.sound (fun j=>P j/\j<a.acc.length) (fun k hk=>by rw [noneS_bt] at hk;cases hk) ⟨h0 i (oneS_bt.2 ⟨hi,rfl⟩),hi⟩ (fun k ⟨hp,hk⟩ m hm=>by
   obtain ⟨m',hm',rfl⟩:=List.mem_map.1 hm
   have hlt:=epsF_lt hv hm'
   have hr:=((epsF_mem hv).1 hm').2
   exact ⟨hc k _ hp hr hk (by omega),by omega⟩) j hj
  exact this.1
def moveL (a:Au) (l:List Edg) (i:Nat) (x:Int):List Bool:=l.foldl (fun s e=>if e.1=(i:Int)/\e.2.1=x then orS s (clA a (oneS a.acc.length e.2.2.toNat)) else s) (noneS a.acc.length)
theorem moveL_snoc (a:Au) (l:List Edg) (e:Edg) (i:Nat) (x:Int):moveL a (l++[e]) i x=if e.1=(i:Int)/\e.2.1=x then orS (moveL a l i x) (clA a (oneS a.acc.length e.2.2.toNat)) else moveL a l i x:=by
 rw [moveL,List.foldl_append];rfl
end P5
namespace Go.Proofs.Ytjilachpkjlhdaa
open Go.RowKit Dak P5
abbrev capsV:List AV:=[.ref 4 1 0 0,.ref 5 1 0 0,.ref 2 1 0 0,.ref 6 1 0 0]
abbrev baseV (a:Au) (n:Nat) (Fr:List (List Int)) (S:List (List Bool)) (i:Nat):List AObj :=
 [.arr 1 3 34 [vau a],.arr n 1 22 (Fr.map vints),.arr 1 1 61 [.own 1 n 0 n],.arr n 4 79 (S.map vset),.arr 1 1 128 [.own 3 n 0 n],.arr 1 1 3 [vi i],.arr 1 1 117 [.clo (.func 73) capsV]]
theorem baseV_inn (a:Au) (n:Nat) (Fr:List (List Int)) (S:List (List Bool)) (i:Nat):((baseV a n Fr S i).all fun o=>o.innO 7)=true:=by
 have h1:((Fr.map vints).all (AV.inn 7))=true:=inn_map fun _=>rfl
 have h2:((S.map vset).all (AV.inn 7))=true:=inn_map fun _=>rfl
 simp only [List.all_cons,List.all_nil,Bool.and_true,AObj.innO,h1,h2]
 rfl
theorem baseV_set (a:Au) (n:Nat) (Fr:List (List Int)) (S:List (List Bool)) (i:Nat) (s:List Bool):(baseV a n Fr S i).set 3 (.arr n 4 79 ((S.map vset).set i (vset s)))=baseV a n Fr (S.set i s) i:=by
 simp only [List.set_cons_succ,List.set_cons_zero,baseV,List.map_set]
set_option maxHeartbeats 4000000 in
theorem visit_s (a:Au) (n:Nat) (hn:n<=256) (Fr:List (List Int)) (hF:Fr.length=n) (hFl:∀ l ∈ Fr,l.length<=100000/\∀ j ∈ l,0<=j/\j<n) (F:Nat->List Nat) (hFF:∀ k (h:k<Fr.length),F k=(Fr[k]).map Int.toNat) (i:Nat) (hi:i<n) :
 ∀ (d:Nat) (S:List (List Bool)) (s:List Bool) (k:Nat),S.length=n->S[i]? = some s->s.length=n->k<n->n-cnt s<=d->∃ t,Vis F n s k t/\CtrM Try.prog 73 (vi k::capsV) (baseV a n Fr S i) (.tup []) (baseV a n Fr (S.set i t) i):=by
 intro d
 induction d with
 | zero=>?_
 | succ d ih=>?_
 all_goals intro S s k hS hs hsl hk hd
 all_goals
  have hsn:S.set i s=S:=by
   apply List.ext_getElem?
   intro m
   rw [List.getElem?_set]
   split
   ·rename_i e;subst e
    split
    ·exact hs.symm
    ·rename_i h;rw [List.getElem?_eq_none (by omega)]
   ·rfl
  have hSg:(S.map vset)[i]? = some (vset s):=by rw [List.getElem?_map,hs];rfl
  have hb:=baseV_inn a n Fr S i
  have i0:(0:Int)<=(i:Int):=by omega
  have i1:(i:Int)<(n:Int):=by omega
  by_cases hbk:bt s k=true
 ·refine ⟨s,Vis.done hsl hbk,?_⟩
  rw [hsn]
  refine specM f73 (by simp) rfl hb rfl fun F0 w0 G hG=>?_
  refine CwpE.vc ?_
  have hc:=has_s s k (by omega)
  rw [hbk] at hc
  simp only [c73,baseV,go_sem,↓reduceIte,reduceCtorEq,Nat.reduceLT,Nat.reduceEqDiff,Nat.reduceAdd,i0,i1,hSg,Int.toNat_natCast]
  refine callT hc rfl ?_
  simp only [go_sem]
  exact ⟨_,rfl,.refl _ _⟩
 ·exfalso
  have h1:=cnt_le (putS s k)
  rw [putS_len] at h1
  have h2:=cnt_put (k:=k) (s:=s) (by omega) (by simpa using hbk)
  omega
 ·refine ⟨s,Vis.done hsl hbk,?_⟩
  rw [hsn]
  refine specM f73 (by simp) rfl hb rfl fun F0 w0 G hG=>?_
  refine CwpE.vc ?_
  have hc:=has_s s k (by omega)
  rw [hbk] at hc
  simp only [c73,baseV,go_sem,↓reduceIte,reduceCtorEq,Nat.reduceLT,Nat.reduceEqDiff,Nat.reduceAdd,i0,i1,hSg,Int.toNat_natCast]
  refine callT hc rfl ?_
  simp only [go_sem]
  exact ⟨_,rfl,.refl _ _⟩
 ·have hbk':bt s k=false:=by simpa using hbk
  have hcp:=cnt_put (k:=k) (s:=s) (by omega) hbk'
  have hkF:k<Fr.length:=by omega
  obtain ⟨hLl,hLb⟩:=hFl _ (List.getElem_mem hkF)
  have hFk:=hFF k hkF
  have hFg:(Fr.map vints)[k]? = some (vints Fr[k]):=by rw [List.getElem?_map,List.getElem?_eq_getElem hkF];rfl
  generalize Fr[k]=L at hLl hLb hFk hFg
  have key:∀ M,M<=L.length->∃ T:Nat->List Bool,T 0=putS s k/\(∀ m,m<=M->VisL F n s k ((L.take m).map Int.toNat) (T m))/\∀ m (h:m<L.length),m<M->CtrM Try.prog 73 (vi L[m]::capsV) (baseV a n Fr (S.set i (T m)) i) (.tup []) (baseV a n Fr (S.set i (T (m+1))) i):=by
   intro M
   induction M with
   | zero=>exact fun _=>⟨fun _=>putS s k,rfl,fun m hm=>by
    obtain rfl:m=0:=by omega
    exact VisL.start hsl hk,fun m _ hm=>absurd hm (by omega)⟩
   | succ M ihm =>
    intro hM
    obtain ⟨T,hT0,hT1,hT2⟩:=ihm (by omega)
    have ht:=hT1 M (Nat.le_refl _)
    have hj:=hLb _ (List.getElem_mem (show M<L.length by omega))
    have hct:n-cnt (T M)<=d:=by
     have h1:=cnt_sub (s:=putS s k) (t:=T M) (by rw [putS_len,hsl,ht.len]) (fun j hj=>by
      rw [putS_bt (by omega)] at hj
      simp only [Bool.or_eq_true,decide_eq_true_eq] at hj
      rcases hj with rfl | hj
      ·exact ht.mem
      ·exact ht.sub j hj)
     omega
    obtain ⟨u,hu,hc⟩:=ih (S.set i (T M)) (T M) (L[M].toNat) (by simpa using hS) (by rw [List.getElem?_set_self (by omega)]) ht.len (by omega) hct
    rw [List.set_set] at hc
    have ej:((L[M].toNat:Nat):Int)=L[M]:=by omega
    rw [ej] at hc
    refine ⟨fun m=>if m<=M then T m else u,by dsimp only;rw [if_pos (by omega)];exact hT0,fun m hm=>?_,fun m h hm=>?_⟩
    ·by_cases hmM:m<=M
     ·simp only [if_pos hmM];exact hT1 m hmM
     ·obtain rfl:m=M+1:=by omega
      simp only [if_neg hmM]
      rw [List.take_succ_eq_append_getElem (by omega),List.map_append]
      exact ht.step (by rw [hFk];exact List.mem_map.2 ⟨L[M],List.getElem_mem _,rfl⟩) hu
    ·by_cases hmM:m=M
     ·subst hmM
      dsimp only
      rw [if_pos (by omega),if_neg (by omega)]
      exact hc
     ·dsimp only
      rw [if_pos (by omega),if_pos (by omega)]
      exact hT2 m h (by omega)
  obtain ⟨T,hT0,hT1,hT2⟩:=key L.length (Nat.le_refl _)
  have hfin:=hT1 L.length (Nat.le_refl _)
  rw [List.take_length,<-hFk] at hfin
  refine ⟨T L.length,hfin.done,?_⟩
  refine specM f73 (by simp) rfl (baseV_inn a n Fr _ i) rfl fun F0 w0 G hG=>?_
  have k0:(0:Int)<=(k:Int):=by omega
  have k1:(k:Int)<(n:Int):=by omega
  unfold c73
  refine CwpE.cut (st:=⟨envOf 0 (vi k::capsV),baseV a n Fr S i++[G]⟩) ?_ ?_
  ·have hc:=has_s s k (by omega)
   rw [hbk'] at hc
   simp only [baseV,go_sem,↓reduceIte,reduceCtorEq,Nat.reduceLT,Nat.reduceEqDiff,Nat.reduceAdd,i0,i1,hSg,Int.toNat_natCast]
   refine callT hc rfl ?_
   simp only [go_sem]
   exact ⟨_,WkE.kp,rfl⟩
  refine CwpE.cut (st:=⟨envOf 0 (vi k::capsV),baseV a n Fr (S.set i (T 0)) i++[G]⟩) ?_ ?_
  ·simp only [baseV,go_sem,↓reduceIte,reduceCtorEq,Nat.reduceLT,Nat.reduceEqDiff,Nat.reduceAdd,i0,i1,Int.toNat_natCast]
   refine callM (baseV a n Fr S i) [G] _ (put1_m (baseV a n Fr S i) 3 n i 4 79 (S.map vset) s k rfl hSg (by decide) hb (by omega) (by omega)) rfl hb rfl ?_
   rw [baseV_set,<-hT0]
   simp only [go_sem]
   exact ⟨_,WkE.kp,rfl⟩
  refine CwpE.cut (st:=⟨[(4,.ref 6 1 0 0),(22,vints L),(23,vi L.length),(24,vi (0:Nat))],baseV a n Fr (S.set i (T 0)) i++[G]⟩) ?_ ?_
  ·simp only [baseV,go_sem,↓reduceIte,reduceCtorEq,Nat.reduceLT,Nat.reduceEqDiff,Nat.reduceAdd,k0,k1,hFg,Int.toNat_natCast,List.length_map]
   exact ⟨_,WkE.keep (by simp only [go_sem];rfl),rfl⟩
  refine CwpE.vc ?_
  simp only [go_sem]
  refine loopX 0 (fun m' z=>∃ m:Nat,m'=L.length-m/\m<=L.length/\z=⟨[(4,.ref 6 1 0 0),(22,vints L),(23,vi L.length),(24,vi m)],baseV a n Fr (S.set i (T m)) i++[G]⟩)
   (fun z=>z=⟨[],baseV a n Fr (S.set i (T L.length)) i++[G]⟩) L.length _ (.refl _ _) ⟨0,by omega,by omega,rfl⟩ ?_ ?_
  rotate_left
  ·rintro z rfl
   simp only [go_sem]
   exact ⟨_,rfl,.refl _ _⟩
  rintro m' z ⟨m,rfl,hm,rfl⟩
  by_cases hlt:m<L.length
  ·have g1:(m:Int)<(L.length:Int):=by omega
   have g0:(0:Int)<=(m:Int):=by omega
   have w1:=wrap_s m (by omega)
   have hLg:(L.map vi)[m]? = some (vi L[m]):=by rw [List.getElem?_map,List.getElem?_eq_getElem hlt];rfl
   have hc:=hT2 m hlt hlt
   generalize L[m]=j at hLg hc
   simp only [baseV,go_sem,↓reduceIte,Nat.reduceLT,Nat.reduceEqDiff,g1,g0,hLg,Int.toNat_natCast]
   refine callM (baseV a n Fr (S.set i (T m)) i) [G] _ hc rfl (baseV_inn _ _ _ _ _) rfl ?_
   simp only [baseV,go_sem,↓reduceIte,Nat.reduceLT,Nat.reduceEqDiff,w1]
   exact ⟨L.length-(m+1),⟨[(4,.ref 6 1 0 0),(22,vints L),(23,vi L.length),(24,vi (m+1:Nat))],baseV a n Fr (S.set i (T (m+1))) i++[G]⟩,by omega,WkE.kp,m+1,rfl,by omega,rfl⟩
  ·obtain rfl:m=L.length:=by omega
   simp only [baseV,go_sem,↓reduceIte,Nat.reduceLT,Nat.reduceEqDiff,Int.lt_irrefl]
   exact ⟨_,WkE.kp,rfl⟩
def rg {α : Type} (n:Nat) (f:Nat->α):List α:=(List.range n).map f
theorem rg_len {α : Type} (n:Nat) (f:Nat->α):(rg n f).length=n:=by simp [rg]
theorem rg_get {α : Type} {n q:Nat} (h:q<n) (f:Nat->α):(rg n f)[q]? = some (f q):=by simp [rg,List.getElem?_range h]
theorem rg_set {α : Type} {n i:Nat} (f:Nat->α) (v : α):(rg n f).set i v=rg n (fun p=>if p=i then v else f p):=by
 apply List.ext_getElem?
 intro j
 rw [List.getElem?_set]
 by_cases hj:j<n
 ·rw [rg_get hj,rg_len]
  by_cases h:i=j
  ·subst h;rw [if_pos rfl,if_pos hj,rg_get hj,if_pos rfl]
  ·rw [if_neg h,rg_get hj,if_neg (fun e=>h e.symm)]
 ·rw [List.getElem?_eq_none (by rw [rg_len];omega)]
  split
  ·rename_i e;subst e;rw [if_neg (by rw [rg_len];omega),List.getElem?_eq_none (by rw [rg_len];omega)]
  ·rw [List.getElem?_eq_none (by rw [rg_len];omega)]
theorem rg_congr {α : Type} {n:Nat} {f g:Nat->α} (h:∀ p,p<n->f p=g p):rg n f=rg n g:=List.map_congr_left fun p hp=>h p (List.mem_range.1 hp)
theorem rg_rep {α : Type} (n:Nat) (v : α):List.replicate n v=rg n fun _=>v:=by
 apply List.ext_getElem?
 intro j
 rw [List.getElem?_replicate]
 split
 ·rename_i h;rw [rg_get h]
 ·rename_i h;rw [List.getElem?_eq_none (by rw [rg_len];omega)]
theorem rg_succ {α : Type} (n:Nat) (f:Nat->α):rg (n+1) f=rg n f++[f n]:=by simp [rg,List.range_succ]
theorem rg_all {α : Type} {n:Nat} {f:Nat->α} {p : α->Bool} (h:∀ q,q<n->p (f q)=true):((rg n f).all p)=true :=
 List.all_eq_true.2 fun x hx=>by
  obtain ⟨q,hq,rfl⟩:=List.mem_map.1 hx
  exact h q (List.mem_range.1 hq)
abbrev nilV:AV:=.val (.slice none 0 0)
theorem wk_nils {m:Nat} {env:List (Nat × AV)} (o0 o2:AObj) (n g:Nat) (et:TypeId):∀ k,k<=n->WkE m ⟨env,[o0,.arr g 1 et (rg n fun _=>nilV),o2]⟩ ⟨env,[o0,.arr g 1 et (rg n fun q=>if q<k then .own (q+3) 0 0 0 else nilV),o2]++rg k fun _=>.arr 0 1 3 []⟩:=by
 intro k
 induction k with
 | zero =>
  intro _
  have:(rg n fun q=>if q<0 then AV.own (q+3) 0 0 0 else nilV)=rg n fun _=>nilV:=rg_congr fun p _=>by rw [if_neg (by omega)]
  rw [this]
  exact .refl _ _
 | succ k ih =>
  intro hk
  refine (ih (by omega)).trans ?_
  have h1:=WkE.nilCell (n:=m) (env:=env) (objs:=[o0,.arr g 1 et (rg n fun q=>if q<k then .own (q+3) 0 0 0 else nilV),o2]++rg k fun _=>.arr 0 1 3 []) 1 g 1 k 0 1 3 et (rg n fun q=>if q<k then .own (q+3) 0 0 0 else nilV) nilV rfl (by rw [rg_get (by omega),if_neg (by omega)]) rfl
  refine h1.trans ?_
  have e:(rg n fun q=>if q<k then AV.own (q+3) 0 0 0 else nilV).set k (recell nilV (nilV.cells.set 0 (.own ([o0,AObj.arr g 1 et (rg n fun q=>if q<k then .own (q+3) 0 0 0 else nilV),o2]++rg k fun _=>AObj.arr 0 1 3 []).length 0 0 0)))=rg n fun q=>if q<k+1 then AV.own (q+3) 0 0 0 else nilV:=by
   have hl:([o0,AObj.arr g 1 et (rg n fun q=>if q<k then .own (q+3) 0 0 0 else nilV),o2]++rg k fun _=>AObj.arr 0 1 3 []).length=k+3:=by
    rw [List.length_append,rg_len];simp only [List.length_cons,List.length_nil];omega
   rw [hl,rg_set]
   refine rg_congr fun p _=>?_
   by_cases h:p=k
   ·rw [if_pos h,if_pos (by omega),h];rfl
   ·rw [if_neg h]
    by_cases h2:p<k
    ·rw [if_pos h2,if_pos (by omega)]
    ·rw [if_neg h2,if_neg (by omega)]
  rw [e,rg_succ,List.set_append_left _ _ (by simp)]
  simp only [List.set_cons_succ,List.set_cons_zero,List.append_assoc]
  exact .refl _ _
theorem wk_frees {m:Nat} {env:List (Nat × AV)} (o0 o2:AObj) (n g:Nat) (et:TypeId) (F:Nat->List Int):∀ k,k<=n ->
 WkE m ⟨env,[o0,.arr g 1 et (rg n fun q=>.own (q+3) (F q).length 0 (F q).length),o2]++rg n fun q=>.arr (F q).length 1 3 ((F q).map vi)⟩
  ⟨env,[o0,.arr g 1 et (rg n fun q=>if q<k then vints (F q) else .own (q+3) (F q).length 0 (F q).length),o2]++rg n fun q=>if q<k then .dead else .arr (F q).length 1 3 ((F q).map vi)⟩:=by
 intro k
 induction k with
 | zero =>
  intro _
  have e1:(rg n fun q=>if q<0 then vints (F q) else AV.own (q+3) (F q).length 0 (F q).length)=rg n fun q=>AV.own (q+3) (F q).length 0 (F q).length:=rg_congr fun p _=>by rw [if_neg (by omega)]
  have e2:(rg n fun q=>if q<0 then AObj.dead else AObj.arr (F q).length 1 3 ((F q).map vi))=rg n fun q=>AObj.arr (F q).length 1 3 ((F q).map vi):=rg_congr fun p _=>by rw [if_neg (by omega)]
  rw [e1,e2]
  exact .refl _ _
 | succ k ih =>
  intro hk
  refine (ih (by omega)).trans ?_
  have hg:([o0,AObj.arr g 1 et (rg n fun q=>if q<k then vints (F q) else .own (q+3) (F q).length 0 (F q).length),o2]++rg n fun q=>if q<k then AObj.dead else .arr (F q).length 1 3 ((F q).map vi))[k+3]? = some (.arr (F k).length 1 3 ((F k).map vi)):=by
   simp only [List.cons_append,List.nil_append,List.getElem?_cons_succ]
   rw [rg_get (by omega),if_neg (by omega)]
  have h1:=WkE.freezeCell (n:=m) (env:=env) (objs:=[o0,.arr g 1 et (rg n fun q=>if q<k then vints (F q) else .own (q+3) (F q).length 0 (F q).length),o2]++rg n fun q=>if q<k then .dead else .arr (F q).length 1 3 ((F q).map vi)) 1 g 1 k 0 (k+3) (F k).length 0 (F k).length 1 et 3 (rg n fun q=>if q<k then vints (F q) else .own (q+3) (F q).length 0 (F q).length) ((F k).map vi) (.own (k+3) (F k).length 0 (F k).length) rfl (by rw [rg_get (by omega),if_neg (by omega)]) rfl hg (by omega) (by simp) (isT_map (fun _=>rfl) _)
  refine h1.trans ?_
  rw [List.drop_zero,List.take_of_length_le (by simp)]
  have e:(rg n fun q=>if q<k then vints (F q) else AV.own (q+3) (F q).length 0 (F q).length).set k (recell (AV.own (k+3) (F k).length 0 (F k).length) ((AV.own (k+3) (F k).length 0 (F k).length).cells.set 0 (.list 1 ((F k).map vi))))=rg n fun q=>if q<k+1 then vints (F q) else AV.own (q+3) (F q).length 0 (F q).length:=by
   rw [rg_set]
   refine rg_congr fun p _=>?_
   by_cases h:p=k
   ·rw [if_pos h,if_pos (by omega),h];rfl
   ·rw [if_neg h]
    by_cases h2:p<k
    ·rw [if_pos h2,if_pos (by omega)]
    ·rw [if_neg h2,if_neg (by omega)]
  have e2:(rg n fun q=>if q<k then AObj.dead else AObj.arr (F q).length 1 3 ((F q).map vi)).set k .dead=rg n fun q=>if q<k+1 then AObj.dead else AObj.arr (F q).length 1 3 ((F q).map vi):=by
   rw [rg_set]
   refine rg_congr fun p _=>?_
   by_cases h:p=k
   ·rw [if_pos h,if_pos (by omega)]
   ·rw [if_neg h]
    by_cases h2:p<k
    ·rw [if_pos h2,if_pos (by omega)]
    ·rw [if_neg h2,if_neg (by omega)]
  rw [e]
  simp only [List.cons_append,List.nil_append,List.set_cons_succ,List.set_cons_zero,e2]
  exact .refl _ _
theorem rg_mapA {α β : Type} (n:Nat) (f:Nat->α) (g : α->β):(rg n f).map g=rg n fun q=>g (f q):=by simp [rg]
abbrev oA (a:Au):AObj:=.arr 1 3 34 [vau a]
abbrev orw (s c:List Bool) (j:Nat):Int:=IntKind.u64.wrap (((BitVec.ofInt 64 (wdi s j) ||| BitVec.ofInt 64 (wdi c j)).toNat:Nat):Int)
abbrev mobj (a:Au) (n:Nat) (s:List Bool):AObj:=.arr 1 10 82 [.agg [vi a.sy,vw (wdi s 0),vw (wdi s 1),vw (wdi s 2),vw (wdi s 3),.own 5 n 0 n,vw (wdi (firstA a) 0),vw (wdi (firstA a) 1),vw (wdi (firstA a) 2),vw (wdi (firstA a) 3)]]
abbrev objsM (a:Au) (n:Nat) (FV Cl M:List AV) (s:List Bool) (R:List AObj):List AObj :=
 [oA a,.arr n 1 22 FV,.arr 1 1 61 [.own 1 n 0 n],.arr n 4 79 Cl,.arr 1 1 128 [.own 3 n 0 n],.arr n 1 128 M,mobj a n s]++R
theorem objsM_inn (a:Au) (n:Nat) (FV Cl M:List AV) (s:List Bool) (R:List AObj) (L:Nat) (hL:7<=L) (h1:(FV.all (AV.inn L))=true) (h2:(Cl.all (AV.inn L))=true) (h3:(M.all (AV.inn L))=true) (h4:(R.all fun o=>o.innO L)=true):((objsM a n FV Cl M s R).all fun o=>o.innO L)=true:=by
 have d1:decide (1<L)=true:=by simp;omega
 have d3:decide (3<L)=true:=by simp;omega
 have d5:decide (5<L)=true:=by simp;omega
 refine Bool.and_eq_true_iff.2 ⟨rfl,Bool.and_eq_true_iff.2 ⟨h1,Bool.and_eq_true_iff.2 ⟨?_,Bool.and_eq_true_iff.2 ⟨h2,Bool.and_eq_true_iff.2 ⟨?_,Bool.and_eq_true_iff.2 ⟨h3,Bool.and_eq_true_iff.2 ⟨?_,h4⟩⟩⟩⟩⟩⟩⟩
 ·simp [AObj.innO,AV.inn,AV.inn1,d1]
 ·simp [AObj.innO,AV.inn,AV.inn1,d3]
 ·simp [AObj.innO,AV.inn,AV.inn1,d5]
def accS (a:Au) (k:Nat):List Bool:=(List.range a.acc.length).map fun j=>decide (j<k) && bt a.acc j
theorem accS_len (a:Au) (k:Nat):(accS a k).length=a.acc.length:=by simp [accS]
theorem accS_bt (a:Au) (k j:Nat):bt (accS a k) j=(decide (j<k) && bt a.acc j):=by
 rw [accS,bt_map]
 cases e:bt a.acc j with
 | false=>simp
 | true=>have:=bt_lt e;simp [this]
theorem accS_zero (a:Au):accS a 0=noneS a.acc.length:=bt_ext (by rw [accS_len];simp [noneS]) fun j _=>by rw [accS_bt,noneS_bt];simp
theorem accS_all (a:Au):accS a a.acc.length=a.acc:=bt_ext (accS_len _ _) fun j hj=>by
 rw [accS_len] at hj
 rw [accS_bt];simp [hj]
theorem accS_t (a:Au) (k:Nat) (hk:k<a.acc.length) (h:bt a.acc k=true):accS a (k+1)=putS (accS a k) k:=bt_ext (by rw [putS_len,accS_len,accS_len]) fun j _=>by
 rw [accS_bt,putS_bt (by rw [accS_len];exact hk),accS_bt]
 by_cases e:j=k
 ·subst e;rw [h];simp
 ·have:(j<k+1) ↔ (j<k):=by omega
  simp [e,this]
theorem accS_f (a:Au) (k:Nat) (h:bt a.acc k=false):accS a (k+1)=accS a k:=bt_ext (by rw [accS_len,accS_len]) fun j _=>by
 rw [accS_bt,accS_bt]
 by_cases e:j=k
 ·subst e;rw [h];simp
 ·have:(j<k+1) ↔ (j<k):=by omega
  simp [this]
abbrev vmach (a:Au):AV:=.ptr [vi a.sy,vw (wdi a.acc 0),vw (wdi a.acc 1),vw (wdi a.acc 2),vw (wdi a.acc 3),.list 1 (rg a.acc.length fun i=>.list 4 (rg a.sy.toNat fun x=>vset (moveP a i (x:Int)))),vw (wdi (firstA a) 0),vw (wdi (firstA a) 1),vw (wdi (firstA a) 2),vw (wdi (firstA a) 3)]
def c41b:CCode:=(.seq (.seq (.region [oo 91 (.fieldAddr 2 (T 1)),oo 92 (.load false 1 (T 91)),oo 93 (.len (T 92)),oo 94 (.mov (kk 0))])
 (.block 6 (.loop
 (.seq (.region [oo 95 (.ibin .lss (T 94) (T 93))])
 (.seq (.cond (T 95)
 .skip
 (.exit 6))
 (.seq (.block 7 (.seq (.region [oo 96 (.idxS 3 (T 92) (T 94)),oo 97 (.load true 3 (T 96)),oo 14 (.alloc 72 (.agg [(.val (.int .i64 0)),(.val (.int .i64 0)),(.val (.int .i64 0))])),nn (.store 3 (T 14) (T 97))])
 (.seq (.region [oo 98 (.fieldAddr 1 (T 14)),oo 99 (.load false 1 (T 98)),oo 100 (.ibin .geq (T 99) (kk 0))])
 (.cond (T 100)
 (.seq (.drawn [vv 101 10,oo 102 (.nilCheck (T 101)),oo 103 (.fieldAddr 5 (T 102)),oo 104 (.load false 1 (T 103)),oo 105 (.fieldAddr 0 (T 14)),oo 106 (.load false 1 (T 105)),oo 107 (.idxS 1 (T 104) (T 106)),oo 108 (.load false 1 (T 107)),oo 109 (.fieldAddr 1 (T 14)),oo 110 (.load false 1 (T 109)),oo 111 (.idxS 4 (T 108) (T 110)),vv 15 111] [])
 (.seq (.region [oo 112 (.load false 1 (T 7)),oo 113 (.fieldAddr 2 (T 14)),oo 114 (.load false 1 (T 113)),oo 115 (.idxS 4 (T 112) (T 114)),oo 116 (.load true 4 (T 115)),oo 117 (.mov (kk 0))])
 (.block 8 (.loop
 (.seq (.region [oo 118 (.ibin .lss (T 117) (kk 4))])
 (.seq (.cond (T 118)
 .skip
 (.exit 8))
 (.seq (.block 9 (.seq (.region [vv 119 117,oo 120 (.idxV false 4 1 (T 116) (T 117)),vv 16 119,vv 17 120])
 (.drawn [vv 121 15,vv 122 16,oo 123 (.nilCheck (T 121)),oo 124 (.idxA 4 1 (T 123) (T 122)),oo 125 (.load false 1 (T 124)),vv 126 17,oo 127 (.ibin .or (T 125) (T 126)),oo 128 (.nilCheck (T 121)),oo 129 (.idxA 4 1 (T 128) (T 122))] [(nn (.store 1 (T 129) (T 127)),[])])))
 (.region [oo 130 (.ibin .add (T 117) (kk 1)),vv 117 130]))))))))
 .skip))))
 (.region [oo 131 (.ibin .add (T 94) (kk 1)),vv 94 131])))))))
 (.seq (.region [vv 132 10,vv 2 132])
 .ret))
set_option maxHeartbeats 4000000 in
theorem edges_s (a:Au) (hv:VA a) (n y:Nat) (hn:a.acc.length=n) (hy:a.sy=(y:Int)) (FV Cl Mf:List AV) (hMf:(rg n fun q=>AV.own (q+7) y 0 y)=Mf) (hClq:∀ q,q<n->Cl[q]? = some (vset (clA a (oneS n q)))) (hFVI:∀ L,(FV.all (AV.inn L))=true) (hClI:∀ L,(Cl.all (AV.inn L))=true) (F0:FD) (w0:World) :
 CwpE Try.prog F0 w0 133 c41b (retE [.tmp 2] (vmach a)) ⟨[(1,.ref 0 1 0 0),(7,.ref 4 1 0 0),(10,.ref 6 1 0 0)],objsM a n FV Cl Mf a.acc (rg n fun _=>.arr y 4 79 (rg y fun _=>vset (noneS n)))⟩:=by
 obtain ⟨⟨hsy1,hsy2⟩,⟨hn1,hn2⟩,hm,hed⟩:=hv
 unfold c41b
 obtain ⟨Re,hRe⟩:∃ Re:Nat->List AObj,Re=fun k=>rg n fun q=>.arr y 4 79 (rg y fun x=>vset (moveL a (a.ed.take k) q (x:Int))):=⟨_,rfl⟩
 have hRe0:(rg n fun _=>AObj.arr y 4 79 (rg y fun _=>vset (noneS n)))=Re 0:=by
  rw [hRe,<-hn]
  rfl
 rw [hRe0]
 have hRl:∀ k,(Re k).length=n:=fun k=>by rw [hRe];exact rg_len _ _
 have objI:∀ k,((objsM a n FV Cl Mf a.acc (Re k)).all fun o=>o.innO (n+7))=true:=fun k=>by
  refine objsM_inn a n FV Cl Mf a.acc (Re k) (n+7) (by omega) (hFVI _) (hClI _) ?_ ?_
  ·rw [<-hMf]
   exact rg_all fun q hq=>by simp [AV.inn,AV.inn1];omega
  ·rw [hRe]
   exact rg_all fun q hq=>by
    simp only [AObj.innO]
    exact rg_all fun x hx=>rfl
 refine CwpE.step (fun s=>s=⟨[(10,.ref 6 1 0 0)],objsM a n FV Cl Mf a.acc (Re a.ed.length)⟩) ?_ ?_
 ·simp only [objsM,go_sem,↓reduceIte,Nat.reduceLT,List.length_map]
  refine loopX 6 (fun m s=>∃ k:Nat,m=a.ed.length-k/\k<=a.ed.length/\s=⟨[(1,.ref 0 1 0 0),(7,.ref 4 1 0 0),(10,.ref 6 1 0 0),(92,vedges a.ed),(93,vi a.ed.length),(94,vi k)],objsM a n FV Cl Mf a.acc (Re k)⟩)
   (fun s=>s=⟨[(10,.ref 6 1 0 0)],objsM a n FV Cl Mf a.acc (Re a.ed.length)⟩) a.ed.length
   ⟨[(1,.ref 0 1 0 0),(7,.ref 4 1 0 0),(10,.ref 6 1 0 0),(92,vedges a.ed),(93,vi a.ed.length),(94,vi (0:Nat))],objsM a n FV Cl Mf a.acc (Re 0)⟩ (WkE.keep (by simp only [go_sem];rfl)) ⟨0,by omega,by omega,rfl⟩ ?_ ?_
  rotate_left
  ·rintro s rfl
   simp only [go_sem]
   exact ⟨_,.refl _ _,rfl⟩
  rintro m s ⟨k,rfl,hk,rfl⟩
  by_cases hlt:k<a.ed.length
  rotate_left
  ·obtain rfl:k=a.ed.length:=by omega
   simp only [go_sem,Int.lt_irrefl]
   exact ⟨_,WkE.kp,rfl⟩
  have g1:(k:Int)<(a.ed.length:Int):=by omega
  have g0:(0:Int)<=(k:Int):=by omega
  have w1:=wrap_s k (by omega)
  have hee:=hed _ (List.getElem_mem hlt)
  have hg:(a.ed.map vedge)[k]? = some (vedge a.ed[k]):=by rw [List.getElem?_map,List.getElem?_eq_getElem hlt];rfl
  have hsn:=fun i x=>moveL_snoc a (a.ed.take k) a.ed[k] i x
  rw [<-List.take_succ_eq_append_getElem hlt] at hsn
  generalize a.ed[k]=e at hee hg hsn
  obtain ⟨e1,e2,e3⟩:=e
  simp only at hee hg hsn
  obtain ⟨q,rfl⟩:∃ q:Nat,e1=(q:Int):=⟨e1.toNat,by omega⟩
  have hqn:q<n:=by omega
  by_cases hneg:e2<0
  ·have hsame:Re (k+1)=Re k:=by
    rw [hRe]
    refine rg_congr fun p hp=>?_
    have:(rg y fun x=>vset (moveL a (a.ed.take (k+1)) p (x:Int)))=rg y fun x=>vset (moveL a (a.ed.take k) p (x:Int)):=rg_congr fun x _=>by rw [hsn p x,if_neg (by omega)]
    rw [this]
   have hpos:¬ (0:Int)<=e2:=by omega
   have oI:=objI k
   have hRlk:=hRl k
   generalize Re k=R at *
   have hRn:∀ o,(R++[o])[n]? = some o:=fun o=>by rw [<-hRlk];simp
   have hRs:∀ o x,(R++[o]).set n x=R++[x]:=fun o x=>by rw [<-hRlk];simp
   simp only [go_sem,g1,g0,hg,hpos,hRlk,hRn,hRs,w1,Int.toNat_natCast]
   refine ⟨a.ed.length-(k+1),⟨[(1,.ref 0 1 0 0),(7,.ref 4 1 0 0),(10,.ref 6 1 0 0),(92,vedges a.ed),(93,vi a.ed.length),(94,vi (k+1:Nat))],objsM a n FV Cl Mf a.acc R⟩,by omega,WkE.round (by simp only [go_sem]) rfl ?_ ?_,k+1,rfl,by omega,by rw [hsame];rfl⟩
   ·have:(objsM a n FV Cl Mf a.acc R).length=n+7:=by simp only [objsM,List.length_append,hRlk,List.length_cons,List.length_nil];omega
    rw [this];exact oI
   ·simp [hRlk]
  obtain ⟨x,rfl⟩:∃ x:Nat,e2=(x:Int):=⟨e2.toNat,by omega⟩
  obtain ⟨z,rfl⟩:∃ z:Nat,e3=(z:Int):=⟨e3.toNat,by omega⟩
  have hxy:x<y:=by omega
  have hzn:z<n:=by omega
  obtain ⟨c,hc⟩:∃ c,clA a (oneS n z)=c:=⟨_,rfl⟩
  have hClz:=hClq z hzn
  rw [hc] at hClz
  obtain ⟨s,hs⟩:∃ s,moveL a (a.ed.take k) q (x:Int)=s:=⟨_,rfl⟩
  obtain ⟨C,hC⟩:∃ C,(rg y fun x=>vset (moveL a (a.ed.take k) q (x:Int)))=C:=⟨_,rfl⟩
  have hCl:C.length=y:=by rw [<-hC];exact rg_len _ _
  have hCx:C[x]? = some (vset s):=by rw [<-hC,rg_get hxy,hs]
  have hRq:(Re k)[q]? = some (.arr y 4 79 C):=by rw [hRe];simp only;rw [rg_get hqn,hC]
  have hMq:Mf[q]? = some (.own (q+7) y 0 y):=by rw [<-hMf,rg_get hqn]
  have hrow:∀ p,(rg y fun w=>vset (moveL a (a.ed.take (k+1)) p (w:Int)))=if p=q then C.set x (vset (orS s c)) else rg y fun w=>vset (moveL a (a.ed.take k) p (w:Int)):=fun p=>by
   by_cases h:p=q
   ·subst h
    rw [if_pos rfl,<-hC,rg_set]
    refine rg_congr fun w hw=>?_
    rw [hsn p w]
    by_cases h2:w=x
    ·subst h2
     rw [if_pos ⟨rfl,rfl⟩,if_pos rfl,hs,Int.toNat_natCast,hn,hc]
    ·rw [if_neg (by omega),if_neg h2]
   ·rw [if_neg h]
    exact rg_congr fun w hw=>by rw [hsn p w,if_neg (by omega)]
  have hnext:Re (k+1)=(Re k).set q (.arr y 4 79 (C.set x (vset (orS s c)))):=by
   rw [hRe]
   simp only
   rw [rg_set]
   refine rg_congr fun p hp=>?_
   rw [hrow p]
   by_cases h:p=q
   ·rw [if_pos h,if_pos h]
   ·rw [if_neg h,if_neg h]
  have oI:=objI (k+1)
  have hRlk:=hRl k
  have hRl1:=hRl (k+1)
  obtain ⟨R1,hR1⟩:∃ R1,Re (k+1)=R1:=⟨_,rfl⟩
  rw [hR1] at oI hnext hRl1
  have hsame:(Re k).set q (.arr y 4 79 (C.set x (vset s)))=Re k:=by
   have h1:C.set x (vset s)=C:=by
    apply List.ext_getElem?
    intro j
    rw [List.getElem?_set]
    split
    ·rename_i e;subst e;rw [if_pos (by omega),hCx]
    ·rfl
   rw [h1]
   apply List.ext_getElem?
   intro j
   rw [List.getElem?_set]
   split
   ·rename_i e;subst e;rw [if_pos (by rw [hRlk];exact hqn),hRq]
   ·rfl
  generalize Re k=R at hRq hRlk hsame hnext ⊢
  have q0':(0:Int)<=(q:Int):=by omega
  have q1':(q:Int)<(n:Int):=by omega
  have x0':(0:Int)<=(x:Int):=by omega
  have x1':(x:Int)<(y:Int):=by omega
  have z0':(0:Int)<=(z:Int):=by omega
  have z1':(z:Int)<(n:Int):=by omega
  have hRn:∀ o,(R++[o])[n]? = some o:=fun o=>by rw [<-hRlk];simp
  have hRs:∀ o x,(R++[o]).set n x=R++[x]:=fun o x=>by rw [<-hRlk];simp
  have hRq':∀ o,(R++[o])[q]? = some (.arr y 4 79 C):=fun o=>by rw [List.getElem?_append_left (by omega)];exact hRq
  have hX:∀ X o,(R.set q X++[o])[q]? = some X:=fun X o=>by rw [List.getElem?_append_left (by rw [List.length_set];omega),List.getElem?_set_self (by omega)]
  have hXs:∀ X Y o,(R.set q X++[o]).set q Y=R.set q Y++[o]:=fun X Y o=>by rw [List.set_append_left _ _ (by rw [List.length_set];omega),List.set_set]
  have hCX:∀ v,(C.set x v)[x]? = some v:=fun v=>List.getElem?_set_self (by omega)
  have hCs:∀ v w,(C.set x v).set x w=C.set x w:=fun v w=>List.set_set ..
  obtain ⟨oe,hoe⟩:∃ oe:AObj,oe = .arr 1 3 72 [.agg [vi q,vi x,vi z]]:=⟨_,rfl⟩
  have k4:((4:Nat):Int)=4:=rfl
  have v1:IntKind.i64.wrap (0+1)=1:=by decide
  have v2:IntKind.i64.wrap (1+1)=2:=by decide
  have v3:IntKind.i64.wrap (2+1)=3:=by decide
  have v4:IntKind.i64.wrap (3+1)=4:=by decide
  simp only [go_sem,g1,g0,hg,hRlk,hRn,hRs,hRq',hMq,hClz,q0',q1',x0',x1',z0',z1',Int.toNat_natCast]
  refine loopX 8 (fun m z=>(m=4/\z=⟨[(1,.ref 0 1 0 0),(7,.ref 4 1 0 0),(10,.ref 6 1 0 0),(15,.ref (q+7) y x 0),(92,vedges a.ed),(93,vi a.ed.length),(94,vi k),(116,vset c),(117,vi 0)],objsM a n FV Cl Mf a.acc (R.set q (.arr y 4 79 (C.set x (.agg [vw (wdi s 0),vw (wdi s 1),vw (wdi s 2),vw (wdi s 3)])))++[oe])⟩) \/ (m=3/\z=⟨[(1,.ref 0 1 0 0),(7,.ref 4 1 0 0),(10,.ref 6 1 0 0),(15,.ref (q+7) y x 0),(92,vedges a.ed),(93,vi a.ed.length),(94,vi k),(116,vset c),(117,vi 1)],objsM a n FV Cl Mf a.acc (R.set q (.arr y 4 79 (C.set x (.agg [vw (orw s c 0),vw (wdi s 1),vw (wdi s 2),vw (wdi s 3)])))++[oe])⟩) \/ (m=2/\z=⟨[(1,.ref 0 1 0 0),(7,.ref 4 1 0 0),(10,.ref 6 1 0 0),(15,.ref (q+7) y x 0),(92,vedges a.ed),(93,vi a.ed.length),(94,vi k),(116,vset c),(117,vi 2)],objsM a n FV Cl Mf a.acc (R.set q (.arr y 4 79 (C.set x (.agg [vw (orw s c 0),vw (orw s c 1),vw (wdi s 2),vw (wdi s 3)])))++[oe])⟩) \/ (m=1/\z=⟨[(1,.ref 0 1 0 0),(7,.ref 4 1 0 0),(10,.ref 6 1 0 0),(15,.ref (q+7) y x 0),(92,vedges a.ed),(93,vi a.ed.length),(94,vi k),(116,vset c),(117,vi 3)],objsM a n FV Cl Mf a.acc (R.set q (.arr y 4 79 (C.set x (.agg [vw (orw s c 0),vw (orw s c 1),vw (orw s c 2),vw (wdi s 3)])))++[oe])⟩) \/ (m=0/\z=⟨[(1,.ref 0 1 0 0),(7,.ref 4 1 0 0),(10,.ref 6 1 0 0),(15,.ref (q+7) y x 0),(92,vedges a.ed),(93,vi a.ed.length),(94,vi k),(116,vset c),(117,vi 4)],objsM a n FV Cl Mf a.acc (R.set q (.arr y 4 79 (C.set x (.agg [vw (orw s c 0),vw (orw s c 1),vw (orw s c 2),vw (orw s c 3)])))++[oe])⟩))
   (fun z=>z=⟨[(1,.ref 0 1 0 0),(7,.ref 4 1 0 0),(10,.ref 6 1 0 0),(92,vedges a.ed),(93,vi a.ed.length),(94,vi k)],objsM a n FV Cl Mf a.acc R1⟩) 4 ⟨[(1,.ref 0 1 0 0),(7,.ref 4 1 0 0),(10,.ref 6 1 0 0),(15,.ref (q+7) y x 0),(92,vedges a.ed),(93,vi a.ed.length),(94,vi k),(116,vset c),(117,vi 0)],objsM a n FV Cl Mf a.acc (R.set q (.arr y 4 79 (C.set x (.agg [vw (wdi s 0),vw (wdi s 1),vw (wdi s 2),vw (wdi s 3)])))++[oe])⟩ ?_ (.inl ⟨rfl,rfl⟩) ?_ ?_
  ·rw [hoe,hsame]
   exact WkE.kp
  rotate_left
  ·rintro z rfl
   simp only [go_sem,w1]
   exact ⟨a.ed.length-(k+1),⟨[(1,.ref 0 1 0 0),(7,.ref 4 1 0 0),(10,.ref 6 1 0 0),(92,vedges a.ed),(93,vi a.ed.length),(94,vi (k+1:Nat))],objsM a n FV Cl Mf a.acc R1⟩,by omega,WkE.kp,k+1,rfl,by omega,by rw [hR1];rfl⟩
  rintro m z (⟨rfl,rfl⟩ | ⟨rfl,rfl⟩ | ⟨rfl,rfl⟩ | ⟨rfl,rfl⟩ | ⟨rfl,rfl⟩)
  ·simp only [go_sem,Int.reduceLT,Int.le_refl,k4,hX,hXs,hCX,hCs,v1]
   exact ⟨3,⟨[(1,.ref 0 1 0 0),(7,.ref 4 1 0 0),(10,.ref 6 1 0 0),(15,.ref (q+7) y x 0),(92,vedges a.ed),(93,vi a.ed.length),(94,vi k),(116,vset c),(117,vi 1)],objsM a n FV Cl Mf a.acc (R.set q (.arr y 4 79 (C.set x (.agg [vw (orw s c 0),vw (wdi s 1),vw (wdi s 2),vw (wdi s 3)])))++[oe])⟩,by omega,WkE.kp,.inr (.inl ⟨rfl,rfl⟩)⟩
  ·simp only [go_sem,Int.reduceLT,Int.reduceLE,k4,hX,hXs,hCX,hCs,v2]
   exact ⟨2,⟨[(1,.ref 0 1 0 0),(7,.ref 4 1 0 0),(10,.ref 6 1 0 0),(15,.ref (q+7) y x 0),(92,vedges a.ed),(93,vi a.ed.length),(94,vi k),(116,vset c),(117,vi 2)],objsM a n FV Cl Mf a.acc (R.set q (.arr y 4 79 (C.set x (.agg [vw (orw s c 0),vw (orw s c 1),vw (wdi s 2),vw (wdi s 3)])))++[oe])⟩,by omega,WkE.kp,.inr (.inr (.inl ⟨rfl,rfl⟩))⟩
  ·simp only [go_sem,Int.reduceLT,Int.reduceLE,k4,hX,hXs,hCX,hCs,v3]
   exact ⟨1,⟨[(1,.ref 0 1 0 0),(7,.ref 4 1 0 0),(10,.ref 6 1 0 0),(15,.ref (q+7) y x 0),(92,vedges a.ed),(93,vi a.ed.length),(94,vi k),(116,vset c),(117,vi 3)],objsM a n FV Cl Mf a.acc (R.set q (.arr y 4 79 (C.set x (.agg [vw (orw s c 0),vw (orw s c 1),vw (orw s c 2),vw (wdi s 3)])))++[oe])⟩,by omega,WkE.kp,.inr (.inr (.inr (.inl ⟨rfl,rfl⟩)))⟩
  ·simp only [go_sem,Int.reduceLT,Int.reduceLE,k4,hX,hXs,hCX,hCs,v4]
   exact ⟨0,⟨[(1,.ref 0 1 0 0),(7,.ref 4 1 0 0),(10,.ref 6 1 0 0),(15,.ref (q+7) y x 0),(92,vedges a.ed),(93,vi a.ed.length),(94,vi k),(116,vset c),(117,vi 4)],objsM a n FV Cl Mf a.acc (R.set q (.arr y 4 79 (C.set x (.agg [vw (orw s c 0),vw (orw s c 1),vw (orw s c 2),vw (orw s c 3)])))++[oe])⟩,by omega,WkE.kp,.inr (.inr (.inr (.inr ⟨rfl,rfl⟩)))⟩
  ·simp only [go_sem,Int.lt_irrefl]
   refine ⟨_,WkE.round (by simp only [go_sem]) rfl ?_ ?_,rfl⟩
   ·show ((objsM a n FV Cl Mf a.acc R1).all fun o=>o.innO (objsM a n FV Cl Mf a.acc R1).length)=true
    have:(objsM a n FV Cl Mf a.acc R1).length=n+7:=by simp only [objsM,List.length_append,hRl1,List.length_cons,List.length_nil];omega
    rw [this];exact oI
   ·rw [hnext]
    simp [hRlk,vset,wdi_or,orw]
 rintro _ rfl
 have hRq:∀ q,q<n->(Re a.ed.length)[q]? = some (.arr y 4 79 (rg y fun x=>vset (moveP a q (x:Int)))):=fun q hq=>by
  rw [hRe]
  simp only
  rw [rg_get hq,List.take_length]
  rfl
 have hMq:∀ q,q<n->Mf[q]? = some (.own (q+7) y 0 y):=fun q hq=>by rw [<-hMf,rg_get hq]
 have hMl:Mf.length=n:=by rw [<-hMf,rg_len]
 have hyT:a.sy.toNat=y:=by omega
 have hRlk:=hRl a.ed.length
 generalize Re a.ed.length=R at *
 refine CwpE.vc ?_
 simp only [objsM,go_sem,↓reduceIte,Nat.reduceLT]
 have hsnap:∀ (objs:List AObj) (cs ds:List AV) (hl:cs.length=ds.length),(∀ i (h:i<cs.length),cs[i]'h=ds[i]'(by omega)/\(cs[i]'h).isT=true \/ Snap objs (cs[i]'h) (ds[i]'(by omega)))->∀ i (h:i<cs.length) (h2:i<ds.length),Snap objs cs[i] ds[i]:=fun objs cs ds hl h i h1 h2=>by
  rcases h i h1 with ⟨h3,h4⟩ | h3
  ·rw [<-h3];exact .tree _ h4
  ·exact h3
 refine .ref 6 1 0 0 _ _ rfl rfl fun i h1 h2=>?_
 match i,h1,h2 with
 | 0,_,_=>exact .tree _ rfl
 | 1,_,_=>exact .tree _ rfl
 | 2,_,_=>exact .tree _ rfl
 | 3,_,_=>exact .tree _ rfl
 | 4,_,_=>exact .tree _ rfl
 | 6,_,_=>exact .tree _ rfl
 | 7,_,_=>exact .tree _ rfl
 | 8,_,_=>exact .tree _ rfl
 | 9,_,_=>exact .tree _ rfl
 | 5,_,_ =>
  show Snap _ (.own 5 n 0 n) (.list 1 (rg a.acc.length fun i=>.list 4 (rg a.sy.toNat fun x=>vset (moveP a i (x:Int)))))
  rw [hn,hyT]
  refine .own 5 n 0 n 1 128 Mf _ rfl (by omega) (rg_len _ _) fun q hq=>?_
  rw [rg_len] at hq
  have e1:Mf[0+q]'(by omega) = .own (q+7) y 0 y:=by
   have:=hMq q hq
   rw [List.getElem?_eq_getElem (by omega)] at this
   simpa using Option.some.inj this
  have e2:(rg n fun i=>AV.list 4 (rg y fun x=>vset (moveP a i (x:Int))))[q]'(by rw [rg_len];exact hq) = .list 4 (rg y fun x=>vset (moveP a q (x:Int))):=by
   have:=rg_get hq fun i=>AV.list 4 (rg y fun x=>vset (moveP a i (x:Int)))
   rw [List.getElem?_eq_getElem (by rw [rg_len];exact hq)] at this
   exact Option.some.inj this
  rw [e1,e2]
  refine .own (q+7) y 0 y 4 79 (rg y fun x=>vset (moveP a q (x:Int))) _ ?_ (by rw [rg_len];omega) (rg_len _ _) fun x hx=>?_
  ·simp only [List.getElem?_cons_succ]
   exact hRq q hq
  ·simp only [Nat.zero_add]
   exact .tree _ (List.all_eq_true.1 (rg_all (p:=AV.isT) fun x hx=>rfl) _ (List.getElem_mem _))
abbrev FrA (a:Au):List (List Int):=rg a.acc.length (epsF a.ed)
theorem epsF_len (l:List Edg) (i:Nat):(epsF l i).length<=l.length:=by
 unfold epsF
 rw [List.length_map]
 exact List.length_filter_le _ _
abbrev fcell (l:List Edg) (q:Nat):AV:=.own (q+3) (epsF l q).length 0 (epsF l q).length
abbrev frow (l:List Edg) (q:Nat):AObj:=.arr (epsF l q).length 1 3 ((epsF l q).map vi)
abbrev objsF (a:Au) (l:List Edg):List AObj:=[oA a,.arr a.acc.length 1 22 (rg a.acc.length (fcell l)),.arr 1 1 61 [.own 1 a.acc.length 0 a.acc.length]]++rg a.acc.length (frow l)
abbrev objsG (a:Au) (C:List AV) (R:List AObj):List AObj:=[oA a,.arr a.acc.length 1 22 C,.arr 1 1 61 [.own 1 a.acc.length 0 a.acc.length]]++R
theorem objsF_inn (a:Au) (l:List Edg):((objsF a l).all fun o=>o.innO (objsF a l).length)=true:=by
 have hl:(objsF a l).length=a.acc.length+3:=by
  simp only [objsF,List.length_append,rg_len,List.length_cons,List.length_nil];omega
 rw [hl]
 have h1:((rg a.acc.length (fcell l)).all (AV.inn (a.acc.length+3)))=true:=rg_all fun q hq=>by simp [AV.inn,AV.inn1];omega
 have h2:((rg a.acc.length (frow l)).all fun o=>o.innO (a.acc.length+3))=true:=rg_all fun q hq=>inn_map fun _=>rfl
 exact Bool.and_eq_true_iff.2 ⟨rfl,Bool.and_eq_true_iff.2 ⟨h1,Bool.and_eq_true_iff.2 ⟨by simp [AObj.innO,AV.inn,AV.inn1],h2⟩⟩⟩
set_option maxHeartbeats 4000000 in
theorem newMachine_s (a:Au) (hv:VA a):Ctr Try.prog 41 [vau a] (vmach a):=by
 obtain ⟨⟨hsy1,hsy2⟩,⟨hn1,hn2⟩,hm,hed⟩:=hv
 refine specC f41 (by simp) fun F0 w0=>?_
 obtain ⟨n,hn⟩:∃ n,a.acc.length=n:=⟨_,rfl⟩
 unfold c41
 refine CwpE.cut (st:=⟨[(1,.ref 0 1 0 0)],[oA a]⟩) ?_ ?_
 ·simp only [go_sem]
  exact ⟨_,WkE.kp,rfl⟩
 refine CwpE.cut (st:=⟨[(1,.ref 0 1 0 0),(3,vi n)],[oA a]⟩) ?_ ?_
 ·simp only [go_sem,List.length_map,hn]
  exact ⟨_,WkE.kp,rfl⟩
 have q0:(0:Int)<=(n:Int):=by omega
 have q2:((24:Nat):Int)*(n:Int)<=281474976710656:=by omega
 have q3:(n:Int)<=9223372036854775807:=by omega
 refine CwpE.cut (st:=⟨[(1,.ref 0 1 0 0),(3,vi n),(4,.ref 2 1 0 0)],objsF a []⟩) ?_ ?_
 ·simp only [go_sem,q0,q2,q3,Int.le_refl,Int.toNat_natCast,rg_rep]
  refine ⟨_,(WkE.keep (env':=[(1,.ref 0 1 0 0),(3,vi n),(4,.ref 2 1 0 0)]) (by simp only [go_sem])).trans ((wk_nils _ _ n n 22 n (Nat.le_refl _)).trans ?_),rfl⟩
  have e1:(rg n fun q=>if q<n then AV.own (q+3) 0 0 0 else nilV)=rg n (fcell []):=rg_congr fun q hq=>by rw [if_pos hq];rfl
  have e2:(rg n fun _=>AObj.arr 0 1 3 [])=rg n (frow []):=rfl
  rw [e1,e2,<-hn]
  exact .refl _ _
 refine CwpE.step (fun s=>s=⟨[(1,.ref 0 1 0 0),(3,vi n),(4,.ref 2 1 0 0)],objsF a a.ed⟩) ?_ ?_
 ·simp only [go_sem,objsF,List.length_map]
  refine loopX 0 (fun m s=>∃ k:Nat,m=a.ed.length-k/\k<=a.ed.length/\s=⟨[(1,.ref 0 1 0 0),(3,vi n),(4,.ref 2 1 0 0),(24,vedges a.ed),(25,vi a.ed.length),(26,vi k)],objsF a (a.ed.take k)⟩)
   (fun s=>s=⟨[(1,.ref 0 1 0 0),(3,vi n),(4,.ref 2 1 0 0)],objsF a a.ed⟩) a.ed.length
   ⟨[(1,.ref 0 1 0 0),(3,vi n),(4,.ref 2 1 0 0),(24,vedges a.ed),(25,vi a.ed.length),(26,vi (0:Nat))],objsF a (a.ed.take 0)⟩ (WkE.keep (by simp only [go_sem];rfl)) ⟨0,by omega,by omega,rfl⟩ ?_ ?_
  rotate_left
  ·rintro s rfl
   simp only [go_sem]
   exact ⟨_,.refl _ _,rfl⟩
  rintro m s ⟨k,rfl,hk,rfl⟩
  by_cases hlt:k<a.ed.length
  rotate_left
  ·obtain rfl:k=a.ed.length:=by omega
   rw [List.take_length]
   simp only [go_sem,Int.lt_irrefl]
   exact ⟨_,WkE.kp,rfl⟩
  have g1:(k:Int)<(a.ed.length:Int):=by omega
  have g0:(0:Int)<=(k:Int):=by omega
  have w1:=wrap_s k (by omega)
  have hee:=hed _ (List.getElem_mem hlt)
  have hg:(a.ed.map vedge)[k]? = some (vedge a.ed[k]):=by rw [List.getElem?_map,List.getElem?_eq_getElem hlt];rfl
  have hsn:=fun i=>epsF_snoc (a.ed.take k) a.ed[k] i
  rw [<-List.take_succ_eq_append_getElem hlt] at hsn
  generalize a.ed[k]=e at hee hg hsn
  have hinn:=objsF_inn a (a.ed.take (k+1))
  have hle:∀ q,(epsF (a.ed.take k) q).length<=4096:=fun q=>by
   have:=epsF_len (a.ed.take k) q
   rw [List.length_take] at this
   omega
  by_cases hneg:e.2.1<0
  rotate_left
  ·have eqo:objsF a (a.ed.take (k+1))=objsF a (a.ed.take k):=by
    have h1:∀ q,epsF (a.ed.take (k+1)) q=epsF (a.ed.take k) q:=fun q=>by rw [hsn q,if_neg (fun h=>hneg h.1)]
    have h2:fcell (a.ed.take (k+1))=fcell (a.ed.take k):=funext fun q=>by simp only [fcell,h1]
    have h3:frow (a.ed.take (k+1))=frow (a.ed.take k):=funext fun q=>by simp only [frow,h1]
    simp only [objsF,h2,h3]
   rw [eqo] at hinn
   have hRl:(rg a.acc.length (frow (a.ed.take k))).length=n:=by rw [rg_len,hn]
   have fin:∀ st,WkE 133 st ⟨[(1,.ref 0 1 0 0),(3,vi n),(4,.ref 2 1 0 0),(24,vedges a.ed),(25,vi a.ed.length),(26,vi (k+1:Nat))],objsF a (a.ed.take k)⟩->WkE 133 st ⟨[(1,.ref 0 1 0 0),(3,vi n),(4,.ref 2 1 0 0),(24,vedges a.ed),(25,vi a.ed.length),(26,vi (k+1:Nat))],objsF a (a.ed.take (k+1))⟩:=fun st h=>by rw [eqo];exact h
   have eq0:objsF a (a.ed.take k)=objsG a (rg a.acc.length (fcell (a.ed.take k))) (rg a.acc.length (frow (a.ed.take k))):=rfl
   rw [eq0] at hinn fin ⊢
   clear eq0 eqo
   generalize rg a.acc.length (frow (a.ed.take k))=R at *
   generalize rg a.acc.length (fcell (a.ed.take k))=C at *
   have hRe:∀ o,(R++[o])[n]? = some o:=fun o=>by rw [<-hRl];simp
   have hRn:∀ o x,(R++[o]).set n x=R++[x]:=fun o x=>by rw [<-hRl];simp
   simp only [go_sem,g1,g0,hg,hneg,hRl,hRe,hRn,w1,Int.toNat_natCast]
   refine ⟨a.ed.length-(k+1),_,by omega,fin _ (WkE.round (by simp only [go_sem]) rfl hinn ?_),k+1,rfl,by omega,rfl⟩
   simp [hRl]
  obtain ⟨q,hq⟩:∃ q:Nat,e.1=(q:Int):=⟨e.1.toNat,by omega⟩
  have hqn:q<n:=by omega
  have hq0:(0:Int)<=(q:Int):=by omega
  have hq1:(q:Int)<(n:Int):=by omega
  have hRl:(rg a.acc.length (frow (a.ed.take k))).length=n:=by rw [rg_len,hn]
  have hRq:(rg a.acc.length (frow (a.ed.take k)))[q]? = some (frow (a.ed.take k) q):=rg_get (by omega) _
  have hCq:(rg a.acc.length (fcell (a.ed.take k)))[q]? = some (fcell (a.ed.take k) q):=rg_get (by omega) _
  have hR':rg a.acc.length (frow (a.ed.take (k+1)))=(rg a.acc.length (frow (a.ed.take k))).set q (.arr ((epsF (a.ed.take k) q).length+1) 1 3 (((epsF (a.ed.take k) q).map vi)++[vi e.2.2])):=by
   rw [rg_set]
   refine rg_congr fun p _=>?_
   by_cases h:p=q
   ·subst h
    rw [if_pos rfl,frow,hsn p,if_pos ⟨hneg,hq⟩]
    simp
   ·rw [if_neg h,frow,hsn p,if_neg (fun h'=>h (by omega))]
  have hC':rg a.acc.length (fcell (a.ed.take (k+1)))=(rg a.acc.length (fcell (a.ed.take k))).set q (.own (q+3) ((epsF (a.ed.take k) q).length+1) 0 ((epsF (a.ed.take k) q).length+1)):=by
   rw [rg_set]
   refine rg_congr fun p _=>?_
   by_cases h:p=q
   ·subst h
    rw [if_pos rfl,fcell,hsn p,if_pos ⟨hneg,hq⟩]
    simp
   ·rw [if_neg h,fcell,hsn p,if_neg (fun h'=>h (by omega))]
  have eqo:objsF a (a.ed.take (k+1))=[oA a,.arr a.acc.length 1 22 ((rg a.acc.length (fcell (a.ed.take k))).set q (.own (q+3) ((epsF (a.ed.take k) q).length+1) 0 ((epsF (a.ed.take k) q).length+1))),.arr 1 1 61 [.own 1 a.acc.length 0 a.acc.length]]++((rg a.acc.length (frow (a.ed.take k))).set q (.arr ((epsF (a.ed.take k) q).length+1) 1 3 (((epsF (a.ed.take k) q).map vi)++[vi e.2.2]))):=by
   simp only [objsF,hR',hC']
  have hl:=hle q
  rw [eqo] at hinn
  have fin:∀ (O:List AObj) st,objsF a (a.ed.take (k+1))=O->WkE 133 st ⟨[(1,.ref 0 1 0 0),(3,vi n),(4,.ref 2 1 0 0),(24,vedges a.ed),(25,vi a.ed.length),(26,vi (k+1:Nat))],O⟩->WkE 133 st ⟨[(1,.ref 0 1 0 0),(3,vi n),(4,.ref 2 1 0 0),(24,vedges a.ed),(25,vi a.ed.length),(26,vi (k+1:Nat))],objsF a (a.ed.take (k+1))⟩:=fun O st h1 h=>by rw [h1];exact h
  have fin:=fun st=>fin _ st eqo
  have eq0:objsF a (a.ed.take k)=objsG a (rg a.acc.length (fcell (a.ed.take k))) (rg a.acc.length (frow (a.ed.take k))):=rfl
  rw [eq0]
  clear eqo hR' hC' hsn eq0
  simp only [frow,fcell] at hRq hCq
  generalize rg a.acc.length (frow (a.ed.take k))=R at *
  generalize rg a.acc.length (fcell (a.ed.take k))=C at *
  generalize epsF (a.ed.take k) q=L at *
  have hRe:∀ o,(R++[o])[n]? = some o:=fun o=>by rw [<-hRl];simp
  have hRn:∀ o x,(R++[o]).set n x=R++[x]:=fun o x=>by rw [<-hRl];simp
  have hRq':∀ o,(R++[o])[q]? = some (.arr L.length 1 3 (L.map vi)):=fun o=>by rw [List.getElem?_append_left (by omega)];exact hRq
  have hRs:∀ o x,(R++[o]).set q x=R.set q x++[o]:=fun o x=>List.set_append_left _ _ (by omega)
  have hRe':∀ o x,(R.set q x++[o])[n]? = some o:=fun o x=>by rw [List.getElem?_append_right (by rw [List.length_set];omega),List.length_set,hRl];simp
  have hRq2:∀ o x,(R.set q x++[o])[q]? = some x:=fun o x=>by rw [List.getElem?_append_left (by rw [List.length_set];omega),List.getElem?_set_self (by omega)]
  have qb:(L.length+1)*8<=140737488355328:=by omega
  simp only [go_sem,g1,g0,hg,hneg,hRl,hRe,hRn,hRe',hRq',hRq2,hRs,hCq,w1,hq,hq0,hq1,hn,qb,Int.toNat_natCast]
  refine ⟨a.ed.length-(k+1),_,by omega,fin _ (WkE.round (by simp only [go_sem]) rfl hinn ?_),k+1,rfl,by omega,by simp only [hn,List.cons_append,List.nil_append]⟩
  simp [hRl,hn]
 rintro _ rfl
 obtain ⟨Fr,hFr⟩:∃ Fr,FrA a=Fr:=⟨_,rfl⟩
 have hFl:Fr.length=n:=by rw [<-hFr,rg_len,hn]
 refine CwpE.wk (s':=⟨[(1,.ref 0 1 0 0),(3,vi n),(4,.ref 2 1 0 0)],[oA a,.arr n 1 22 (Fr.map vints),.arr 1 1 61 [.own 1 n 0 n]]⟩) ?_ ?_
 ·have h1:=wk_frees (m:=133) (env:=[(1,.ref 0 1 0 0),(3,vi n),(4,.ref 2 1 0 0)]) (oA a) (.arr 1 1 61 [.own 1 n 0 n]) n n 22 (epsF a.ed) n (Nat.le_refl _)
  have e1:(rg n fun q=>if q<n then vints (epsF a.ed q) else AV.own (q+3) (epsF a.ed q).length 0 (epsF a.ed q).length)=Fr.map vints:=by
   rw [<-hFr,rg_mapA,hn]
   exact rg_congr fun q hq=>by rw [if_pos hq]
  rw [e1] at h1
  have e0:objsF a a.ed=[oA a,AObj.arr n 1 22 (rg n fun q=>.own (q+3) (epsF a.ed q).length 0 (epsF a.ed q).length),.arr 1 1 61 [.own 1 n 0 n]]++rg n fun q=>.arr (epsF a.ed q).length 1 3 ((epsF a.ed q).map vi):=by
   rw [<-hn]
  rw [e0]
  refine h1.trans (WkE.round (by simp only [go_sem]) rfl ?_ rfl)
  exact Bool.and_eq_true_iff.2 ⟨rfl,Bool.and_eq_true_iff.2 ⟨inn_map (fun _=>rfl),rfl⟩⟩
 clear q2
 have q2:((32:Nat):Int)*(n:Int)<=281474976710656:=by omega
 obtain ⟨Z,hZ⟩:∃ Z:AV,vset (noneS n)=Z:=⟨_,rfl⟩
 have hZ':Z = .agg [vw 0,vw 0,vw 0,vw 0]:=by rw [<-hZ];simp only [vset,wdi_none]
 obtain ⟨Sc,hSc⟩:∃ Sc:Nat->List (List Bool),Sc=fun i=>rg n fun q=>if q<i then clA a (oneS n q) else noneS n:=⟨_,rfl⟩
 have hSl:∀ i,(Sc i).length=n:=fun i=>by rw [hSc];exact rg_len _ _
 have hS0:(Sc 0).map vset=rg n fun _=>AV.agg [vw 0,vw 0,vw 0,vw 0]:=by
  rw [hSc,rg_mapA,<-hZ']
  exact rg_congr fun q _=>by rw [if_neg (by omega),hZ]
 refine CwpE.cut (st:=⟨[(1,.ref 0 1 0 0),(3,vi n),(4,.ref 2 1 0 0),(7,.ref 4 1 0 0)],[oA a,.arr n 1 22 (Fr.map vints),.arr 1 1 61 [.own 1 n 0 n],.arr n 4 79 ((Sc 0).map vset),.arr 1 1 128 [.own 3 n 0 n]]⟩) ?_ ?_
 ·rw [hS0]
  simp only [go_sem,q0,q2,q3,Int.le_refl,Int.toNat_natCast,rg_rep]
  exact ⟨_,WkE.kp,rfl⟩
 refine CwpE.step (fun s=>s=⟨[(1,.ref 0 1 0 0),(3,vi n),(7,.ref 4 1 0 0)],[oA a,.arr n 1 22 (Fr.map vints),.arr 1 1 61 [.own 1 n 0 n],.arr n 4 79 ((Sc n).map vset),.arr 1 1 128 [.own 3 n 0 n]]⟩) ?_ ?_
 ·simp only [go_sem]
  refine loopX 2 (fun m s=>∃ k:Nat,m=n-k/\k<=n/\s=⟨[(1,.ref 0 1 0 0),(3,vi n),(4,.ref 2 1 0 0),(7,.ref 4 1 0 0),(49,vi n),(50,vi k)],[oA a,.arr n 1 22 (Fr.map vints),.arr 1 1 61 [.own 1 n 0 n],.arr n 4 79 ((Sc k).map vset),.arr 1 1 128 [.own 3 n 0 n]]⟩)
   (fun s=>s=⟨[(1,.ref 0 1 0 0),(3,vi n),(7,.ref 4 1 0 0)],[oA a,.arr n 1 22 (Fr.map vints),.arr 1 1 61 [.own 1 n 0 n],.arr n 4 79 ((Sc n).map vset),.arr 1 1 128 [.own 3 n 0 n]]⟩) n
   ⟨[(1,.ref 0 1 0 0),(3,vi n),(4,.ref 2 1 0 0),(7,.ref 4 1 0 0),(49,vi n),(50,vi (0:Nat))],[oA a,.arr n 1 22 (Fr.map vints),.arr 1 1 61 [.own 1 n 0 n],.arr n 4 79 ((Sc 0).map vset),.arr 1 1 128 [.own 3 n 0 n]]⟩ (WkE.keep (by simp only [go_sem];rfl)) ⟨0,by omega,by omega,rfl⟩ ?_ ?_
  rotate_left
  ·rintro s rfl
   simp only [go_sem]
   exact ⟨_,.refl _ _,rfl⟩
  rintro m s ⟨k,rfl,hk,rfl⟩
  by_cases hlt:k<n
  rotate_left
  ·obtain rfl:k=n:=by omega
   simp only [go_sem,Int.lt_irrefl]
   exact ⟨_,WkE.kp,rfl⟩
  have g1:(k:Int)<(n:Int):=by omega
  have w1:=wrap_s k (by omega)
  have hvA:VA a:=⟨⟨hsy1,hsy2⟩,⟨hn1,hn2⟩,hm,hed⟩
  obtain ⟨t,ht,hc⟩:=visit_s a n (by omega) Fr hFl (fun l hl=>by
   rw [<-hFr] at hl
   obtain ⟨q,hq,rfl⟩:=List.mem_map.1 hl
   refine ⟨by have:=epsF_len a.ed q;omega,fun j hj=>?_⟩
   have:=epsF_lt hvA hj
   omega) (epsN a) (fun q hq=>by
   have h1:Fr[q]? = some (epsF a.ed q):=by rw [<-hFr];exact rg_get (by rw [hn];omega) _
   rw [List.getElem?_eq_getElem hq] at h1
   rw [Option.some.inj h1]) k hlt n (Sc k) (noneS n) k (hSl k) (by rw [hSc];simp only;rw [rg_get hlt,if_neg (by omega)]) (by simp [noneS]) hlt (by omega)
  have ht':t=clA a (oneS n k):=by
   rw [<-hn] at ht ⊢
   exact vis_cl hvA (by omega) ht
  have hnext:(Sc k).set k t=Sc (k+1):=by
   rw [hSc]
   simp only
   rw [rg_set]
   refine rg_congr fun p _=>?_
   by_cases h:p=k
   ·rw [if_pos h,if_pos (by omega),ht',h]
   ·rw [if_neg h]
    by_cases h2:p<k
    ·rw [if_pos h2,if_pos (by omega)]
    ·rw [if_neg h2,if_neg (by omega)]
  rw [hnext] at hc
  simp only [go_sem,g1]
  refine callM (baseV a n Fr (Sc k) k) [] _ hc (List.append_nil _).symm (baseV_inn _ _ _ _ _) rfl ?_
  simp only [baseV,go_sem,↓reduceIte,Nat.reduceLT,Nat.reduceEqDiff,w1]
  refine ⟨n-(k+1),⟨[(1,.ref 0 1 0 0),(3,vi n),(4,.ref 2 1 0 0),(7,.ref 4 1 0 0),(49,vi n),(50,vi (k+1:Nat))],[oA a,.arr n 1 22 (Fr.map vints),.arr 1 1 61 [.own 1 n 0 n],.arr n 4 79 ((Sc (k+1)).map vset),.arr 1 1 128 [.own 3 n 0 n]]⟩,by omega,WkE.round (by simp only [go_sem]) rfl ?_ rfl,k+1,rfl,by omega,rfl⟩
  exact Bool.and_eq_true_iff.2 ⟨rfl,Bool.and_eq_true_iff.2 ⟨inn_map (fun _=>rfl),Bool.and_eq_true_iff.2 ⟨rfl,Bool.and_eq_true_iff.2 ⟨inn_map (fun _=>rfl),rfl⟩⟩⟩⟩
 rintro _ rfl
 obtain ⟨y,hy⟩:∃ y:Nat,a.sy=(y:Int):=⟨a.sy.toNat,by omega⟩
 have hyT:a.sy.toNat=y:=by omega
 have y0:(0:Int)<=a.sy:=by omega
 have y2:((32:Nat):Int)*a.sy<=281474976710656:=by omega
 have y3:a.sy<=9223372036854775807:=by omega
 have p2:((24:Nat):Int)*(n:Int)<=281474976710656:=by omega
 have hClq:∀ q,q<n->((Sc n).map vset)[q]? = some (vset (clA a (oneS n q))):=fun q hq=>by
  rw [hSc]
  simp only
  rw [rg_mapA,rg_get hq,if_pos hq]
 have hCl0:((Sc n).map vset)[0]? = some (vset (firstA a)):=by
  rw [hClq 0 (by omega),firstA,hn]
 have hClI:∀ L,(((Sc n).map vset).all (AV.inn L))=true:=fun L=>inn_map fun _=>rfl
 have hFVI:∀ L,((Fr.map vints).all (AV.inn L))=true:=fun L=>inn_map fun _=>rfl
 generalize (Sc n).map vset=Cl at *
 generalize Fr.map vints=FV at *
 refine CwpE.cut (st:=⟨[(1,.ref 0 1 0 0),(7,.ref 4 1 0 0),(10,.ref 6 1 0 0)],objsM a n FV Cl (rg n fun _=>nilV) (noneS n) []⟩) ?_ ?_
 ·have n0:(0:Int)<(n:Int):=by omega
  simp only [objsM,mobj,wdi_none,go_sem,Nat.reduceLeDiff,↓reduceIte,Nat.reduceLT,Nat.reduceEqDiff,Nat.reduceAdd,Int.reduceToNat,q0,n0,p2,q3,Int.le_refl,Int.toNat_natCast,rg_rep,hCl0]
  exact ⟨_,WkE.kp,rfl⟩
 obtain ⟨Mk,hMk⟩:∃ Mk:Nat->List AV,Mk=fun k=>rg n fun q=>if q<k then .own (q+7) y 0 y else nilV:=⟨_,rfl⟩
 obtain ⟨Rk,hRk⟩:∃ Rk:Nat->List AObj,Rk=fun k=>rg k fun _=>.arr y 4 79 (rg y fun _=>vset (noneS n)):=⟨_,rfl⟩
 have hM0:(rg n fun _=>nilV)=Mk 0:=by rw [hMk];exact rg_congr fun q _=>by rw [if_neg (by omega)]
 have hR0:([]:List AObj)=Rk 0:=by rw [hRk];rfl
 have hs0:noneS n=accS a 0:=by rw [accS_zero,hn]
 rw [hM0,hR0,hs0]
 have objI:∀ k s,k<=n->((objsM a n FV Cl (Mk k) s (Rk k)).all fun o=>o.innO (k+7))=true:=fun k s hk=>by
  refine objsM_inn a n FV Cl (Mk k) s (Rk k) (k+7) (by omega) (hFVI _) (hClI _) ?_ ?_
  ·rw [hMk]
   refine rg_all fun q hq=>?_
   split
   ·simp [AV.inn,AV.inn1];omega
   ·rfl
  ·rw [hRk]
   exact rg_all fun q hq=>by
    simp only [AObj.innO]
    exact rg_all fun x hx=>rfl
 refine CwpE.step (fun s=>s=⟨[(1,.ref 0 1 0 0),(7,.ref 4 1 0 0),(10,.ref 6 1 0 0)],objsM a n FV Cl (Mk n) (accS a n) (Rk n)⟩) ?_ ?_
 ·simp only [objsM,go_sem,↓reduceIte,Nat.reduceLT,List.length_map,hn]
  refine loopX 4 (fun m s=>∃ k:Nat,m=n-k/\k<=n/\s=⟨[(1,.ref 0 1 0 0),(7,.ref 4 1 0 0),(10,.ref 6 1 0 0),(68,vbools a.acc),(69,vi n),(70,vi k)],objsM a n FV Cl (Mk k) (accS a k) (Rk k)⟩)
   (fun s=>s=⟨[(1,.ref 0 1 0 0),(7,.ref 4 1 0 0),(10,.ref 6 1 0 0)],objsM a n FV Cl (Mk n) (accS a n) (Rk n)⟩) n
   ⟨[(1,.ref 0 1 0 0),(7,.ref 4 1 0 0),(10,.ref 6 1 0 0),(68,vbools a.acc),(69,vi n),(70,vi (0:Nat))],objsM a n FV Cl (Mk 0) (accS a 0) (Rk 0)⟩ (WkE.keep (by simp only [go_sem];rfl)) ⟨0,by omega,by omega,rfl⟩ ?_ ?_
  rotate_left
  ·rintro s rfl
   simp only [go_sem]
   exact ⟨_,.refl _ _,rfl⟩
  rintro m s ⟨k,rfl,hk,rfl⟩
  by_cases hlt:k<n
  rotate_left
  ·obtain rfl:k=n:=by omega
   simp only [go_sem,Int.lt_irrefl]
   exact ⟨_,WkE.kp,rfl⟩
  have g1:(k:Int)<(n:Int):=by omega
  have g0:(0:Int)<=(k:Int):=by omega
  have w1:=wrap_s k (by omega)
  have hag:(a.acc.map vb)[k]? = some (vb (bt a.acc k)):=by
   rw [List.getElem?_map,List.getElem?_eq_getElem (by omega),bt,List.getD_eq_getElem?_getD,List.getElem?_eq_getElem (by omega)];rfl
  have hMg:(Mk k)[k]? = some nilV:=by rw [hMk];simp only;rw [rg_get hlt,if_neg (by omega)]
  have hMn:(Mk k).set k (.own (k+7) y 0 y)=Mk (k+1):=by
   rw [hMk]
   simp only
   rw [rg_set]
   refine rg_congr fun p _=>?_
   by_cases h:p=k
   ·rw [if_pos h,if_pos (by omega),h]
   ·rw [if_neg h]
    by_cases h2:p<k
    ·rw [if_pos h2,if_pos (by omega)]
    ·rw [if_neg h2,if_neg (by omega)]
  have hRn:Rk k++[.arr y 4 79 (rg y fun _=>AV.agg [vw 0,vw 0,vw 0,vw 0])]=Rk (k+1):=by
   rw [<-hZ',<-hZ,hRk]
   simp only
   rw [rg_succ]
  have hRl:(Rk k).length=k:=by rw [hRk];exact rg_len _ _
  have hRl1:(Rk (k+1)).length=k+1:=by rw [hRk];exact rg_len _ _
  have oI:((objsM a n FV Cl (Mk (k+1)) (accS a k) (Rk (k+1))).all fun o=>o.innO (k+1+7))=true:=objI (k+1) (accS a k) (by omega)
  obtain ⟨M1,hM1⟩:∃ M1,Mk (k+1)=M1:=⟨_,rfl⟩
  obtain ⟨R1,hR1⟩:∃ R1,Rk (k+1)=R1:=⟨_,rfl⟩
  rw [hM1] at hMn oI
  rw [hR1] at hRn hRl1 oI
  generalize Mk k=M at hMg hMn ⊢
  generalize Rk k=R at hRn hRl ⊢
  have hR8:∀ o,(R++[o])[k]? = some o:=fun o=>by rw [<-hRl];simp
  cases hb:bt a.acc k with
  | false =>
   rw [hb] at hag
   have hac:=accS_f a k hb
   simp only [go_sem,g1,g0,hag,hMg,y0,y2,y3,hyT,hRl,hR8,w1,Int.le_refl,Int.toNat_natCast,rg_rep]
   refine ⟨n-(k+1),⟨[(1,.ref 0 1 0 0),(7,.ref 4 1 0 0),(10,.ref 6 1 0 0),(68,vbools a.acc),(69,vi n),(70,vi (k+1:Nat))],objsM a n FV Cl M1 (accS a k) R1⟩,by omega,?_,k+1,rfl,by omega,by rw [hM1,hR1,hac];rfl⟩
   rw [<-hMn,<-hRn]
   exact WkE.kp
  | true =>
   rw [hb] at hag
   have hac:=accS_t a k (by omega) hb
   simp only [go_sem,g1,g0,hag,hMg,y0,y2,y3,hyT,hRl,hR8,Int.le_refl,Int.toNat_natCast,rg_rep]
   have hput:=put2_m (objsM a n FV Cl M1 (accS a k) R1) 6 1 0 10 82 _ (vi a.sy) (.own 5 n 0 n) (vw (wdi (firstA a) 0)) (vw (wdi (firstA a) 1)) (vw (wdi (firstA a) 2)) (vw (wdi (firstA a) 3)) (accS a k) k rfl rfl (by decide) (by
    have:(objsM a n FV Cl M1 (accS a k) R1).length=k+1+7:=by simp only [objsM,List.length_append,hRl1,List.length_cons,List.length_nil];omega
    rw [this];exact oI) (by rw [accS_len];omega) (by rw [accS_len];omega)
   refine callM (objsM a n FV Cl M1 (accS a k) R1) [] _ hput ?_ ?_ ?_ ?_
   ·rw [<-hMn,<-hRn,List.append_nil];rfl
   ·have:(objsM a n FV Cl M1 (accS a k) R1).length=k+1+7:=by simp only [objsM,List.length_append,hRl1,List.length_cons,List.length_nil];omega
    rw [this];exact oI
   ·have:(objsM a n FV Cl M1 (accS a k) R1).length=k+1+7:=by simp only [objsM,List.length_append,hRl1,List.length_cons,List.length_nil];omega
    rw [this]
    simp [AV.inn,AV.inn1]
   simp only [objsM,go_sem,↓reduceIte,Nat.reduceLT,Nat.reduceEqDiff,w1]
   exact ⟨n-(k+1),⟨[(1,.ref 0 1 0 0),(7,.ref 4 1 0 0),(10,.ref 6 1 0 0),(68,vbools a.acc),(69,vi n),(70,vi (k+1:Nat))],objsM a n FV Cl M1 (putS (accS a k) k) R1⟩,by omega,WkE.kp,k+1,rfl,by omega,by rw [hM1,hR1,hac];rfl⟩
 rintro _ rfl
 have hacc:accS a n=a.acc:=by rw [<-hn];exact accS_all a
 have hMe:(rg n fun q=>AV.own (q+7) y 0 y)=Mk n:=by rw [hMk];exact rg_congr fun q hq=>by rw [if_pos hq]
 rw [hacc]
 simp only [hRk]
 exact edges_s a ⟨⟨hsy1,hsy2⟩,⟨hn1,hn2⟩,hm,hed⟩ n y hn hy FV Cl (Mk n) hMe hClq hFVI hClI F0 w0
def afterL (a:Au) (s:List Bool) (x:Int) (k:Nat):List Bool:=(List.range k).foldl (fun t i=>if bt s i then orS t (moveP a i x) else t) (noneS a.acc.length)
theorem afterL_succ (a:Au) (s:List Bool) (x:Int) (k:Nat):afterL a s x (k+1)=if bt s k then orS (afterL a s x k) (moveP a k x) else afterL a s x k:=by
 unfold afterL
 rw [List.range_succ,List.foldl_append];rfl
theorem afterL_all (a:Au) (s:List Bool) (x:Int):afterL a s x a.acc.length=afterP a s x:=rfl
set_option maxHeartbeats 4000000 in
theorem after_s (a:Au) (hv:VA a) (s:List Bool) (x:Nat) (hx:(x:Int)<a.sy):Ctr Try.prog 42 [vmach a,vset s,vi x] (vset (afterA a s (x:Int))):=by
 rw [<-after_eq hv]
 obtain ⟨⟨hsy1,hsy2⟩,⟨hn1,hn2⟩,hm,hed⟩:=hv
 refine specC f42 (by simp) fun F0 w0=>?_
 obtain ⟨n,hn⟩:∃ n,a.acc.length=n:=⟨_,rfl⟩
 obtain ⟨y,hy⟩:∃ y:Nat,a.sy.toNat=y:=⟨_,rfl⟩
 obtain ⟨Z,hZ⟩:∃ Z:AV,vset (noneS n)=Z:=⟨_,rfl⟩
 have hZ':Z = .agg [vw 0,vw 0,vw 0,vw 0]:=by rw [<-hZ];simp only [vset,wdi_none]
 obtain ⟨MV,hMV⟩:∃ MV:List AV,(rg a.acc.length fun i=>AV.list 4 (rg a.sy.toNat fun x=>vset (moveP a i (x:Int))))=MV:=⟨_,rfl⟩
 have hMg:∀ k,k<n->MV[k]? = some (.list 4 (rg y fun x=>vset (moveP a k (x:Int)))):=fun k hk=>by rw [<-hMV,rg_get (by omega),hy]
 have hMl:MV.length=n:=by rw [<-hMV,rg_len,hn]
 have hvm:vmach a = .ptr [vi a.sy,vw (wdi a.acc 0),vw (wdi a.acc 1),vw (wdi a.acc 2),vw (wdi a.acc 3),.list 1 MV,vw (wdi (firstA a) 0),vw (wdi (firstA a) 1),vw (wdi (firstA a) 2),vw (wdi (firstA a) 3)]:=by rw [vmach,hMV]
 unfold c42
 refine CwpE.cut (st:=⟨[(0,vmach a),(2,vi x),(4,.ref 0 1 0 0),(6,.ref 1 1 0 0)],[.arr 1 4 79 [vset s],.arr 1 4 79 [Z]]⟩) ?_ ?_
 ·rw [hZ']
  simp only [go_sem]
  exact ⟨_,WkE.kp,rfl⟩
 refine CwpE.cut (st:=⟨[(0,vmach a),(2,vi x),(4,.ref 0 1 0 0),(6,.ref 1 1 0 0),(7,.ref 2 1 0 0)],[.arr 1 4 79 [vset s],.arr 1 4 79 [Z],.arr 1 4 79 [vset (afterL a s x 0)]]⟩) ?_ ?_
 ·have:afterL a s x 0=noneS n:=by rw [<-hn];rfl
  rw [this,hZ,hZ']
  simp only [go_sem]
  exact ⟨_,WkE.kp,rfl⟩
 have z0:(0:Int)<=(x:Int):=by omega
 have hxy:x<y:=by omega
 refine CwpE.step (fun z=>z=⟨[(6,.ref 1 1 0 0),(7,.ref 2 1 0 0)],[.arr 1 4 79 [vset s],.arr 1 4 79 [Z],.arr 1 4 79 [vset (afterL a s x n)]]⟩) ?_ ?_
 ·simp only [hvm,go_sem,↓reduceIte,Nat.reduceLT,hMl]
  rw [<-hvm]
  refine loopX 0 (fun m z=>∃ k:Nat,m=n-k/\k<=n/\z=⟨[(0,vmach a),(2,vi x),(4,.ref 0 1 0 0),(6,.ref 1 1 0 0),(7,.ref 2 1 0 0),(14,.list 1 MV),(15,vi n),(16,vi k)],[.arr 1 4 79 [vset s],.arr 1 4 79 [Z],.arr 1 4 79 [vset (afterL a s x k)]]⟩)
   (fun z=>z=⟨[(6,.ref 1 1 0 0),(7,.ref 2 1 0 0)],[.arr 1 4 79 [vset s],.arr 1 4 79 [Z],.arr 1 4 79 [vset (afterL a s x n)]]⟩) n
   ⟨[(0,vmach a),(2,vi x),(4,.ref 0 1 0 0),(6,.ref 1 1 0 0),(7,.ref 2 1 0 0),(14,.list 1 MV),(15,vi n),(16,vi (0:Nat))],[.arr 1 4 79 [vset s],.arr 1 4 79 [Z],.arr 1 4 79 [vset (afterL a s x 0)]]⟩ (WkE.keep (by simp only [go_sem];rfl)) ⟨0,by omega,by omega,rfl⟩ ?_ ?_
  rotate_left
  ·rintro z rfl
   simp only [go_sem]
   exact ⟨_,.refl _ _,rfl⟩
  rintro m z ⟨k,rfl,hk,rfl⟩
  by_cases hlt:k<n
  rotate_left
  ·obtain rfl:k=n:=by omega
   simp only [go_sem,Int.lt_irrefl]
   exact ⟨_,WkE.kp,rfl⟩
  have g1:(k:Int)<(n:Int):=by omega
  have g0:(0:Int)<=(k:Int):=by omega
  have w1:=wrap_s k (by omega)
  have hh:=has_s s k (by omega)
  have hsu:=afterL_succ a s (x:Int) k
  obtain ⟨t,ht⟩:∃ t,afterL a s x k=t:=⟨_,rfl⟩
  rw [ht] at hsu ⊢
  simp only [go_sem,g1]
  refine callT hh rfl ?_
  cases hb:bt s k with
  | false =>
   rw [hb] at hsu
   simp only [go_sem,w1]
   exact ⟨n-(k+1),⟨[(0,vmach a),(2,vi x),(4,.ref 0 1 0 0),(6,.ref 1 1 0 0),(7,.ref 2 1 0 0),(14,.list 1 MV),(15,vi n),(16,vi (k+1:Nat))],[.arr 1 4 79 [vset s],.arr 1 4 79 [Z],.arr 1 4 79 [vset t]]⟩,by omega,WkE.kp,k+1,rfl,by omega,by rw [hsu];rfl⟩
  | true =>
   rw [hb,if_pos rfl] at hsu
   have hMk:=hMg k hlt
   have hrow:(rg y fun x=>vset (moveP a k (x:Int)))[x]? = some (vset (moveP a k (x:Int))):=rg_get hxy _
   obtain ⟨c,hc⟩:∃ c,moveP a k (x:Int)=c:=⟨_,rfl⟩
   rw [hc] at hsu hrow
   generalize (rg y fun x=>vset (moveP a k (x:Int)))=row at hMk hrow
   rw [hvm]
   simp only [go_sem,g0,z0,hMk,hrow,Int.toNat_natCast]
   rw [<-hvm]
   have k4:((4:Nat):Int)=4:=rfl
   have v1:IntKind.i64.wrap (0+1)=1:=by decide
   have v2:IntKind.i64.wrap (1+1)=2:=by decide
   have v3:IntKind.i64.wrap (2+1)=3:=by decide
   have v4:IntKind.i64.wrap (3+1)=4:=by decide
   refine loopX 2 (fun m z=>(m=4/\z=⟨[(0,vmach a),(2,vi x),(4,.ref 0 1 0 0),(6,.ref 1 1 0 0),(7,.ref 2 1 0 0),(14,.list 1 MV),(15,vi n),(16,vi k),(31,vset c),(32,vi 0)],[.arr 1 4 79 [vset s],.arr 1 4 79 [Z],.arr 1 4 79 [.agg [vw (wdi t 0),vw (wdi t 1),vw (wdi t 2),vw (wdi t 3)]]]⟩) \/ (m=3/\z=⟨[(0,vmach a),(2,vi x),(4,.ref 0 1 0 0),(6,.ref 1 1 0 0),(7,.ref 2 1 0 0),(14,.list 1 MV),(15,vi n),(16,vi k),(31,vset c),(32,vi 1)],[.arr 1 4 79 [vset s],.arr 1 4 79 [Z],.arr 1 4 79 [.agg [vw (orw t c 0),vw (wdi t 1),vw (wdi t 2),vw (wdi t 3)]]]⟩) \/ (m=2/\z=⟨[(0,vmach a),(2,vi x),(4,.ref 0 1 0 0),(6,.ref 1 1 0 0),(7,.ref 2 1 0 0),(14,.list 1 MV),(15,vi n),(16,vi k),(31,vset c),(32,vi 2)],[.arr 1 4 79 [vset s],.arr 1 4 79 [Z],.arr 1 4 79 [.agg [vw (orw t c 0),vw (orw t c 1),vw (wdi t 2),vw (wdi t 3)]]]⟩) \/ (m=1/\z=⟨[(0,vmach a),(2,vi x),(4,.ref 0 1 0 0),(6,.ref 1 1 0 0),(7,.ref 2 1 0 0),(14,.list 1 MV),(15,vi n),(16,vi k),(31,vset c),(32,vi 3)],[.arr 1 4 79 [vset s],.arr 1 4 79 [Z],.arr 1 4 79 [.agg [vw (orw t c 0),vw (orw t c 1),vw (orw t c 2),vw (wdi t 3)]]]⟩) \/ (m=0/\z=⟨[(0,vmach a),(2,vi x),(4,.ref 0 1 0 0),(6,.ref 1 1 0 0),(7,.ref 2 1 0 0),(14,.list 1 MV),(15,vi n),(16,vi k),(31,vset c),(32,vi 4)],[.arr 1 4 79 [vset s],.arr 1 4 79 [Z],.arr 1 4 79 [.agg [vw (orw t c 0),vw (orw t c 1),vw (orw t c 2),vw (orw t c 3)]]]⟩))
    (fun z=>z=⟨[(0,vmach a),(2,vi x),(4,.ref 0 1 0 0),(6,.ref 1 1 0 0),(7,.ref 2 1 0 0),(14,.list 1 MV),(15,vi n),(16,vi k)],[.arr 1 4 79 [vset s],.arr 1 4 79 [Z],.arr 1 4 79 [vset (orS t c)]]⟩) 4 ⟨[(0,vmach a),(2,vi x),(4,.ref 0 1 0 0),(6,.ref 1 1 0 0),(7,.ref 2 1 0 0),(14,.list 1 MV),(15,vi n),(16,vi k),(31,vset c),(32,vi 0)],[.arr 1 4 79 [vset s],.arr 1 4 79 [Z],.arr 1 4 79 [.agg [vw (wdi t 0),vw (wdi t 1),vw (wdi t 2),vw (wdi t 3)]]]⟩ (WkE.kp) (.inl ⟨rfl,rfl⟩) ?_ ?_
   rotate_left
   ·rintro z rfl
    simp only [go_sem,w1]
    exact ⟨n-(k+1),⟨[(0,vmach a),(2,vi x),(4,.ref 0 1 0 0),(6,.ref 1 1 0 0),(7,.ref 2 1 0 0),(14,.list 1 MV),(15,vi n),(16,vi (k+1:Nat))],[.arr 1 4 79 [vset s],.arr 1 4 79 [Z],.arr 1 4 79 [vset (orS t c)]]⟩,by omega,WkE.kp,k+1,rfl,by omega,by rw [hsu]⟩
   rintro m z (⟨rfl,rfl⟩ | ⟨rfl,rfl⟩ | ⟨rfl,rfl⟩ | ⟨rfl,rfl⟩ | ⟨rfl,rfl⟩)
   ·simp only [go_sem,Int.reduceLT,Int.le_refl,k4,v1]
    exact ⟨3,⟨[(0,vmach a),(2,vi x),(4,.ref 0 1 0 0),(6,.ref 1 1 0 0),(7,.ref 2 1 0 0),(14,.list 1 MV),(15,vi n),(16,vi k),(31,vset c),(32,vi 1)],[.arr 1 4 79 [vset s],.arr 1 4 79 [Z],.arr 1 4 79 [.agg [vw (orw t c 0),vw (wdi t 1),vw (wdi t 2),vw (wdi t 3)]]]⟩,by omega,WkE.kp,.inr (.inl ⟨rfl,rfl⟩)⟩
   ·simp only [go_sem,Int.reduceLT,Int.reduceLE,k4,v2]
    exact ⟨2,⟨[(0,vmach a),(2,vi x),(4,.ref 0 1 0 0),(6,.ref 1 1 0 0),(7,.ref 2 1 0 0),(14,.list 1 MV),(15,vi n),(16,vi k),(31,vset c),(32,vi 2)],[.arr 1 4 79 [vset s],.arr 1 4 79 [Z],.arr 1 4 79 [.agg [vw (orw t c 0),vw (orw t c 1),vw (wdi t 2),vw (wdi t 3)]]]⟩,by omega,WkE.kp,.inr (.inr (.inl ⟨rfl,rfl⟩))⟩
   ·simp only [go_sem,Int.reduceLT,Int.reduceLE,k4,v3]
    exact ⟨1,⟨[(0,vmach a),(2,vi x),(4,.ref 0 1 0 0),(6,.ref 1 1 0 0),(7,.ref 2 1 0 0),(14,.list 1 MV),(15,vi n),(16,vi k),(31,vset c),(32,vi 3)],[.arr 1 4 79 [vset s],.arr 1 4 79 [Z],.arr 1 4 79 [.agg [vw (orw t c 0),vw (orw t c 1),vw (orw t c 2),vw (wdi t 3)]]]⟩,by omega,WkE.kp,.inr (.inr (.inr (.inl ⟨rfl,rfl⟩)))⟩
   ·simp only [go_sem,Int.reduceLT,Int.reduceLE,k4,v4]
    exact ⟨0,⟨[(0,vmach a),(2,vi x),(4,.ref 0 1 0 0),(6,.ref 1 1 0 0),(7,.ref 2 1 0 0),(14,.list 1 MV),(15,vi n),(16,vi k),(31,vset c),(32,vi 4)],[.arr 1 4 79 [vset s],.arr 1 4 79 [Z],.arr 1 4 79 [.agg [vw (orw t c 0),vw (orw t c 1),vw (orw t c 2),vw (orw t c 3)]]]⟩,by omega,WkE.kp,.inr (.inr (.inr (.inr ⟨rfl,rfl⟩)))⟩
   ·simp only [go_sem,Int.lt_irrefl]
    refine ⟨⟨[(0,vmach a),(2,vi x),(4,.ref 0 1 0 0),(6,.ref 1 1 0 0),(7,.ref 2 1 0 0),(14,.list 1 MV),(15,vi n),(16,vi k)],[.arr 1 4 79 [vset s],.arr 1 4 79 [Z],.arr 1 4 79 [vset (orS t c)]]⟩,?_,rfl⟩
    simp only [vset,wdi_or]
    exact WkE.kp
 rintro _ rfl
 rw [<-hn,afterL_all,hZ']
 refine CwpE.vc ?_
 simp only [go_sem]
 exact .tree _ rfl
theorem bt_get {s:List Bool} {k:Nat} (h:k<s.length):(s.map vb)[k]? = some (vb (bt s k)):=by
 rw [List.getElem?_map,List.getElem?_eq_getElem h,bt,List.getD_eq_getElem?_getD,List.getElem?_eq_getElem h];rfl
theorem bt_set {s:List Bool} {k:Nat}:(s.map vb).set k (vb true)=(putS s k).map vb:=by rw [putS,List.map_set]
theorem edge_get {l:List Edg} {k:Nat} (h:k<l.length):(l.map vedge)[k]? = some (vedge l[k]):=by rw [List.getElem?_map,List.getElem?_eq_getElem h];rfl
set_option maxHeartbeats 1000000 in
theorem accepting_s (a:Au) (s:List Bool) (hs:s.length=a.acc.length) (hn:s.length<=100000):Ctr Try.prog 46 [vau a,vbools s] (vb (meets s a.acc)):=by
 refine specC f46 (by simp) fun F0 w0=>?_
 unfold c46
 refine CwpE.cut (st:=⟨[(1,vbools s),(2,.ref 0 1 0 0)],[.arr 1 3 26 [vau a]]⟩) ?_ ?_
 ·simp only [go_sem]
  exact ⟨_,WkE.kp,rfl⟩
 refine CwpE.vc ?_
 simp only [go_sem]
 refine loopX 0 (fun m z=>∃ k:Nat,m=s.length-k/\k<=s.length/\(∀ j,j<k->¬ (bt s j=true/\bt a.acc j=true))/\z=⟨[(1,vbools s),(2,.ref 0 1 0 0),(5,vi k)],[.arr 1 3 26 [vau a]]⟩)
  (fun z=>meets s a.acc=false/\z=⟨[],[]⟩) s.length
  ⟨[(1,vbools s),(2,.ref 0 1 0 0),(5,vi (0:Nat))],[.arr 1 3 26 [vau a]]⟩ (WkE.kp) ⟨0,by omega,by omega,fun j hj=>absurd hj (by omega),rfl⟩ ?_ ?_
 rotate_left
 ·rintro z ⟨h,rfl⟩
  rw [h]
  simp only [go_sem]
  exact .tree _ rfl
 rintro m z ⟨k,rfl,hk,hz,rfl⟩
 by_cases hlt:k<s.length
 rotate_left
 ·have hf:meets s a.acc=false:=by
   cases e:meets s a.acc with
   | false=>rfl
   | true =>
    obtain ⟨i,h1,h2⟩:=meets_iff.1 e
    exact absurd ⟨h1,h2⟩ (hz i (by have:=bt_lt h1;omega))
  have g1:¬ (k:Int)<(s.length:Int):=by omega
  simp only [go_sem,g1,List.length_map]
  exact ⟨⟨[],[]⟩,(WkE.keep (env':=[]) trivial).trans (WkE.round trivial rfl rfl rfl),hf,rfl⟩
 have g1:(k:Int)<(s.length:Int):=by omega
 have g0:(0:Int)<=(k:Int):=by omega
 have w1:=wrap_s k (by omega)
 have h1:=bt_get hlt
 have h2:=bt_get (s:=a.acc) (k:=k) (by omega)
 cases hb:bt s k with
 | false =>
  rw [hb] at h1
  simp only [go_sem,g1,g0,h1,w1,List.length_map,Int.toNat_natCast]
  refine ⟨s.length-(k+1),⟨[(1,vbools s),(2,.ref 0 1 0 0),(5,vi (k+1:Nat))],[.arr 1 3 26 [vau a]]⟩,by omega,WkE.kp,k+1,rfl,by omega,fun j hj=>?_,rfl⟩
  by_cases e:j=k
  ·subst e;rw [hb];simp
  ·exact hz j (by omega)
 | true =>
  rw [hb] at h1
  cases hc:bt a.acc k with
  | true =>
   rw [hc] at h2
   have:meets s a.acc=true:=meets_iff.2 ⟨k,hb,hc⟩
   rw [this]
   simp only [go_sem,g1,g0,h1,h2,List.length_map,Int.toNat_natCast]
   exact .tree _ rfl
  | false =>
   rw [hc] at h2
   simp only [go_sem,g1,g0,h1,h2,w1,List.length_map,Int.toNat_natCast]
   refine ⟨s.length-(k+1),⟨[(1,vbools s),(2,.ref 0 1 0 0),(5,vi (k+1:Nat))],[.arr 1 3 26 [vau a]]⟩,by omega,WkE.kp,k+1,rfl,by omega,fun j hj=>?_,rfl⟩
   by_cases e:j=k
   ·subst e;rw [hc];simp
   ·exact hz j (by omega)
theorem epsR_of {a:Au} {e:Edg} (he:e ∈ a.ed) (h1:e.2.1 = -1) (h2:0<=e.1) (h3:0<=e.2.2):epsR a e.1.toNat e.2.2.toNat=true:=by
 unfold epsR
 rw [List.any_eq_true]
 exact ⟨e,he,by rw [decide_eq_true_iff];omega⟩
theorem closed_cl {a:Au} {s t:List Bool} (hs:s.length=a.acc.length) (htl:t.length=a.acc.length) (hsub:∀ i,bt s i=true->bt t i=true) (hsnd:∀ i,bt t i=true->bt (clA a s) i=true) (hcl:∀ e ∈ a.ed,e.2.1 = -1->bt t e.1.toNat=true->bt t e.2.2.toNat=true):t=clA a s:=by
 refine bt_ext (by rw [htl,clA,cl_len hs]) fun j _=>⟨hsnd j,fun hj=>?_⟩
 refine (cl_is hs).least (fun j=>bt t j=true) hsub (fun i j hi hr _ _=>?_) j hj
 unfold epsR at hr
 obtain ⟨e,he,h⟩:=List.any_eq_true.1 hr
 rw [decide_eq_true_iff] at h
 have:=hcl e he h.1 (by rw [h.2.1];exact hi)
 rw [h.2.2] at this
 exact this
abbrev oB (a:Au):AObj:=.arr 1 3 26 [vau a]
set_option maxHeartbeats 2000000 in
theorem Closure_s (a:Au) (hv:VA a) (s:List Bool) (hs:s.length=a.acc.length):Ctr Try.prog 74 [vau a,vbools s] (vbools (clA a s)):=by
 obtain ⟨⟨hsy1,hsy2⟩,⟨hn1,hn2⟩,hm,hed⟩:=hv
 refine specC f74 (by simp) fun F0 w0=>?_
 obtain ⟨n,hn⟩:∃ n,a.acc.length=n:=⟨_,rfl⟩
 have hcs:=cl_is (n:=a.acc.length) (r:=epsR a) hs
 unfold c74
 refine CwpE.cut (st:=⟨[(1,vbools s),(2,.ref 0 1 0 0)],[oB a]⟩) ?_ ?_
 ·simp only [go_sem]
  exact ⟨_,WkE.kp,rfl⟩
 refine CwpE.cut (st:=⟨[(1,vbools s),(2,.ref 0 1 0 0),(5,.own 1 0 0 0)],[oB a,.arr 0 1 4 []]⟩) ?_ ?_
 ·simp only [go_sem]
  exact ⟨_,(WkE.nil 5 1 4 (by omega) rfl).trans (WkE.kp),rfl⟩
 refine CwpE.cut (st:=⟨[(2,.ref 0 1 0 0),(5,.own 1 n 0 n)],[oB a,.arr n 1 4 (s.map vb)]⟩) ?_ ?_
 ·have q1:n*1<=140737488355328:=by omega
  have q2:(0+n)*1<=140737488355328:=by omega
  simp only [go_sem,List.length_map,hs,hn,q1,Nat.zero_add]
  exact ⟨_,WkE.kp,rfl⟩
 refine CwpE.step (fun z=>z=⟨[(5,.own 1 n 0 n)],[oB a,.arr n 1 4 ((clA a s).map vb)]⟩) ?_ ?_
 rotate_left
 ·rintro _ rfl
  refine CwpE.vc ?_
  simp only [go_sem]
  refine .own 1 n 0 n 1 4 _ _ rfl (by rw [List.length_map,clA,cl_len hs];omega) (by rw [List.length_map,clA,cl_len hs,hn]) fun i hi=>?_
  simp only [Nat.zero_add,List.getElem_map]
  exact .tree _ rfl
 simp only [go_sem]
 refine loopX 0 (fun m z=>∃ (t:List Bool) (g:Bool),m=2*(n-cnt t)+g.toNat/\t.length=n/\(∀ i,bt s i=true->bt t i=true)/\(∀ i,bt t i=true->bt (clA a s) i=true)/\(g=false->t=clA a s)/\z=⟨[(2,.ref 0 1 0 0),(5,.own 1 n 0 n),(6,vb g)],[oB a,.arr n 1 4 (t.map vb)]⟩)
  (fun z=>z=⟨[(5,.own 1 n 0 n)],[oB a,.arr n 1 4 ((clA a s).map vb)]⟩) (2*(n-cnt s)+1)
  ⟨[(2,.ref 0 1 0 0),(5,.own 1 n 0 n),(6,vb true)],[oB a,.arr n 1 4 (s.map vb)]⟩ (WkE.kp)
  ⟨s,true,rfl,by omega,fun _ h=>h,hcs.sub,fun h=>(by cases h),rfl⟩ ?_ ?_
 rotate_left
 ·rintro z rfl
  simp only [go_sem]
  exact ⟨_,.refl _ _,rfl⟩
 rintro m z ⟨t,g,rfl,htl,hsub,hsnd,hg,rfl⟩
 cases g with
 | false =>
  rw [hg rfl]
  simp only [go_sem]
  exact ⟨_,WkE.kp,rfl⟩
 | true =>
  simp only [go_sem]
  have hct:cnt t<=n:=by have:=cnt_le t;omega
  refine loopX 2 (fun m z=>∃ (k:Nat) (u:List Bool) (g:Bool),m=a.ed.length-k/\k<=a.ed.length/\u.length=n/\(∀ i,bt t i=true->bt u i=true)/\(∀ i,bt u i=true->bt (clA a s) i=true) /\
   (g=true->cnt t<cnt u)/\(g=false->u=t/\∀ e ∈ a.ed.take k,e.2.1 = -1->bt t e.1.toNat=true->bt t e.2.2.toNat=true) /\
   z=⟨[(2,.ref 0 1 0 0),(5,.own 1 n 0 n),(6,vb g),(7,vi k)],[oB a,.arr n 1 4 (u.map vb)]⟩)
   (fun z=>∃ (u:List Bool) (g:Bool),u.length=n/\(∀ i,bt t i=true->bt u i=true)/\(∀ i,bt u i=true->bt (clA a s) i=true)/\(g=true->cnt t<cnt u)/\(g=false->u=t/\u=clA a s) /\
    z=⟨[(2,.ref 0 1 0 0),(5,.own 1 n 0 n),(6,vb g)],[oB a,.arr n 1 4 (u.map vb)]⟩) a.ed.length
   ⟨[(2,.ref 0 1 0 0),(5,.own 1 n 0 n),(6,vb false),(7,vi (0:Nat))],[oB a,.arr n 1 4 (t.map vb)]⟩ (WkE.kp)
   ⟨0,t,false,by omega,by omega,htl,fun _ h=>h,hsnd,fun h=>(by cases h),fun _=>⟨rfl,fun e he=>(by simp at he)⟩,rfl⟩ ?_ ?_
  rotate_left
  ·rintro z ⟨u,g,hul,h1,h2,h3,h4,rfl⟩
   simp only [go_sem]
   have hcu:cnt u<=n:=by have:=cnt_le u;omega
   refine ⟨2*(n-cnt u)+g.toNat,_,?_,.refl _ _,u,g,rfl,hul,fun i hi=>h1 i (hsub i hi),h2,fun e=>(h4 e).2,rfl⟩
   cases g with
   | true=>have:=h3 rfl;simp only [Bool.toNat_true];omega
   | false=>rw [(h4 rfl).1];simp only [Bool.toNat_false,Bool.toNat_true];omega
  rintro m z ⟨k,u,g,rfl,hk,hul,h1,h2,h3,h4,rfl⟩
  by_cases hlt:k<a.ed.length
  rotate_left
  ·have gk:¬ (k:Int)<(a.ed.length:Int):=by omega
   simp only [go_sem,gk,List.length_map]
   refine ⟨_,WkE.kp,u,g,hul,h1,h2,h3,fun e=>?_,rfl⟩
   obtain ⟨e1,e2⟩:=h4 e
   refine ⟨e1,closed_cl hs (by omega) (by rw [e1];exact hsub) h2 ?_⟩
   rw [List.take_of_length_le (by omega)] at e2
   rw [e1];exact e2
  have g1:(k:Int)<(a.ed.length:Int):=by omega
  have g0:(0:Int)<=(k:Int):=by omega
  have w1:=wrap_s k (by omega)
  have hmem:a.ed[k] ∈ a.ed:=List.getElem_mem hlt
  have hee:=hed _ hmem
  have heg:=edge_get hlt
  have htk:=List.take_succ_eq_append_getElem hlt
  generalize a.ed[k]=e at hmem hee heg htk
  obtain ⟨e1,e2,e3⟩:=e
  simp only at hee
  obtain ⟨p,rfl⟩:∃ p:Nat,e1=(p:Int):=⟨e1.toNat,by omega⟩
  obtain ⟨r,rfl⟩:∃ r:Nat,e3=(r:Int):=⟨e3.toNat,by omega⟩
  have p0:(0:Int)<=(p:Int):=by omega
  have p1:(p:Int)<(n:Int):=by omega
  have r0:(0:Int)<=(r:Int):=by omega
  have r1:(r:Int)<(n:Int):=by omega
  have hup:=bt_get (s:=u) (k:=p) (by omega)
  have hur:=bt_get (s:=u) (k:=r) (by omega)
  have same:¬ (e2 = -1/\bt u p=true/\bt u r=false)->∀ st,WkE 48 st ⟨[(2,.ref 0 1 0 0),(5,.own 1 n 0 n),(6,vb g),(7,vi (k+1:Nat))],[oB a,.arr n 1 4 (u.map vb)]⟩ ->
   ∃ m z,m<a.ed.length-k/\WkE 48 st z/\∃ (k':Nat) (u:List Bool) (g:Bool),m=a.ed.length-k'/\k'<=a.ed.length/\u.length=n/\(∀ i,bt t i=true->bt u i=true)/\(∀ i,bt u i=true->bt (clA a s) i=true) /\
   (g=true->cnt t<cnt u)/\(g=false->u=t/\∀ e ∈ a.ed.take k',e.2.1 = -1->bt t e.1.toNat=true->bt t e.2.2.toNat=true) /\
   z=⟨[(2,.ref 0 1 0 0),(5,.own 1 n 0 n),(6,vb g),(7,vi k')],[oB a,.arr n 1 4 (u.map vb)]⟩:=by
   intro hno st hst
   refine ⟨a.ed.length-(k+1),_,by omega,hst,k+1,u,g,rfl,by omega,hul,h1,h2,h3,fun e=>⟨(h4 e).1,fun x hx hx1 hx2=>?_⟩,rfl⟩
   rw [htk] at hx
   rcases List.mem_append.1 hx with hx | hx
   ·exact (h4 e).2 x hx hx1 hx2
   ·rw [List.mem_singleton] at hx
    subst hx
    rw [<- (h4 e).1] at hx2 ⊢
    simp only [Int.toNat_natCast] at hx2 ⊢
    cases hr:bt u r with
    | true=>rfl
    | false=>exact absurd ⟨hx1,hx2,hr⟩ hno
  have inn:([oB a,AObj.arr n 1 4 (u.map vb)].all fun o=>o.innO 2)=true:=Bool.and_eq_true_iff.2 ⟨rfl,Bool.and_eq_true_iff.2 ⟨inn_map (fun _=>rfl),rfl⟩⟩
  by_cases b1:e2 = -1
  rotate_left
  ·have hs1:=same fun h=>b1 h.1
   simp only [go_sem,g1,g0,heg,b1,w1,List.length_map,Int.toNat_natCast]
   exact hs1 _ (WkE.round (by simp only [go_sem]) rfl inn rfl)
  cases b2:bt u p with
  | false =>
   rw [b2] at hup
   have hs1:=same fun h=>by rw [b2] at h;cases h.2.1
   simp only [go_sem,g1,g0,heg,b1,hup,p0,p1,w1,List.length_map,Int.toNat_natCast]
   exact hs1 _ (WkE.round (by simp only [go_sem]) rfl inn rfl)
  | true =>
   rw [b2] at hup
   cases b3:bt u r with
   | true =>
    rw [b3] at hur
    have hs1:=same fun h=>by rw [b3] at h;cases h.2.2
    simp only [go_sem,g1,g0,heg,b1,hup,hur,p0,p1,r0,r1,w1,List.length_map,Int.toNat_natCast]
    exact hs1 _ (WkE.round (by simp only [go_sem]) rfl inn rfl)
   | false =>
    rw [b3] at hur
    have hpb:∀ j,bt (putS u r) j=(decide (j=r) || bt u j):=fun j=>putS_bt (by omega)
    have hc:=cnt_put (s:=u) (k:=r) (by omega) b3
    have hct':cnt t<=cnt u:=cnt_sub (by omega) h1
    simp only [go_sem,g1,g0,heg,b1,hup,hur,p0,p1,r0,r1,w1,bt_set,List.length_map,Int.toNat_natCast]
    refine ⟨a.ed.length-(k+1),⟨[(2,.ref 0 1 0 0),(5,.own 1 n 0 n),(6,vb true),(7,vi (k+1:Nat))],[oB a,.arr n 1 4 ((putS u r).map vb)]⟩,by omega,WkE.round (by simp only [go_sem]) rfl (Bool.and_eq_true_iff.2 ⟨rfl,Bool.and_eq_true_iff.2 ⟨inn_map (fun _=>rfl),rfl⟩⟩) rfl,k+1,putS u r,true,rfl,by omega,by rw [putS_len,hul],fun i hi=>by rw [hpb,h1 i hi,Bool.or_true],fun i hi=>?_,fun _=>by omega,fun h=>(by cases h),rfl⟩
    rw [hpb] at hi
    simp only [Bool.or_eq_true,decide_eq_true_eq] at hi
    rcases hi with rfl | hi
    ·have:=epsR_of hmem b1 (by simp) (by simp)
     simp only [Int.toNat_natCast] at this
     exact hcs.clo p i (h2 p b2) this (by omega)
    ·exact h2 i hi
theorem one_put {n:Nat} (h:0<n):putS (noneS n) 0=oneS n 0:=bt_ext (by rw [putS_len,oneS_len];simp [noneS]) fun j _=>by
 rw [putS_bt (by simpa [noneS] using h),noneS_bt]
 by_cases e:j=0
 ·subst e;simp [oneS,h]
 ·simp only [e,decide_false,Bool.or_false,Bool.false_eq_true,false_iff]
  intro h';exact e (oneS_bt.1 h').2
theorem none_map (n:Nat):(noneS n).map vb=List.replicate n (vb false):=by rw [noneS,List.map_replicate]
theorem wk_list1 {m n:Nat} {env env':List (Nat × AV)} {objs:List AObj} (o:AObj) (k id:Nat) (l:List Bool) (hkn:k<m) (h:lk env k = .own id n 0 n) (hid:objs[id]? = some (.arr n 1 4 (l.map vb))) (hl:l.length=n) (h1:id=1) (hO:objs.take 1=[o]) (ho:o.innO 1=true) (hA:Agree ((k,vbools l)::env) env') (he:(env'.all fun p=>p.2.inn 1)=true):WkE m ⟨env,objs⟩ ⟨env',[o]⟩:=by
 subst h1
 have e1:((l.map vb).drop 0).take n=l.map vb:=by rw [List.drop_zero,List.take_of_length_le (by simp [hl])]
 have h2:=WkE.freeze (n:=m) (env:=env) (objs:=objs) k 1 n 0 n 1 4 (l.map vb) hkn h hid (by simp [hl]) (isT_map (fun _=>rfl) _)
 rw [e1] at h2
 refine h2.trans (WkE.round hA he ?_ ?_)
 ·simp only [List.all_cons,List.all_nil,Bool.and_true,List.length_cons,List.length_nil];exact ho
 ·simp only [List.length_cons,List.length_nil]
  rw [List.take_set_of_le (by omega),hO]
set_option maxHeartbeats 1000000 in
theorem First_s (a:Au) (hv:VA a):Ctr Try.prog 44 [vau a] (vbools (firstA a)):=by
 have hc:=Closure_s a hv (oneS a.acc.length 0) (oneS_len _ _)
 obtain ⟨⟨hsy1,hsy2⟩,⟨hn1,hn2⟩,hm,hed⟩:=hv
 refine specC f44 (by simp) fun F0 w0=>?_
 obtain ⟨n,hn⟩:∃ n,a.acc.length=n:=⟨_,rfl⟩
 unfold c44
 refine CwpE.cut (st:=⟨[(1,.ref 0 1 0 0)],[oB a]⟩) ?_ ?_
 ·simp only [go_sem]
  exact ⟨_,WkE.kp,rfl⟩
 have q0:(0:Int)<=(n:Int):=by omega
 have q1:(0:Int)<(n:Int):=by omega
 have q2:((1:Nat):Int)*(n:Int)<=281474976710656:=by omega
 have q3:(n:Int)<=9223372036854775807:=by omega
 refine CwpE.cut (st:=⟨[(1,.ref 0 1 0 0),(3,.own 1 n 0 n)],[oB a,.arr n 1 4 ((noneS n).map vb)]⟩) ?_ ?_
 ·rw [none_map]
  simp only [go_sem,List.length_map,hn,q0,q2,q3,Int.le_refl,Int.toNat_natCast]
  exact ⟨_,WkE.kp,rfl⟩
 refine CwpE.cut (st:=⟨[(1,.ref 0 1 0 0),(3,vbools (oneS n 0))],[oB a]⟩) ?_ ?_
 ·have hg:=bt_get (s:=noneS n) (k:=0) (by simp [noneS];omega)
  simp only [go_sem,Int.le_refl,q1,hg,bt_set,one_put (show 0<n by omega)]
  exact ⟨_,wk_list1 (oB a) 3 1 (oneS n 0) (by omega) rfl rfl (oneS_len _ _) rfl rfl rfl (by simp only [go_sem]) rfl,rfl⟩
 refine CwpE.vc ?_
 rw [hn] at hc
 have hfe:firstA a=clA a (oneS n 0):=by rw [firstA,hn]
 rw [hfe]
 simp only [go_sem]
 refine callT hc rfl ?_
 simp only [go_sem]
 exact .tree _ rfl
theorem imgA_of {a:Au} {s t:List Bool} {x:Int} (htl:t.length=a.acc.length) (h:∀ j,bt t j=true ↔ ∃ e ∈ a.ed,e.2.1=x/\bt s e.1.toNat=true/\e.2.2=(j:Int)):t=imgA a s x:=bt_ext (by rw [htl,imgA_len]) fun j hj=>by
 rw [h,imgA_bt]
 exact ⟨fun h=>⟨by omega,h⟩,fun h=>h.2⟩
set_option maxHeartbeats 2000000 in
theorem After_s (a:Au) (hv:VA a) (s:List Bool) (hs:s.length=a.acc.length) (x:Int):Ctr Try.prog 45 [vau a,vbools s,vi x] (.tup [vbools (afterA a s x),vb (anyA a s x)]):=by
 have hc:=Closure_s a hv (imgA a s x) (imgA_len _ _ _)
 obtain ⟨⟨hsy1,hsy2⟩,⟨hn1,hn2⟩,hm,hed⟩:=hv
 refine specC f45 (by simp) fun F0 w0=>?_
 obtain ⟨n,hn⟩:∃ n,a.acc.length=n:=⟨_,rfl⟩
 unfold c45
 refine CwpE.cut (st:=⟨[(1,vbools s),(2,vi x),(3,.ref 0 1 0 0)],[oB a]⟩) ?_ ?_
 ·simp only [go_sem]
  exact ⟨_,WkE.kp,rfl⟩
 have q0:(0:Int)<=(n:Int):=by omega
 have q2:((1:Nat):Int)*(n:Int)<=281474976710656:=by omega
 have q3:(n:Int)<=9223372036854775807:=by omega
 refine CwpE.cut (st:=⟨[(1,vbools s),(2,vi x),(3,.ref 0 1 0 0),(8,.own 1 n 0 n)],[oB a,.arr n 1 4 ((noneS n).map vb)]⟩) ?_ ?_
 ·rw [none_map]
  simp only [go_sem,List.length_map,hn,q0,q2,q3,Int.le_refl,Int.toNat_natCast]
  exact ⟨_,WkE.kp,rfl⟩
 refine CwpE.cut (st:=⟨[(1,vbools s),(2,vi x),(3,.ref 0 1 0 0),(8,.own 1 n 0 n),(9,vb false)],[oB a,.arr n 1 4 ((noneS n).map vb)]⟩) ?_ ?_
 ·simp only [go_sem]
  exact ⟨_,WkE.kp,rfl⟩
 refine CwpE.step (fun z=>z=⟨[(3,.ref 0 1 0 0),(8,vbools (imgA a s x)),(9,vb (anyA a s x))],[oB a]⟩) ?_ ?_
 rotate_left
 ·rintro _ rfl
  refine CwpE.vc ?_
  simp only [go_sem]
  refine callT hc rfl ?_
  simp only [go_sem]
  exact .tree _ rfl
 simp only [go_sem]
 refine loopX 0 (fun m z=>∃ (k:Nat) (t:List Bool),m=a.ed.length-k/\k<=a.ed.length/\t.length=n/\(∀ j,bt t j=true ↔ ∃ e ∈ a.ed.take k,e.2.1=x/\bt s e.1.toNat=true/\e.2.2=(j:Int)) /\
  z=⟨[(1,vbools s),(2,vi x),(3,.ref 0 1 0 0),(8,.own 1 n 0 n),(9,vb ((a.ed.take k).any fun e=>decide (e.2.1=x) && bt s e.1.toNat)),(10,vi k)],[oB a,.arr n 1 4 (t.map vb)]⟩)
  (fun z=>z=⟨[(3,.ref 0 1 0 0),(8,vbools (imgA a s x)),(9,vb (anyA a s x))],[oB a]⟩) a.ed.length
  ⟨[(1,vbools s),(2,vi x),(3,.ref 0 1 0 0),(8,.own 1 n 0 n),(9,vb false),(10,vi (0:Nat))],[oB a,.arr n 1 4 ((noneS n).map vb)]⟩ (WkE.kp)
  ⟨0,noneS n,by omega,by omega,by simp [noneS],fun j=>by rw [noneS_bt];simp,rfl⟩ ?_ ?_
 rotate_left
 ·rintro z rfl
  simp only [go_sem]
  exact ⟨_,.refl _ _,rfl⟩
 rintro m z ⟨k,t,rfl,hk,htl,ht,rfl⟩
 by_cases hlt:k<a.ed.length
 rotate_left
 ·have gk:¬ (k:Int)<(a.ed.length:Int):=by omega
  rw [List.take_of_length_le (by omega)] at ht
  have e1:t=imgA a s x:=imgA_of (by omega) ht
  have e2:(a.ed.take k).any (fun e=>decide (e.2.1=x) && bt s e.1.toNat)=anyA a s x:=by rw [List.take_of_length_le (by omega)];rfl
  simp only [go_sem,gk,List.length_map]
  refine ⟨_,wk_list1 (oB a) 8 1 t (by omega) rfl rfl htl rfl rfl rfl ?_ ?_,rfl⟩
  ·rw [e1,e2];simp only [go_sem]
  ·rfl
 have g1:(k:Int)<(a.ed.length:Int):=by omega
 have g0:(0:Int)<=(k:Int):=by omega
 have w1:=wrap_s k (by omega)
 have hee:=hed _ (List.getElem_mem hlt)
 have heg:=edge_get hlt
 have htk:=List.take_succ_eq_append_getElem hlt
 generalize a.ed[k]=e at hee heg htk
 obtain ⟨e1,e2,e3⟩:=e
 simp only at hee
 obtain ⟨p,rfl⟩:∃ p:Nat,e1=(p:Int):=⟨e1.toNat,by omega⟩
 obtain ⟨r,rfl⟩:∃ r:Nat,e3=(r:Int):=⟨e3.toNat,by omega⟩
 have p0:(0:Int)<=(p:Int):=by omega
 have p1:(p:Int)<(s.length:Int):=by omega
 have r0:(0:Int)<=(r:Int):=by omega
 have r1:(r:Int)<(n:Int):=by omega
 have hup:=bt_get (s:=s) (k:=p) (by omega)
 have hur:=bt_get (s:=t) (k:=r) (by omega)
 have hany:(a.ed.take (k+1)).any (fun e=>decide (e.2.1=x) && bt s e.1.toNat)=((a.ed.take k).any (fun e=>decide (e.2.1=x) && bt s e.1.toNat) || (decide (e2=x) && bt s p)):=by
  rw [htk,List.any_append];simp
 have inn:∀ u:List Bool,([oB a,AObj.arr n 1 4 (u.map vb)].all fun o=>o.innO 2)=true:=fun u=>Bool.and_eq_true_iff.2 ⟨rfl,Bool.and_eq_true_iff.2 ⟨inn_map (fun _=>rfl),rfl⟩⟩
 have same:(decide (e2=x) && bt s p)=false->∀ st,WkE 47 st ⟨[(1,vbools s),(2,vi x),(3,.ref 0 1 0 0),(8,.own 1 n 0 n),(9,vb ((a.ed.take k).any fun e=>decide (e.2.1=x) && bt s e.1.toNat)),(10,vi (k+1:Nat))],[oB a,.arr n 1 4 (t.map vb)]⟩ ->
  ∃ m z,m<a.ed.length-k/\WkE 47 st z/\∃ (k':Nat) (t:List Bool),m=a.ed.length-k'/\k'<=a.ed.length/\t.length=n/\(∀ j,bt t j=true ↔ ∃ e ∈ a.ed.take k',e.2.1=x/\bt s e.1.toNat=true/\e.2.2=(j:Int)) /\
  z=⟨[(1,vbools s),(2,vi x),(3,.ref 0 1 0 0),(8,.own 1 n 0 n),(9,vb ((a.ed.take k').any fun e=>decide (e.2.1=x) && bt s e.1.toNat)),(10,vi k')],[oB a,.arr n 1 4 (t.map vb)]⟩:=by
  intro hno st hst
  refine ⟨a.ed.length-(k+1),_,by omega,hst,k+1,t,rfl,by omega,htl,fun j=>?_,by rw [hany,hno,Bool.or_false]⟩
  rw [ht,htk]
  constructor
  ·rintro ⟨e,he,h⟩;exact ⟨e,by simp [he],h⟩
  ·rintro ⟨e,he,h⟩
   rcases List.mem_append.1 he with he | he
   ·exact ⟨e,he,h⟩
   ·rw [List.mem_singleton] at he
    subst he
    simp only [Int.toNat_natCast] at h
    rw [h.1,h.2.1] at hno
    simp at hno
 by_cases b1:e2=x
 rotate_left
 ·have hs1:=same (by simp [b1])
  simp only [go_sem,g1,g0,heg,b1,w1,List.length_map,Int.toNat_natCast]
  exact hs1 _ (WkE.round (by simp only [go_sem]) rfl (inn t) rfl)
 cases b2:bt s p with
 | false =>
  rw [b2] at hup
  have hs1:=same (by rw [b2,Bool.and_false])
  simp only [go_sem,g1,g0,heg,b1,hup,p0,w1,List.length_map,Int.toNat_natCast]
  exact hs1 _ (WkE.round (by simp only [go_sem]) rfl (inn t) rfl)
 | true =>
  rw [b2] at hup
  have hpb:∀ j,bt (putS t r) j=(decide (j=r) || bt t j):=fun j=>putS_bt (by omega)
  have hany2:(a.ed.take (k+1)).any (fun e=>decide (e.2.1=x) && bt s e.1.toNat)=true:=by rw [hany,b2];simp [b1]
  simp only [go_sem,g1,g0,heg,b1,hup,hur,p0,r0,r1,w1,bt_set,List.length_map,Int.toNat_natCast]
  refine ⟨a.ed.length-(k+1),⟨[(1,vbools s),(2,vi x),(3,.ref 0 1 0 0),(8,.own 1 n 0 n),(9,vb true),(10,vi (k+1:Nat))],[oB a,.arr n 1 4 ((putS t r).map vb)]⟩,by omega,WkE.round (by simp only [go_sem]) rfl (inn _) rfl,k+1,putS t r,rfl,by omega,by rw [putS_len,htl],fun j=>?_,by rw [hany2]⟩
  rw [hpb,Bool.or_eq_true,decide_eq_true_eq,ht,htk]
  constructor
  ·rintro (rfl | ⟨e,he,h⟩)
   ·exact ⟨_,List.mem_append.2 (.inr (List.mem_singleton.2 rfl)),b1,by simpa using b2,rfl⟩
   ·exact ⟨e,by simp [he],h⟩
  ·rintro ⟨e,he,h⟩
   rcases List.mem_append.1 he with he | he
   ·exact .inr ⟨e,he,h⟩
   ·rw [List.mem_singleton] at he
    subst he
    exact .inl (by have:=h.2.2;simp only at this;omega)
end Go.Proofs.Ytjilachpkjlhdaa
