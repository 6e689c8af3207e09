/- Lemmas used by Combines. -/
import Derived.Test.YtjilachpkjlhdaaJa
import Derived.Test.YtjilachpkjlhdaaJb
import Derived.Test.YtjilachpkjlhdaaJc
import Derived.Test.YtjilachpkjlhdaaJd
import Derived.Test.YtjilachpkjlhdaaJe
import Derived.Test.YtjilachpkjlhdaaJf
import Derived.Test.YtjilachpkjlhdaaJg
set_option linter.unusedSimpArgs false
set_option linter.unusedVariables false
set_option linter.unusedSectionVars false
set_option maxRecDepth 100000
namespace Go.Proofs.Ytjilachpkjlhdaa
open Dak
def c8:CCode :=
 (sR [oo 12 (.mov bF)]
 (sR [vv 28 0,vv 29 1,vv 30 2,oo 31 (cL 10 [T 28,T 29,T 30]),vv 27 31,oo 32 (eX 27 0),oo 33 (eX 27 1),oo 13 (aZ 26),oo 14 (aZ 26),sS 3 13 32,sS 3 14 33]
 (.seq (.drawn [oo 34 (ld3 13),oo 35 (ld3 14),oo 36 (.bslice 26 3 [T 34,T 35]),oo 37 (ld3 14),oo 38 (ld3 13),oo 39 (.bslice 26 3 [T 37,T 38]),oo 40 (ld3 13),oo 41 (ld3 14),vv 42 3,vv 43 4,vv 44 5,oo 45 (cL 11 [T 41,T 42,T 43,T 44]),oo 46 (.bslice 26 3 [T 40,T 45]),oo 47 (ld3 13),vv 48 3,vv 49 4,vv 50 5,oo 51 (cL 11 [T 47,T 48,T 49,T 50]),oo 52 (ld3 14),oo 53 (.bslice 26 3 [T 51,T 52]),oo 54 (ld3 13),vv 55 1,oo 56 (cL 25 [T 55,kk 4]),oo 57 (.bslice 26 3 [T 54,T 56]),oo 58 (.bslice 30 1 [T 36,T 39,T 46,T 53,T 57]),vv 15 58] [])
 (.seq (sR [oo 16 (.mov (kk 0))]
 (.block 0 (.loop
 (.seq (sR [vv 59 16,vv 60 15,oo 61 (lN 60),oo 62 (iB .lss 59 61)]
 (.cond (T 62)
 .skip
 (.exit 0)))
 (.seq (.block 1 (sR [vv 65 15,vv 66 16,oo 67 (iS 1 65 66),oo 68 (ld1 67),oo 69 (.idxS 3 (T 68) (kk 0)),oo 70 (ld3 69),oo 17 (aZ 26),sS 3 17 70]
 (sR [vv 71 15,vv 72 16,oo 73 (iS 1 71 72),oo 74 (ld1 73),oo 75 (.idxS 3 (T 74) (kk 1)),oo 76 (ld3 75),oo 18 (aZ 26),sS 3 18 76]
 (.seq (.drawn [oo 78 (ld3 17),oo 79 (cL 13 [T 78]),oo 80 (ld3 18),oo 81 (cL 13 [T 80]),oo 82 (cL 36 [T 79,T 81]),vv 77 82,oo 83 (eX 77 0),oo 84 (eX 77 1),oo 19 (aZ 34)] [(sS 3 19 83,[]),(vv 20 84,[])])
 (sR [oo 86 (ld3 17),oo 87 (ld3 18),oo 88 (cL 37 [T 86,T 87]),vv 85 88,oo 89 (eX 85 0),oo 90 (eX 85 1),oo 21 (aZ 26),sS 3 21 89,vv 22 90]
 (sR [oo 92 (ld3 17),oo 93 (cL 13 [T 92]),oo 94 (cL 35 [T 93]),vv 91 94,oo 95 (eX 91 0),oo 96 (eX 91 1),oo 23 (aZ 34),sS 3 23 95,vv 24 96]
 (sR [oo 98 (ld3 17),oo 99 (cL 38 [T 98]),vv 97 99,oo 100 (eX 97 0),oo 101 (eX 97 1),oo 25 (aZ 26),sS 3 25 100,vv 26 101]
 (sR [vv 102 20,vv 103 22,oo 104 (iB .neq 102 103),vv 105 104,vf 106 105 24,vf 107 105 26,gf 108 105 (iB .neq 106 107),oo 109 (.pick (T 105) bT (T 108)),vv 110 109,gf 111 110 (ld3 19),gf 112 110 (ld3 21),gf 113 110 (cL 24 [T 111,T 112]),gf 114 110 (.lnot (T 113)),oo 115 (.pick (T 110) bT (T 114)),vv 116 115,gf 117 116 (ld3 23),gf 118 116 (ld3 25),gf 119 116 (cL 24 [T 117,T 118]),gf 120 116 (.lnot (T 119)),oo 121 (.pick (T 116) bT (T 120))]
 (.cond (T 121)
 (sR [oo 12 (.mov bF)]
 .ret)
 .skip)))))))))
 (rR [vv 63 16,oo 64 (iK .add 63 1),vv 16 64]))))))
 (sR [oo 122 (cL 21 []),vv 12 122]
 .ret)))))
theorem f8:fnC Try.prog 8=some (c8,123,[(.tmp 12)]):=by kernel_rfl
theorem f36:fnC Try.prog 36=some (c36,38,[(.cell 4 true 3),(.tmp 5)]):=by kernel_rfl
def c37:CCode :=
 (sR [oo 2 (.box 26 (T 0)),oo 3 (.box 26 (T 1)),oo 4 (aZ 26),oo 5 (.mov (kk 0))]
 (sR [oo 19 (ld3 2),oo 20 (ld3 3),oo 21 (cL 58 [T 19,T 20]),vv 18 21,oo 22 (eX 18 0),oo 23 (eX 18 1),oo 24 (eX 18 2),oo 6 (aZ 26),oo 7 (aZ 26),sS 3 6 22,sS 3 7 23,vv 8 24]
 (.seq (sR [vv 25 8,oo 26 (iK .neq 25 0)]
 (.cond (T 26)
 (sR [oo 27 (.build [nI,nS,nS] []),vv 28 8,sS 3 4 27,vv 5 28]
 .ret)
 .skip))
 (sR [oo 29 (ld3 6),oo 30 (cL 71 [T 29]),vv 9 30]
 (sR [oo 31 (ld3 7),oo 32 (cL 71 [T 31]),vv 10 32]
 (sR [oo 33 (.build [nI,nI] [(0,(1,(kk 0))),(1,(1,(kk 0)))]),oo 34 (.bslice 109 2 [T 33]),vv 11 34]
 (sR [oo 35 (fA 0 2),oo 36 (ld1 35),oo 37 (.build [nI,nS,nS] [(0,(1,(T 36)))]),oo 12 (aZ 26),sS 3 12 37]
 (.seq (sR [oo 13 (.mov (kk 0))]
 (.block 0 (.loop
 (.seq (sR [vv 38 13,vv 39 11,oo 40 (lN 39),oo 41 (iB .lss 38 40)]
 (.cond (T 41)
 .skip
 (.exit 0)))
 (.seq (.block 1 (.seq (.drawn [oo 44 (fA 1 12),oo 45 (ld1 44),oo 46 (fA 1 6),oo 47 (ld1 46),vv 48 11,vv 49 13,oo 50 (iS 2 48 49),oo 51 (.idxA 2 1 (T 50) (kk 0)),oo 52 (ld1 51),oo 53 (iS 1 47 52),oo 54 (ld1 53),vv 55 54,gt 56 55 (fA 1 7),gt 57 55 (ld1 56),vt 58 55 11,vt 59 55 13,gt 60 55 (iS 2 58 59),gt 61 55 (.idxA 2 1 (T 60) (kk 1)),gt 62 55 (ld1 61),gt 63 55 (iS 1 57 62),gt 64 55 (ld1 63),oo 65 (.pick (T 55) (T 64) bF),oo 66 (.bslice 4 1 [T 65])] [(oo 67 (.append 4 1 1 (T 45) (T 66)),[]),(oo 68 (fA 1 12),[]),(sS 1 68 67,[])])
 (sR [oo 14 (.mov (kk 0))]
 (.block 2 (.loop
 (.seq (sR [vv 69 14,oo 70 (fA 0 2),oo 71 (ld1 70),oo 72 (iB .lss 69 71)]
 (.cond (T 72)
 .skip
 (.exit 2)))
 (.seq (.block 3 (.seq (.drawn [vv 75 9,vv 76 11,vv 77 13,oo 78 (iS 2 76 77),oo 79 (.idxA 2 1 (T 78) (kk 0)),oo 80 (ld1 79),oo 81 (iS 1 75 80),oo 82 (ld1 81),vv 83 14,oo 84 (iS 1 82 83),oo 85 (ld1 84),vv 86 10,vv 87 11,vv 88 13,oo 89 (iS 2 87 88),oo 90 (.idxA 2 1 (T 89) (kk 1)),oo 91 (ld1 90),oo 92 (iS 1 86 91),oo 93 (ld1 92),vv 94 14,oo 95 (iS 1 93 94),oo 96 (ld1 95),oo 97 (.build [nI,nI] [(0,(1,(T 85))),(1,(1,(T 96)))]),oo 15 (.alloc 109 (.agg [nI,nI]))] [(sS 2 15 97,[])])
 (.seq (sR [oo 98 (.idxA 2 1 (T 15) (kk 0)),oo 99 (ld1 98),oo 100 (iK .lss 99 0),vv 101 100,gf 102 101 (.idxA 2 1 (T 15) (kk 1)),gf 103 101 (ld1 102),gf 104 101 (iK .lss 103 0),oo 105 (.pick (T 101) bT (T 104))]
 (.cond (T 105)
 (.exit 3)
 .skip))
 (sR [oo 16 (.mov (kk (-1)))]
 (.seq (sR [oo 17 (.mov (kk 0))]
 (.block 4 (.loop
 (.seq (sR [vv 106 17,vv 107 11,oo 108 (lN 107),oo 109 (iB .lss 106 108)]
 (.cond (T 109)
 .skip
 (.exit 4)))
 (.seq (.block 5 (.seq (.drawn [vv 112 11,vv 113 17,oo 114 (iS 2 112 113),oo 115 (.load true 2 (T 114)),oo 116 (.load true 2 (T 15)),oo 117 (.aeq false 2 (T 115) (T 116))] [])
 (.cond (T 117)
 (rR [vv 118 17,vv 16 118])
 .skip)))
 (rR [vv 110 17,oo 111 (iK .add 110 1),vv 17 111]))))))
 (.seq (sR [vv 119 16,oo 120 (iK .lss 119 0)]
 (.cond (T 120)
 (sR [vv 121 11,oo 122 (lN 121),vv 16 122]
 (rR [vv 123 11,oo 124 (.load true 2 (T 15)),oo 125 (.bslice 109 2 [T 124]),oo 126 (.append 109 2 16 (T 123) (T 125)),vv 11 126]))
 .skip))
 (.seq (sR [vv 127 11,oo 128 (lN 127),oo 129 (iK .gtr 128 256)]
 (.cond (T 129)
 (sR [oo 130 (.build [nI,nS,nS] []),sS 3 4 130,oo 5 (.mov (kk 4))]
 .ret)
 .skip))
 (rR [oo 131 (fA 2 12),oo 132 (ld1 131),vv 133 13,vv 134 14,vv 135 16,oo 136 (.build [nI,nI,nI] [(0,(1,(T 133))),(1,(1,(T 134))),(2,(1,(T 135)))]),oo 137 (.bslice 71 3 [T 136]),oo 138 (.append 71 3 24 (T 132) (T 137)),oo 139 (fA 2 12),sS 1 139 138]))))))))
 (rR [vv 73 14,oo 74 (iK .add 73 1),vv 14 74]))))))))
 (rR [vv 42 13,oo 43 (iK .add 42 1),vv 13 43]))))))
 (sR [oo 140 (ld3 12),oo 141 (cL 53 [T 140]),oo 142 (cL 52 [T 141]),oo 143 (eX 142 0),oo 144 (eX 142 1),sS 3 4 143,vv 5 144]
 .ret)))))))))
theorem f37:fnC Try.prog 37=some (c37,145,[(.cell 4 true 3),(.tmp 5)]):=by kernel_rfl
def c38:CCode :=
 (sR [oo 1 (.box 26 (T 0)),oo 2 (aZ 26),oo 3 (.mov (kk 0))]
 (sR [oo 13 (ld3 1),oo 14 (cL 23 [T 13]),vv 12 14,oo 15 (eX 12 0),oo 16 (eX 12 1),oo 4 (aZ 26),sS 3 4 15,vv 5 16]
 (.seq (sR [vv 17 5,oo 18 (iK .neq 17 0)]
 (.cond (T 18)
 (sR [oo 19 (.build [nI,nS,nS] []),vv 20 5,sS 3 2 19,vv 3 20]
 .ret)
 .skip))
 (sR [oo 21 (ld3 4),oo 22 (cL 71 [T 21]),vv 6 22]
 (sR [oo 23 (fA 1 4),oo 24 (ld1 23),oo 25 (lN 24),vv 7 25]
 (sR [oo 26 (fA 0 1),oo 27 (ld1 26),oo 28 (.build [nI,nS,nS] [(0,(1,(T 27)))]),oo 8 (aZ 26),sS 3 8 28]
 (.seq (sR [oo 9 (.mov (kk 0))]
 (.block 0 (.loop
 (.seq (sR [vv 29 9,vv 30 7,oo 31 (iB .leq 29 30)]
 (.cond (T 31)
 .skip
 (.exit 0)))
 (.seq (.block 1 (.seq (.drawn [oo 34 (fA 1 8),oo 35 (ld1 34),vv 36 9,vv 37 7,oo 38 (iB .eql 36 37),vv 39 38,gf 40 39 (fA 1 4),gf 41 39 (ld1 40),vf 42 39 9,vf 43 39 7,gf 44 39 (iK .sub 43 1),gf 45 39 (.imin (T 42) (T 44)),gf 46 39 (iS 1 41 45),gf 47 39 (ld1 46),gf 48 39 (.lnot (T 47)),oo 49 (.pick (T 39) bT (T 48)),oo 50 (.bslice 4 1 [T 49])] [(oo 51 (.append 4 1 1 (T 35) (T 50)),[]),(oo 52 (fA 1 8),[]),(sS 1 52 51,[])])
 (sR [oo 10 (.mov (kk 0))]
 (.block 2 (.loop
 (.seq (sR [vv 53 10,oo 54 (fA 0 1),oo 55 (ld1 54),oo 56 (iB .lss 53 55)]
 (.cond (T 56)
 .skip
 (.exit 2)))
 (.seq (.block 3 (sR [vv 59 7,vv 11 59]
 (.seq (sR [vv 60 9,vv 61 7,oo 62 (iB .lss 60 61),vv 63 62,vt 64 63 6,vt 65 63 9,vt 66 63 7,gt 67 63 (iK .sub 66 1),gt 68 63 (.imin (T 65) (T 67)),gt 69 63 (iS 1 64 68),gt 70 63 (ld1 69),vt 71 63 10,gt 72 63 (iS 1 70 71),gt 73 63 (ld1 72),gt 74 63 (iK .geq 73 0),oo 75 (.pick (T 63) (T 74) bF)]
 (.cond (T 75)
 (rR [vv 76 6,vv 77 9,oo 78 (iS 1 76 77),oo 79 (ld1 78),vv 80 10,oo 81 (iS 1 79 80),oo 82 (ld1 81),vv 11 82])
 .skip))
 (rR [oo 83 (fA 2 8),oo 84 (ld1 83),vv 85 9,vv 86 10,vv 87 11,oo 88 (.build [nI,nI,nI] [(0,(1,(T 85))),(1,(1,(T 86))),(2,(1,(T 87)))]),oo 89 (.bslice 71 3 [T 88]),oo 90 (.append 71 3 24 (T 84) (T 89)),oo 91 (fA 2 8),sS 1 91 90]))))
 (rR [vv 57 10,oo 58 (iK .add 57 1),vv 10 58]))))))))
 (rR [vv 32 9,oo 33 (iK .add 32 1),vv 9 33]))))))
 (sR [oo 92 (ld3 8),oo 93 (cL 53 [T 92]),oo 94 (cL 52 [T 93]),oo 95 (eX 94 0),oo 96 (eX 94 1),sS 3 2 95,vv 3 96]
 .ret))))))))
theorem f38:fnC Try.prog 38=some (c38,97,[(.cell 2 true 3),(.tmp 3)]):=by kernel_rfl
def c68:CCode :=
 (sR [oo 4 (.box 109 (T 0)),oo 8 (aZ 97),oo 9 (.mov (kk 0))]
 (sR [vv 20 1,oo 21 (.build [nI,nS,nS] [(0,(1,(T 20)))]),oo 10 (aZ 97),sS 3 10 21]
 (sR [oo 22 (.mnew 1000000006),oo 23 (.load true 2 (T 4)),nn (.mset 6 (T 22) (T 23) (kk 0)),vv 24 22,vv 11 24]
 (.seq (sR [oo 25 (.load true 2 (T 4)),oo 26 (.bslice 109 2 [T 25]),vv 12 26]
 (.block 0 (.loop
 (.seq (sR [oo 27 (fA 2 10),oo 28 (ld1 27),oo 29 (lN 28),vv 30 12,oo 31 (lN 30),oo 32 (iB .lss 29 31)]
 (.cond (T 32)
 .skip
 (.exit 0)))
 (.block 1 (sR [vv 33 12,oo 34 (fA 2 10),oo 35 (ld1 34),oo 36 (lN 35),oo 37 (iS 2 33 36),oo 38 (.load true 2 (T 37)),oo 13 (.alloc 109 (.agg [nI,nI])),sS 2 13 38]
 (sR [vv 39 1,oo 40 (.mkslice 3 1 8 nI (T 39) (T 39)),vv 14 40]
 (.seq (sR [vv 41 14,oo 42 (lN 41),oo 43 (.mov (kk 0))]
 (.block 2 (.loop
 (sR [oo 44 (iB .lss 43 42)]
 (.seq (.cond (T 44)
 .skip
 (.exit 2))
 (.seq (.block 3 (sR [vv 45 43,vv 15 45]
 (sR [vv 47 3,oo 48 (.load true 2 (T 13)),vv 49 15,oo 50 (.call (T 47) [T 48,T 49]),vv 46 50,oo 51 (eX 46 0),oo 52 (eX 46 1),oo 16 (.alloc 109 (.agg [nI,nI])),sS 2 16 51,vv 17 52]
 (.seq (sR [vv 53 17,oo 54 (.lnot (T 53))]
 (.cond (T 54)
 (sR [vv 55 14,vv 56 15,oo 57 (iS 1 55 56),nn (.store 1 (T 57) (kk (-1)))]
 (.exit 3))
 .skip))
 (sR [vv 59 11,oo 60 (.load true 2 (T 16)),oo 61 (.mget 6 true (.int .i64 0) (T 59) (T 60)),vv 58 61,oo 62 (eX 58 0),oo 63 (eX 58 1),vv 18 62,vv 19 63]
 (.seq (sR [vv 64 19,oo 65 (.lnot (T 64))]
 (.cond (T 65)
 (sR [vv 66 12,oo 67 (lN 66),vv 18 67]
 (sR [vv 68 11,oo 69 (.load true 2 (T 16)),vv 70 18,nn (.mset 6 (T 68) (T 69) (T 70))]
 (rR [vv 71 12,oo 72 (.load true 2 (T 16)),oo 73 (.bslice 109 2 [T 72]),oo 74 (.append 109 2 16 (T 71) (T 73)),vv 12 74])))
 .skip))
 (rR [vv 75 14,vv 76 15,vv 77 18,oo 78 (iS 1 75 76),sS 1 78 77])))))))
 (rR [oo 79 (iK .add 43 1),vv 43 79])))))))
 (.seq (sR [vv 80 12,oo 81 (lN 80),oo 82 (iK .gtr 81 256)]
 (.cond (T 82)
 (sR [oo 83 (.build [nI,nS,nS] []),sS 3 8 83,oo 9 (.mov (kk 4))]
 .ret)
 .skip))
 (.cut [oo 84 (fA 2 10),oo 85 (ld1 84),vv 86 14,oo 87 (.bslice 22 1 [T 86]),oo 89 (fA 1 10),oo 90 (ld1 89),vv 91 2,oo 92 (.load true 2 (T 13))] [] (.alt (oo 88 (.append 22 1 24 (T 85) (T 87))) [oo 89 (fA 1 10),oo 90 (ld1 89),vv 91 2,oo 92 (.load true 2 (T 13))] (.alt (oo 93 (.call (T 91) [T 92])) [oo 89 (fA 1 10),oo 90 (ld1 89)] (.alt (oo 94 (.bslice 4 1 [T 93])) [oo 89 (fA 1 10),oo 90 (ld1 89)] (.alt (oo 95 (.append 4 1 1 (T 90) (T 94))) [] (.alt (oo 96 (fA 2 10)) [vv 91 2,oo 92 (.load true 2 (T 13))] (.alt (sS 1 96 88) [] (.alt (oo 97 (fA 1 10)) [] (.alt (sS 1 97 95) [] .done .stop) .stop) .stop) .stop) (.alt (oo 96 (fA 2 10)) [vv 91 2,oo 92 (.load true 2 (T 13))] (.alt (oo 95 (.append 4 1 1 (T 90) (T 94))) [] (.alt (sS 1 96 88) [] (.alt (oo 97 (fA 1 10)) [] (.alt (sS 1 97 95) [] .done .stop) .stop) .stop) .stop) .stop)) (.alt (oo 96 (fA 2 10)) [vv 91 2,oo 92 (.load true 2 (T 13))] (.alt (oo 94 (.bslice 4 1 [T 93])) [oo 89 (fA 1 10),oo 90 (ld1 89)] (.alt (oo 95 (.append 4 1 1 (T 90) (T 94))) [] (.alt (sS 1 96 88) [] (.alt (oo 97 (fA 1 10)) [] (.alt (sS 1 97 95) [] .done .stop) .stop) .stop) .stop) .stop) .stop)) (.alt (oo 96 (fA 2 10)) [vv 91 2,oo 92 (.load true 2 (T 13))] (.alt (oo 93 (.call (T 91) [T 92])) [oo 89 (fA 1 10),oo 90 (ld1 89)] (.alt (oo 94 (.bslice 4 1 [T 93])) [oo 89 (fA 1 10),oo 90 (ld1 89)] (.alt (oo 95 (.append 4 1 1 (T 90) (T 94))) [] (.alt (sS 1 96 88) [] (.alt (oo 97 (fA 1 10)) [] (.alt (sS 1 97 95) [] .done .stop) .stop) .stop) .stop) .stop) .stop) .stop)) .stop)))))))))))
 (sR [oo 98 (ld3 10),sS 3 8 98,oo 9 (.mov (kk 0))]
 .ret)))))
theorem f68:fnC Try.prog 68=some (c68,99,[(.cell 8 true 3),(.tmp 9)]):=by kernel_rfl
def c69:CCode :=
 (sR [oo 3 (.box 109 (T 0)),oo 4 (.mov bF)]
 (sR [oo 5 (fA 1 1),oo 6 (ld1 5),oo 7 (.idxA 2 1 (T 3) (kk 0)),oo 8 (ld1 7),oo 9 (iS 1 6 8),oo 10 (ld1 9),vv 11 10,gt 12 11 (fA 1 2),gt 13 11 (ld1 12),gt 14 11 (.idxA 2 1 (T 3) (kk 1)),gt 15 11 (ld1 14),gt 16 11 (iS 1 13 15),gt 17 11 (ld1 16),oo 18 (.pick (T 11) (T 17) bF),vv 4 18]
 .ret))
theorem f69:fnC Try.prog 69=some (c69,19,[(.tmp 4)]):=by kernel_rfl
def c70:CCode :=
 (sR [oo 4 (.box 109 (T 0)),oo 6 (.alloc 109 (.agg [nI,nI])),oo 7 (.mov bF)]
 (.seq (.drawn [oo 9 (fA 2 2),oo 10 (ld1 9),oo 11 (.idxA 2 1 (T 4) (kk 0)),oo 12 (ld1 11),oo 13 (iS 1 10 12),oo 14 (ld1 13),vv 15 1,oo 16 (iS 1 14 15),oo 17 (ld1 16),oo 18 (fA 2 3),oo 19 (ld1 18),oo 20 (.idxA 2 1 (T 4) (kk 1)),oo 21 (ld1 20),oo 22 (iS 1 19 21),oo 23 (ld1 22),vv 24 1,oo 25 (iS 1 23 24),oo 26 (ld1 25),oo 27 (.build [nI,nI] [(0,(1,(T 17))),(1,(1,(T 26)))]),oo 8 (.alloc 109 (.agg [nI,nI]))] [(sS 2 8 27,[])])
 (.seq (.cut [] [] (.alt (oo 28 (.load true 2 (T 8))) [] (.alt (oo 29 (.idxA 2 1 (T 8) (kk 0))) [] (.alt (oo 30 (ld1 29)) [] (.alt (oo 31 (iK .geq 30 0)) [] (.alt (oo 32 (.mov (T 31))) [] (.alt (gt 33 32 (.idxA 2 1 (T 8) (kk 1))) [] (.alt (gt 34 32 (ld1 33)) [] (.alt (gt 35 32 (iK .geq 34 0)) [] (.alt (oo 36 (.pick (T 32) (T 35) bF)) [] (.alt (sS 2 6 28) [] (.alt (oo 7 (.mov (T 36))) [] .done .stop) .stop) (.alt (sS 2 6 28) [] (.alt (oo 36 (.pick (T 32) (T 35) bF)) [] (.alt (oo 7 (.mov (T 36))) [] .done .stop) .stop) .stop)) (.alt (sS 2 6 28) [] (.alt (gt 35 32 (iK .geq 34 0)) [] (.alt (oo 36 (.pick (T 32) (T 35) bF)) [] (.alt (oo 7 (.mov (T 36))) [] .done .stop) .stop) .stop) .stop)) (.alt (sS 2 6 28) [] (.alt (gt 34 32 (ld1 33)) [] (.alt (gt 35 32 (iK .geq 34 0)) [] (.alt (oo 36 (.pick (T 32) (T 35) bF)) [] (.alt (oo 7 (.mov (T 36))) [] .done .stop) .stop) .stop) .stop) .stop)) (.alt (sS 2 6 28) [] (.alt (gt 33 32 (.idxA 2 1 (T 8) (kk 1))) [] (.alt (gt 34 32 (ld1 33)) [] (.alt (gt 35 32 (iK .geq 34 0)) [] (.alt (oo 36 (.pick (T 32) (T 35) bF)) [] (.alt (oo 7 (.mov (T 36))) [] .done .stop) .stop) .stop) .stop) .stop) .stop)) .stop) .stop) .stop) .stop) (.alt (oo 29 (.idxA 2 1 (T 8) (kk 0))) [] (.alt (oo 28 (.load true 2 (T 8))) [] (.alt (oo 30 (ld1 29)) [] (.alt (oo 31 (iK .geq 30 0)) [] (.alt (oo 32 (.mov (T 31))) [] (.alt (gt 33 32 (.idxA 2 1 (T 8) (kk 1))) [] (.alt (gt 34 32 (ld1 33)) [] (.alt (gt 35 32 (iK .geq 34 0)) [] (.alt (oo 36 (.pick (T 32) (T 35) bF)) [] (.alt (sS 2 6 28) [] (.alt (oo 7 (.mov (T 36))) [] .done .stop) .stop) (.alt (sS 2 6 28) [] (.alt (oo 36 (.pick (T 32) (T 35) bF)) [] (.alt (oo 7 (.mov (T 36))) [] .done .stop) .stop) .stop)) (.alt (sS 2 6 28) [] (.alt (gt 35 32 (iK .geq 34 0)) [] (.alt (oo 36 (.pick (T 32) (T 35) bF)) [] (.alt (oo 7 (.mov (T 36))) [] .done .stop) .stop) .stop) .stop)) (.alt (sS 2 6 28) [] (.alt (gt 34 32 (ld1 33)) [] (.alt (gt 35 32 (iK .geq 34 0)) [] (.alt (oo 36 (.pick (T 32) (T 35) bF)) [] (.alt (oo 7 (.mov (T 36))) [] .done .stop) .stop) .stop) .stop) .stop)) (.alt (sS 2 6 28) [] (.alt (gt 33 32 (.idxA 2 1 (T 8) (kk 1))) [] (.alt (gt 34 32 (ld1 33)) [] (.alt (gt 35 32 (iK .geq 34 0)) [] (.alt (oo 36 (.pick (T 32) (T 35) bF)) [] (.alt (oo 7 (.mov (T 36))) [] .done .stop) .stop) .stop) .stop) .stop) .stop)) .stop) .stop) .stop) (.alt (oo 30 (ld1 29)) [] (.alt (oo 28 (.load true 2 (T 8))) [] (.alt (oo 31 (iK .geq 30 0)) [] (.alt (oo 32 (.mov (T 31))) [] (.alt (gt 33 32 (.idxA 2 1 (T 8) (kk 1))) [] (.alt (gt 34 32 (ld1 33)) [] (.alt (gt 35 32 (iK .geq 34 0)) [] (.alt (oo 36 (.pick (T 32) (T 35) bF)) [] (.alt (sS 2 6 28) [] (.alt (oo 7 (.mov (T 36))) [] .done .stop) .stop) (.alt (sS 2 6 28) [] (.alt (oo 36 (.pick (T 32) (T 35) bF)) [] (.alt (oo 7 (.mov (T 36))) [] .done .stop) .stop) .stop)) (.alt (sS 2 6 28) [] (.alt (gt 35 32 (iK .geq 34 0)) [] (.alt (oo 36 (.pick (T 32) (T 35) bF)) [] (.alt (oo 7 (.mov (T 36))) [] .done .stop) .stop) .stop) .stop)) (.alt (sS 2 6 28) [] (.alt (gt 34 32 (ld1 33)) [] (.alt (gt 35 32 (iK .geq 34 0)) [] (.alt (oo 36 (.pick (T 32) (T 35) bF)) [] (.alt (oo 7 (.mov (T 36))) [] .done .stop) .stop) .stop) .stop) .stop)) (.alt (sS 2 6 28) [] (.alt (gt 33 32 (.idxA 2 1 (T 8) (kk 1))) [] (.alt (gt 34 32 (ld1 33)) [] (.alt (gt 35 32 (iK .geq 34 0)) [] (.alt (oo 36 (.pick (T 32) (T 35) bF)) [] (.alt (oo 7 (.mov (T 36))) [] .done .stop) .stop) .stop) .stop) .stop) .stop)) .stop) .stop) (.alt (oo 31 (iK .geq 30 0)) [] (.alt (oo 28 (.load true 2 (T 8))) [] (.alt (oo 32 (.mov (T 31))) [] (.alt (gt 33 32 (.idxA 2 1 (T 8) (kk 1))) [] (.alt (gt 34 32 (ld1 33)) [] (.alt (gt 35 32 (iK .geq 34 0)) [] (.alt (oo 36 (.pick (T 32) (T 35) bF)) [] (.alt (sS 2 6 28) [] (.alt (oo 7 (.mov (T 36))) [] .done .stop) .stop) (.alt (sS 2 6 28) [] (.alt (oo 36 (.pick (T 32) (T 35) bF)) [] (.alt (oo 7 (.mov (T 36))) [] .done .stop) .stop) .stop)) (.alt (sS 2 6 28) [] (.alt (gt 35 32 (iK .geq 34 0)) [] (.alt (oo 36 (.pick (T 32) (T 35) bF)) [] (.alt (oo 7 (.mov (T 36))) [] .done .stop) .stop) .stop) .stop)) (.alt (sS 2 6 28) [] (.alt (gt 34 32 (ld1 33)) [] (.alt (gt 35 32 (iK .geq 34 0)) [] (.alt (oo 36 (.pick (T 32) (T 35) bF)) [] (.alt (oo 7 (.mov (T 36))) [] .done .stop) .stop) .stop) .stop) .stop)) (.alt (sS 2 6 28) [] (.alt (gt 33 32 (.idxA 2 1 (T 8) (kk 1))) [] (.alt (gt 34 32 (ld1 33)) [] (.alt (gt 35 32 (iK .geq 34 0)) [] (.alt (oo 36 (.pick (T 32) (T 35) bF)) [] (.alt (oo 7 (.mov (T 36))) [] .done .stop) .stop) .stop) .stop) .stop) .stop)) .stop) (.alt (oo 32 (.mov (T 31))) [] (.alt (oo 28 (.load true 2 (T 8))) [] (.alt (gt 33 32 (.idxA 2 1 (T 8) (kk 1))) [] (.alt (gt 34 32 (ld1 33)) [] (.alt (gt 35 32 (iK .geq 34 0)) [] (.alt (oo 36 (.pick (T 32) (T 35) bF)) [] (.alt (sS 2 6 28) [] (.alt (oo 7 (.mov (T 36))) [] .done .stop) .stop) (.alt (sS 2 6 28) [] (.alt (oo 36 (.pick (T 32) (T 35) bF)) [] (.alt (oo 7 (.mov (T 36))) [] .done .stop) .stop) .stop)) (.alt (sS 2 6 28) [] (.alt (gt 35 32 (iK .geq 34 0)) [] (.alt (oo 36 (.pick (T 32) (T 35) bF)) [] (.alt (oo 7 (.mov (T 36))) [] .done .stop) .stop) .stop) .stop)) (.alt (sS 2 6 28) [] (.alt (gt 34 32 (ld1 33)) [] (.alt (gt 35 32 (iK .geq 34 0)) [] (.alt (oo 36 (.pick (T 32) (T 35) bF)) [] (.alt (oo 7 (.mov (T 36))) [] .done .stop) .stop) .stop) .stop) .stop)) (.alt (sS 2 6 28) [] (.alt (gt 33 32 (.idxA 2 1 (T 8) (kk 1))) [] (.alt (gt 34 32 (ld1 33)) [] (.alt (gt 35 32 (iK .geq 34 0)) [] (.alt (oo 36 (.pick (T 32) (T 35) bF)) [] (.alt (oo 7 (.mov (T 36))) [] .done .stop) .stop) .stop) .stop) .stop) .stop)) (.alt (gt 33 32 (.idxA 2 1 (T 8) (kk 1))) [] (.alt (oo 28 (.load true 2 (T 8))) [] (.alt (gt 34 32 (ld1 33)) [] (.alt (gt 35 32 (iK .geq 34 0)) [] (.alt (oo 36 (.pick (T 32) (T 35) bF)) [] (.alt (sS 2 6 28) [] (.alt (oo 7 (.mov (T 36))) [] .done .stop) .stop) (.alt (sS 2 6 28) [] (.alt (oo 36 (.pick (T 32) (T 35) bF)) [] (.alt (oo 7 (.mov (T 36))) [] .done .stop) .stop) .stop)) (.alt (sS 2 6 28) [] (.alt (gt 35 32 (iK .geq 34 0)) [] (.alt (oo 36 (.pick (T 32) (T 35) bF)) [] (.alt (oo 7 (.mov (T 36))) [] .done .stop) .stop) .stop) .stop)) (.alt (sS 2 6 28) [] (.alt (gt 34 32 (ld1 33)) [] (.alt (gt 35 32 (iK .geq 34 0)) [] (.alt (oo 36 (.pick (T 32) (T 35) bF)) [] (.alt (oo 7 (.mov (T 36))) [] .done .stop) .stop) .stop) .stop) .stop)) (.alt (gt 34 32 (ld1 33)) [] (.alt (oo 28 (.load true 2 (T 8))) [] (.alt (gt 35 32 (iK .geq 34 0)) [] (.alt (oo 36 (.pick (T 32) (T 35) bF)) [] (.alt (sS 2 6 28) [] (.alt (oo 7 (.mov (T 36))) [] .done .stop) .stop) (.alt (sS 2 6 28) [] (.alt (oo 36 (.pick (T 32) (T 35) bF)) [] (.alt (oo 7 (.mov (T 36))) [] .done .stop) .stop) .stop)) (.alt (sS 2 6 28) [] (.alt (gt 35 32 (iK .geq 34 0)) [] (.alt (oo 36 (.pick (T 32) (T 35) bF)) [] (.alt (oo 7 (.mov (T 36))) [] .done .stop) .stop) .stop) .stop)) (.alt (gt 35 32 (iK .geq 34 0)) [] (.alt (oo 28 (.load true 2 (T 8))) [] (.alt (oo 36 (.pick (T 32) (T 35) bF)) [] (.alt (sS 2 6 28) [] (.alt (oo 7 (.mov (T 36))) [] .done .stop) .stop) (.alt (sS 2 6 28) [] (.alt (oo 36 (.pick (T 32) (T 35) bF)) [] (.alt (oo 7 (.mov (T 36))) [] .done .stop) .stop) .stop)) (.alt (oo 36 (.pick (T 32) (T 35) bF)) [] (.alt (oo 28 (.load true 2 (T 8))) [] (.alt (sS 2 6 28) [] (.alt (oo 7 (.mov (T 36))) [] .done .stop) .stop) .stop) .stop)) .stop)) .stop)) .stop)) .stop)) .stop)) .stop)) .stop)))
 .ret)))
theorem f70:fnC Try.prog 70=some (c70,37,[(.cell 6 true 2),(.tmp 7)]):=by kernel_rfl
end Go.Proofs.Ytjilachpkjlhdaa
namespace P5
def nextB (g h:Gr) (k:PI) (x:Nat):Option PI:=if gto g k.1.toNat x<0 \/ gto h k.2.toNat x<0 then none else some (gto g k.1.toNat x,gto h k.2.toNat x)
def accB (g h:Gr) (k:PI):Bool:=bt g.acc k.1.toNat && bt h.acc k.2.toNat
def prodM (g h:Gr):Option Gr:=(bfs 256 (nextB g h) g.sy (0,0)).map fun r=>grOf g.sy (accB g h) r.1 r.2
def bothM (a b:Au):Au × Int :=
 let t:=twoM a b
 if t.1=0 then match prodM t.2.1 t.2.2 with | none=>(nilA,4) | some g=>checkedM (leastR g) else (nilA,t.1)
end P5
namespace Go.Proofs.Ytjilachpkjlhdaa
open Go.RowKit Dak P5
def objsexplB (ox:AObj) (y:Nat) (ks:List (MK × Value)) (L:List AV) (A:List Bool) (R:List (List Int)) (T:List AObj):List AObj :=
 [ox,.arr 1 3 97 [nil3],.arr 1 3 97 [.agg [vi y,.own 5 A.length 0 A.length,.own 6 R.length 0 R.length]],.arr 1 1 (mapT+6) [.val (mapV ks)],.arr L.length 2 109 L,.arr A.length 1 4 (A.map vb),.arr R.length 1 22 (R.map vints)]++T
theorem objsexplB_eq (ox:AObj) (y:Nat) (ks:List (MK × Value)) (L:List AV) (A:List Bool) (R:List (List Int)) (T:List AObj):objsexplB ox y ks L A R T =
 [ox,.arr 1 3 97 [nil3],.arr 1 3 97 [.agg [vi y,.own 5 A.length 0 A.length,.own 6 R.length 0 R.length]],.arr 1 1 (mapT+6) [.val (mapV ks)],.arr L.length 2 109 L,.arr A.length 1 4 (A.map vb),.arr R.length 1 22 (R.map vints)]++T:=rfl
theorem objsexplB_drop {m:Nat} {env env':List (Nat × AV)} (k0:PI) (y:Nat) (ks:List (MK × Value)) (L:List PI) (A:List Bool) (R:List (List Int)) (T T':List AObj) (hA:Agree env env') (he:(env'.all fun p=>p.2.inn (7+T.length))=true) (hT:(T.all fun o=>o.innO (7+T.length))=true) :
 WkE m ⟨env,objsexplB (.arr 1 2 109 [vpair k0]) y ks (L.map vpair) A R (T++T')⟩ ⟨env',objsexplB (.arr 1 2 109 [vpair k0]) y ks (L.map vpair) A R T⟩:=by
 have hl:(objsexplB (.arr 1 2 109 [vpair k0]) y ks (L.map vpair) A R T).length=7+T.length:=by rw [objsexplB_eq,List.length_append];rfl
 refine WkE.round hA (by rw [hl];exact he) ?_ ?_
 ·rw [hl,objsexplB_eq,List.all_append,Bool.and_eq_true]
  refine ⟨?_,hT⟩
  have h1:((L.map vpair).all (AV.inn (7+T.length)))=true:=inn_map fun _=>rfl
  have h2:((A.map vb).all (AV.inn (7+T.length)))=true:=inn_map fun _=>rfl
  have h3:((R.map vints).all (AV.inn (7+T.length)))=true:=inn_map fun _=>rfl
  simp [AObj.innO,h1,h2,h3,AV.inn,AV.inn1]
  omega
 ·rw [hl,objsexplB_eq,objsexplB_eq,<-List.append_assoc]
  exact List.take_left' (by rw [List.length_append];rfl)
set_option maxHeartbeats 8000000 in
theorem explB_s (ok:PI->Prop) (hinj:∀ s t,ok s->ok t->keyP s=keyP t->s=t) (fa fn:AV) (first:PI) (y:Nat) (hy:y<=64) (acc:PI->Bool) (raw:PI->Nat->PI × Bool) (hf0:ok first)
 (hr:∀ k x,ok k->x<y->(raw k x).2=true->ok (raw k x).1)
 (ha:∀ k,ok k->∀ objs,CallOk Try.prog objs fa [vpair k] (vb (acc k)))
 (hn:∀ k x,ok k->x<y->∀ objs,CallOk Try.prog objs fn [vpair k,vi (x:Int)] (.tup [vpair (raw k x).1,vb (raw k x).2]))
 (hfi:∀ k,fa.inn k=true/\fn.inn k=true) :
 Ctr Try.prog 68 [vpair first,vi y,fa,fn] (vge (resE y acc (bfs 256 (nextE raw) y first))):=by
 refine specC f68 (by simp) fun F0 w0=>?_
 obtain ⟨B,hB⟩:∃ B,bfs 256 (nextE raw) y first=B:=⟨_,rfl⟩
 rw [hB]
 unfold c68
 refine CwpE.cut (st:=⟨[(1,vi y),(2,fa),(3,fn),(4,.ref 0 1 0 0),(8,.ref 1 1 0 0)],[.arr 1 2 109 [vpair first],.arr 1 3 97 [nil3]]⟩) ?_ ?_
 ·simp only [go_sem]
  exact ⟨_,WkE.kp,rfl⟩
 refine CwpE.cut (st:=⟨[(1,vi y),(2,fa),(3,fn),(4,.ref 0 1 0 0),(8,.ref 1 1 0 0),(10,.ref 2 1 0 0)],[.arr 1 2 109 [vpair first],.arr 1 3 97 [nil3],.arr 1 3 97 [.agg [vi y,nilV,nilV]]]⟩) ?_ ?_
 ·simp only [go_sem]
  exact ⟨_,WkE.kp,rfl⟩
 refine CwpE.cut (st:=⟨[(1,vi y),(2,fa),(3,fn),(4,.ref 0 1 0 0),(8,.ref 1 1 0 0),(10,.ref 2 1 0 0),(11,.mref 3 1)],[.arr 1 2 109 [vpair first],.arr 1 3 97 [nil3],.arr 1 3 97 [.agg [vi y,nilV,nilV]],.arr 1 1 (mapT+6) [.val (mapV [(keyP first,.int .i64 0)])]]⟩) ?_ ?_
 ·simp only [go_sem]
  exact ⟨_,WkE.kp,rfl⟩
 refine CwpE.seqJ (fun z=>∃ (ks:List (MK × Value)) (L:List (PI)) (rows:List (List Int)),B=some (L,rows)/\z=⟨[(1,vi y),(2,fa),(3,fn),(8,.ref 1 1 0 0),(10,.ref 2 1 0 0),(11,.mref 3 1),(12,.own 4 (L).length 0 (L).length)],objsexplB (.arr 1 2 109 [vpair first]) y ks (L.map vpair) (L.map acc) (rows) []⟩) ?_ ?_
 rotate_left
 ·rintro _ ⟨ks,L,rows,hBs,rfl⟩
  rw [hBs]
  refine CwpE.vc ?_
  rw [objsexplB_eq]
  simp only [go_sem]
  exact snap_tup2 (gr_snap y (L.map acc) rows _ _ _ (by simp) rfl rfl rfl) (.tree _ rfl)
 refine CwpE.seqJ (fun st=>st=⟨[(1,vi y),(2,fa),(3,fn),(8,.ref 1 1 0 0),(10,.ref 2 1 0 0),(11,.mref 3 1),(12,.own 4 ([first]).length 0 ([first]).length)],objsexplB (.arr 1 2 109 [vpair first]) y [(keyP first,.int .i64 0)] ([first].map vpair) ([]) ([]) []⟩) ?_ ?_
 ·refine CwpE.regionC (csa:=[⟨some 25,none,.load true 2 (T 4)⟩]) (csb:=[⟨some 12,none,.mov (T 26)⟩]) (by omega) (by decide) ?_
  simp only [go_sem]
  refine ⟨_,.refl _ _,?_⟩
  simp only [go_sem]
  exact ⟨_,(WkE.nilCell 2 1 3 0 1 1 4 97 _ (.agg [vi y,nilV,nilV]) rfl rfl rfl).trans ((WkE.nilCell 2 1 3 0 2 1 22 97 _ (.agg [vi y,.own 5 0 0 0,nilV]) rfl rfl rfl).trans (WkE.kp)),rfl⟩
 rintro _ rfl
 refine CwpE.vc ?_
 simp only [go_sem]
 have hB0:B=bfsGo 256 (nextE raw) y 257 [first] []:=by rw [<-hB];rfl
 refine loopX 0 (fun m z=>∃ (i:Nat) (ks:List (MK × Value)) (L:List (PI)) (rows:List (List Int)),m=257-i/\rows.length=i/\i<=L.length/\L.length<=256/\(∀ t ∈ L,ok t)/\(∀ r ∈ rows,r.length=y)/\Numb ok keyP ks L/\B=bfsGo 256 (nextE raw) y (257-i) L rows /\
  z=⟨[(1,vi y),(2,fa),(3,fn),(8,.ref 1 1 0 0),(10,.ref 2 1 0 0),(11,.mref 3 1),(12,.own 4 (L).length 0 (L).length)],objsexplB (.arr 1 2 109 [vpair first]) y ks (L.map vpair) ((L.take i).map acc) (rows) []⟩)
  (fun z=>∃ (ks:List (MK × Value)) (L:List (PI)) (rows:List (List Int)),B=some (L,rows)/\z=⟨[(1,vi y),(2,fa),(3,fn),(8,.ref 1 1 0 0),(10,.ref 2 1 0 0),(11,.mref 3 1),(12,.own 4 (L).length 0 (L).length)],objsexplB (.arr 1 2 109 [vpair first]) y ks (L.map vpair) (L.map acc) (rows) []⟩) 257
  ⟨[(1,vi y),(2,fa),(3,fn),(8,.ref 1 1 0 0),(10,.ref 2 1 0 0),(11,.mref 3 1),(12,.own 4 ([first]).length 0 ([first]).length)],objsexplB (.arr 1 2 109 [vpair first]) y [(keyP first,.int .i64 0)] ([first].map vpair) ([]) ([]) []⟩ (.refl _ _)
  ⟨0,_,[first],[],rfl,rfl,by simp,by simp,fun t ht=>by rw [List.mem_singleton.1 ht];exact hf0,fun r hr=>by simp at hr,Numb.one hinj hf0,hB0,rfl⟩ ?_ ?_
 rotate_left
 ·rintro z ⟨ks,L,rows,h1,rfl⟩
  simp only [go_sem]
  exact ⟨_,.refl _ _,ks,L,rows,h1,rfl⟩
 rintro m z ⟨i,ks,L,rows,rfl,hri,hiL,hL,hLn,hrl,hks,hBi,rfl⟩
 by_cases hlt:i<L.length
 rotate_left
 ·have gk:¬ (rows.length:Int)<(L.length:Int):=by omega
  rw [bfsGo_end (by omega)] at hBi
  have htk:L.take i=L:=List.take_of_length_le (by omega)
  rw [htk,objsexplB_eq]
  simp only [go_sem,gk,List.length_map]
  refine ⟨_,?_,ks,L,rows,hBi,rfl⟩
  rw [objsexplB_eq]
  simp only [List.length_map]
  exact WkE.kp
 have hf:257-i=(257-(i+1))+1:=by omega
 rw [hf,bfsGo_step (by omega)] at hBi
 have hnx:nextE raw L[rows.length]=nextE raw L[i]:=by simp only [hri]
 rw [hnx] at hBi
 obtain ⟨q,hq⟩:∃ q,L[i]=q:=⟨_,rfl⟩
 have hqo:ok q:=by rw [<-hq];exact hLn _ (List.getElem_mem hlt)
 have g1:(rows.length:Int)<(L.length:Int):=by omega
 have g0:(0:Int)<=(rows.length:Int):=by omega
 have hLi:(L.map vpair)[rows.length]? = some (vpair q):=by rw [List.getElem?_map,List.getElem?_eq_getElem (by omega)];simp only [hri,hq];rfl
 rw [hq] at hBi
 obtain ⟨nx,hnxe⟩:∃ nx,nextE raw q=nx:=⟨_,rfl⟩
 rw [hnxe] at hBi
 have nxv:∀ x,nx x=if (raw q x).2=true then some (raw q x).1 else none:=fun x=>by rw [<-hnxe];rfl
 have hAl:((L.take i).map acc).length=i:=by simp;omega
 have hA1:((L.take i).map acc)++[acc q]=(L.take (i+1)).map acc:=by
  rw [List.take_succ_eq_append_getElem hlt,List.map_append,hq];rfl
 obtain ⟨A,hAe⟩:∃ A,(L.take i).map acc=A:=⟨_,rfl⟩
 rw [hAe] at hAl hA1 ⊢
 have hacc:=ha q hqo
 have q0:(0:Int)<=(y:Int):=by omega
 have q2:((8:Nat):Int)*(y:Int)<=281474976710656:=by omega
 have q3:(y:Int)<=9223372036854775807:=by omega
 rw [objsexplB_eq]
 simp only [go_sem,g1,g0,hLi,List.length_map,q0,q2,q3,Int.le_refl,Int.toNat_natCast,rg_rep]
 refine loopX 2 (fun m z=>∃ (x:Nat) (ks:List (MK × Value)),m=y-x/\x<=y/\Numb ok keyP ks (rowGo nx (List.range x) L).2/\(∀ t ∈ (rowGo nx (List.range x) L).2,ok t) /\
  z=⟨[(1,vi y),(2,fa),(3,fn),(8,.ref 1 1 0 0),(10,.ref 2 1 0 0),(11,.mref 3 1),(12,.own 4 ((rowGo nx (List.range x) L).2).length 0 ((rowGo nx (List.range x) L).2).length),(13,.ref 7 1 0 0),(14,.own 8 y 0 y),(42,vi y),(43,vi x)],objsexplB (.arr 1 2 109 [vpair first]) y ks (((rowGo nx (List.range x) L).2).map vpair) (A) (rows) [.arr 1 2 109 [vpair q],.arr y 1 3 ((partR y (rowGo nx (List.range x) L).1).map vi)]⟩)
  (fun z=>∃ (ks:List (MK × Value)),Numb ok keyP ks (rowGo nx (List.range y) L).2/\(∀ t ∈ (rowGo nx (List.range y) L).2,ok t) /\
   z=⟨[(1,vi y),(2,fa),(3,fn),(8,.ref 1 1 0 0),(10,.ref 2 1 0 0),(11,.mref 3 1),(12,.own 4 ((rowGo nx (List.range y) L).2).length 0 ((rowGo nx (List.range y) L).2).length),(13,.ref 7 1 0 0),(14,vints (rowGo nx (List.range y) L).1)],objsexplB (.arr 1 2 109 [vpair first]) y ks (((rowGo nx (List.range y) L).2).map vpair) (A) (rows) [.arr 1 2 109 [vpair q]]⟩) y
  ⟨[(1,vi y),(2,fa),(3,fn),(8,.ref 1 1 0 0),(10,.ref 2 1 0 0),(11,.mref 3 1),(12,.own 4 (L).length 0 (L).length),(13,.ref 7 1 0 0),(14,.own 8 y 0 y),(42,vi y),(43,vi (0:Nat))],objsexplB (.arr 1 2 109 [vpair first]) y ks ((L).map vpair) (A) (rows) [.arr 1 2 109 [vpair q],.arr y 1 3 ((partR y []).map vi)]⟩ ?_ ⟨0,ks,by omega,by omega,hks,hLn,rfl⟩ ?_ ?_
 ·rw [objsexplB_eq]
  have e0:(rg y fun _=>vi 0)=(partR y []).map vi:=by rw [<-partR_nil,rg_rep]
  rw [<-e0]
  simp only [List.length_map]
  exact WkE.kp
 rotate_left
 ·rintro z ⟨ks1,hk1,ho1,rfl⟩
  have hr1l:((rowGo nx (List.range y) L).1).length=y:=by rw [rowGo_len,List.length_range]
  have hpre:=rowGo_pre nx (List.range y) L
  obtain ⟨L1,hL1⟩:∃ L1,(rowGo nx (List.range y) L).2=L1:=⟨_,rfl⟩
  obtain ⟨r1,hr1⟩:∃ r1,(rowGo nx (List.range y) L).1=r1:=⟨_,rfl⟩
  rw [hL1] at hk1 ho1 hBi hpre ⊢
  rw [hr1] at hr1l hBi ⊢
  rw [objsexplB_eq]
  by_cases h256:256<L1.length
  ·have hBn:B=none:=by rw [hBi,if_pos h256]
   have g256:(256:Int)<(L1.length:Int):=by omega
   rw [hBn]
   simp only [go_sem,g256,List.length_map]
   exact snap_tup2 nilG_snap (.tree _ rfl)
  have g256:¬ (256:Int)<(L1.length:Int):=by omega
  rw [if_neg h256] at hBi
  have qa:(A.length+1)*1<=140737488355328:=by omega
  have qr:(rows.length+1)*24<=140737488355328:=by omega
  simp only [go_sem,g256,List.length_map,qr]
  obtain ⟨A1,hA1e⟩:∃ A1,(L.take (i+1)).map acc=A1:=⟨_,rfl⟩
  rw [hA1e] at hA1
  have fin:∀ st,WkE 99 st ⟨[(1,vi y),(2,fa),(3,fn),(8,.ref 1 1 0 0),(10,.ref 2 1 0 0),(11,.mref 3 1),(12,.own 4 (L1).length 0 (L1).length)],objsexplB (.arr 1 2 109 [vpair first]) y ks1 (L1.map vpair) A1 (rows++[r1]) []⟩->∃ m s',m<257-i/\WkE 99 st s'/\∃ (i:Nat) (ks:List (MK × Value)) (L:List PI) (rows:List (List Int)),m=257-i/\rows.length=i/\i<=L.length/\L.length<=256/\(∀ t ∈ L,ok t)/\(∀ r ∈ rows,r.length=y)/\Numb ok keyP ks L/\B=bfsGo 256 (nextE raw) y (257-i) L rows /\
   s'=⟨[(1,vi y),(2,fa),(3,fn),(8,.ref 1 1 0 0),(10,.ref 2 1 0 0),(11,.mref 3 1),(12,.own 4 (L).length 0 (L).length)],objsexplB (.arr 1 2 109 [vpair first]) y ks (L.map vpair) ((L.take i).map acc) (rows) []⟩:=by
   intro st hst
   refine ⟨257-(i+1),_,by omega,hst,i+1,ks1,L1,rows++[r1],rfl,by simp [hri],?_,by omega,ho1,?_,hk1,hBi,?_⟩
   ·have:=hpre.length_le;omega
   ·intro r hr
    rcases List.mem_append.1 hr with hr | hr
    ·exact hrl r hr
    ·rw [List.mem_singleton.1 hr,hr1l]
   ·have e2:(L1.take (i+1)).map acc=A1:=by
     obtain ⟨r,hr⟩:=hpre
     rw [<-hr,List.take_append_of_le_length (by omega),hA1e]
    rw [e2]
  have hA1m:A.map vb++[vb (acc q)]=A1.map vb:=by rw [<-hA1,List.map_append];rfl
  have hA1l:A1.length=A.length+1:=by rw [<-hA1];simp
  have fin2:∀ env,Agree env [(1,vi y),(2,fa),(3,fn),(8,.ref 1 1 0 0),(10,.ref 2 1 0 0),(11,.mref 3 1),(12,.own 4 L1.length 0 L1.length)]->WkE 99 ⟨env,[.arr 1 2 109 [vpair first],.arr 1 3 97 [nil3],.arr 1 3 97 [.agg [vi y,.own 5 (A.length+1) 0 (A.length+1),.own 6 (rows.length+1) 0 (rows.length+1)]],.arr 1 1 (mapT+6) [.val (mapV ks1)],.arr L1.length 2 109 (L1.map vpair),.arr (A.length+1) 1 4 (A.map vb++[vb (acc q)]),.arr (rows.length+1) 1 22 (rows.map vints++[vints r1]),.arr 1 2 109 [vpair q]]⟩ ⟨[(1,vi y),(2,fa),(3,fn),(8,.ref 1 1 0 0),(10,.ref 2 1 0 0),(11,.mref 3 1),(12,.own 4 (L1).length 0 (L1).length)],objsexplB (.arr 1 2 109 [vpair first]) y ks1 (L1.map vpair) A1 (rows++[r1]) []⟩:=by
   intro env henv
   have:=objsexplB_drop (m:=99) (env:=env) (env':=[(1,vi y),(2,fa),(3,fn),(8,.ref 1 1 0 0),(10,.ref 2 1 0 0),(11,.mref 3 1),(12,.own 4 L1.length 0 L1.length)]) first y ks1 L1 A1 (rows++[r1]) [] [.arr 1 2 109 [vpair q]] henv (by simp only [List.all_cons,List.all_nil,(hfi _).1,(hfi _).2];rfl) rfl
   rw [objsexplB_eq] at this
   simp only [hA1l,<-hA1m,List.length_append,List.map_append,List.length_map,List.length_singleton,List.map_cons,List.map_nil] at this
   exact this
  refine ⟨?_,?_⟩
  ·refine callOk (hacc _) ?_
   simp only [go_sem,qa,List.length_map]
   exact ⟨⟨fin _ (fin2 _ (by simp only [go_sem])),fin _ (fin2 _ (by simp only [go_sem]))⟩,fin _ (fin2 _ (by simp only [go_sem]))⟩
  ·refine callOk (hacc _) ?_
   simp only [go_sem,qa,List.length_map]
   exact fin _ (fin2 _ (by simp only [go_sem]))
 rintro m z ⟨x,ks,rfl,hx,hks,hLo,rfl⟩
 by_cases hxy:x<y
 rotate_left
 ·obtain rfl:y=x:=by omega
  have hrl1:((rowGo nx (List.range y) L).1).length=y:=by rw [rowGo_len,List.length_range]
  obtain ⟨L1,hL1⟩:∃ L1,(rowGo nx (List.range y) L).2=L1:=⟨_,rfl⟩
  obtain ⟨r1,hr1⟩:∃ r1,(rowGo nx (List.range y) L).1=r1:=⟨_,rfl⟩
  rw [hL1] at hks hLo ⊢
  rw [hr1] at hrl1 ⊢
  rw [objsexplB_eq]
  simp only [go_sem,Int.lt_irrefl,partR_full hrl1]
  refine ⟨_,?_,ks,hks,hLo,rfl⟩
  have hz:=WkE.freeze (n:=99) (env:=[(1,vi y),(2,fa),(3,fn),(8,.ref 1 1 0 0),(10,.ref 2 1 0 0),(11,.mref 3 1),(12,.own 4 L1.length 0 L1.length),(13,.ref 7 1 0 0),(14,.own 8 y 0 y),(42,vi y),(43,vi y)]) (objs:=objsexplB (.arr 1 2 109 [vpair first]) y ks (L1.map vpair) A rows [.arr 1 2 109 [vpair q],.arr y 1 3 (r1.map vi)]) 14 8 y 0 y 1 3 (r1.map vi) (by omega) rfl rfl (by simp [hrl1]) (isT_map (fun _=>rfl) _)
  have e1:((r1.map vi).drop 0).take y=r1.map vi:=by rw [List.drop_zero,List.take_of_length_le (by simp [hrl1])]
  rw [e1] at hz
  have hd:=objsexplB_drop (m:=99) (env:=(14,vints r1)::[(1,vi y),(2,fa),(3,fn),(8,.ref 1 1 0 0),(10,.ref 2 1 0 0),(11,.mref 3 1),(12,.own 4 L1.length 0 L1.length),(13,.ref 7 1 0 0),(14,.own 8 y 0 y),(42,vi y),(43,vi y)]) (env':=[(1,vi y),(2,fa),(3,fn),(8,.ref 1 1 0 0),(10,.ref 2 1 0 0),(11,.mref 3 1),(12,.own 4 L1.length 0 L1.length),(13,.ref 7 1 0 0),(14,vints r1)]) first y ks L1 A rows [.arr 1 2 109 [vpair q]] [.dead] (by simp only [go_sem];try rfl) (by simp only [List.all_cons,List.all_nil,(hfi _).1,(hfi _).2];rfl) rfl
  have hzd:=hz.trans hd
  simp only [objsexplB_eq,List.length_map,List.cons_append,List.nil_append] at hzd ⊢
  refine WkE.trans (WkE.keep ?_) hzd
  simp only [go_sem];try rfl
 have hrx:((rowGo nx (List.range x) L).1).length=x:=by rw [rowGo_len,List.length_range]
 have hpx:=(rowGo_pre nx (List.range x) L).length_le
 have hrr:=rowGo_range nx x L
 have hlb:=rowGo_lb nx L x
 obtain ⟨Lx,hLx⟩:∃ Lx,(rowGo nx (List.range x) L).2=Lx:=⟨_,rfl⟩
 obtain ⟨rx,hrxe⟩:∃ rx,(rowGo nx (List.range x) L).1=rx:=⟨_,rfl⟩
 obtain ⟨L1,hL1⟩:∃ L1,(rowGo nx (List.range (x+1)) L).2=L1:=⟨_,rfl⟩
 obtain ⟨r1,hr1⟩:∃ r1,(rowGo nx (List.range (x+1)) L).1=r1:=⟨_,rfl⟩
 have hnx2:=nxv x
 simp only [hLx,hrxe] at hks hLo hrx hrr hpx hlb ⊢
 have gx:(x:Int)<(y:Int):=by omega
 have gx0:(0:Int)<=(x:Int):=by omega
 have wx:=wrap_s x (by omega)
 have hstep:=hn q x hqo hxy
 have hset:∀ v,((partR y rx).map vi).set x (vi v)=(partR y (rx++[v])).map vi:=fun v=>partR_set hrx v
 have hplen:=partR_len y rx
 obtain ⟨u0,hget⟩:∃ u0,((partR y rx).map vi)[x]? = some (vi u0):=⟨_,by rw [List.getElem?_map,List.getElem?_eq_getElem (by omega)];rfl⟩
 have fin:∀ (st:Est) (ks2:List (MK × Value)) (L2:List PI) (r2:List Int),L1=L2->r1=r2->Numb ok keyP ks2 L2->(∀ t ∈ L2,ok t)->WkE 99 st ⟨[(1,vi y),(2,fa),(3,fn),(8,.ref 1 1 0 0),(10,.ref 2 1 0 0),(11,.mref 3 1),(12,.own 4 (L2).length 0 (L2).length),(13,.ref 7 1 0 0),(14,.own 8 y 0 y),(42,vi y),(43,vi (x+1:Nat))],objsexplB (.arr 1 2 109 [vpair first]) y ks2 (L2.map vpair) (A) (rows) [.arr 1 2 109 [vpair q],.arr y 1 3 ((partR y r2).map vi)]⟩ ->
  ∃ m s',m<y-x/\WkE 99 st s'/\∃ (x:Nat) (ks:List (MK × Value)),m=y-x/\x<=y/\Numb ok keyP ks (rowGo nx (List.range x) L).2/\(∀ t ∈ (rowGo nx (List.range x) L).2,ok t) /\
  s'=⟨[(1,vi y),(2,fa),(3,fn),(8,.ref 1 1 0 0),(10,.ref 2 1 0 0),(11,.mref 3 1),(12,.own 4 ((rowGo nx (List.range x) L).2).length 0 ((rowGo nx (List.range x) L).2).length),(13,.ref 7 1 0 0),(14,.own 8 y 0 y),(42,vi y),(43,vi x)],objsexplB (.arr 1 2 109 [vpair first]) y ks (((rowGo nx (List.range x) L).2).map vpair) (A) (rows) [.arr 1 2 109 [vpair q],.arr y 1 3 ((partR y (rowGo nx (List.range x) L).1).map vi)]⟩:=by
  rintro st ks2 L2 r2 rfl rfl h1 h2 hst
  exact ⟨y-(x+1),_,by omega,hst,x+1,ks2,rfl,by omega,by rw [hL1];exact h1,by rw [hL1];exact h2,by rw [hL1,hr1]⟩
 have fin2:∀ env objs9 (ks2:List (MK × Value)) (L2:List PI) (r2:List Int),Agree env [(1,vi y),(2,fa),(3,fn),(8,.ref 1 1 0 0),(10,.ref 2 1 0 0),(11,.mref 3 1),(12,.own 4 L2.length 0 L2.length),(13,.ref 7 1 0 0),(14,.own 8 y 0 y),(42,vi y),(43,vi (x+1:Nat))]->WkE 99 ⟨env,[.arr 1 2 109 [vpair first],.arr 1 3 97 [nil3],.arr 1 3 97 [.agg [vi y,.own 5 A.length 0 A.length,.own 6 rows.length 0 rows.length]],.arr 1 1 (mapT+6) [.val (mapV ks2)],.arr L2.length 2 109 (L2.map vpair),.arr A.length 1 4 (A.map vb),.arr rows.length 1 22 (rows.map vints),.arr 1 2 109 [vpair q],.arr y 1 3 ((partR y r2).map vi),objs9]⟩ ⟨[(1,vi y),(2,fa),(3,fn),(8,.ref 1 1 0 0),(10,.ref 2 1 0 0),(11,.mref 3 1),(12,.own 4 (L2).length 0 (L2).length),(13,.ref 7 1 0 0),(14,.own 8 y 0 y),(42,vi y),(43,vi (x+1:Nat))],objsexplB (.arr 1 2 109 [vpair first]) y ks2 (L2.map vpair) (A) (rows) [.arr 1 2 109 [vpair q],.arr y 1 3 ((partR y r2).map vi)]⟩:=by
  intro env o9 ks2 L2 r2 henv
  have h1:(((partR y r2).map vi).all (AV.inn 9))=true:=inn_map fun _=>rfl
  have:=objsexplB_drop (m:=99) (env:=env) (env':=[(1,vi y),(2,fa),(3,fn),(8,.ref 1 1 0 0),(10,.ref 2 1 0 0),(11,.mref 3 1),(12,.own 4 L2.length 0 L2.length),(13,.ref 7 1 0 0),(14,.own 8 y 0 y),(42,vi y),(43,vi (x+1:Nat))]) first y ks2 L2 A rows [.arr 1 2 109 [vpair q],.arr y 1 3 ((partR y r2).map vi)] [o9] henv (by simp only [List.all_cons,List.all_nil,(hfi _).1,(hfi _).2];rfl) (Bool.and_eq_true_iff.2 ⟨rfl,Bool.and_eq_true_iff.2 ⟨h1,rfl⟩⟩)
  simp only [objsexplB_eq,List.length_map,List.cons_append,List.nil_append] at this ⊢
  exact this
 rw [objsexplB_eq]
 simp only [go_sem,gx]
 refine callOk (hstep _) ?_
 cases hok:(raw q x).2 with
 | false =>
  simp only [hok,Bool.false_eq_true,if_false] at hnx2
  rw [hnx2] at hrr
  simp only [hL1,hr1,Prod.ext_iff] at hrr
  simp only [go_sem,gx,gx0,hget,hset,wx,Int.toNat_natCast]
  refine fin _ ks Lx (rx++[-1]) hrr.2 hrr.1 hks hLo (fin2 _ _ _ _ _ ?_)
  simp only [go_sem];try rfl
 | true =>
  simp only [hok,if_true] at hnx2
  have hto:=hr q x hqo hxy hok
  obtain ⟨t,ht⟩:∃ t,(raw q x).1=t:=⟨_,rfl⟩
  rw [ht] at hnx2 hto ⊢
  rw [hnx2] at hrr
  simp only [hL1,hr1,Prod.ext_iff] at hrr
  have hk:=hks t hto
  by_cases hm:posF Lx t<Lx.length
  ·rw [if_pos hm] at hk
   have hk':kget ks (.a [t.1,t.2])=some (.int .i64 (posF Lx t:Nat)):=hk
   have hk1:addK Lx t=Lx:=by rw [addK,if_pos hm]
   rw [hk1] at hrr
   simp only [go_sem,gx,gx0,hget,hset,wx,hk',Int.toNat_natCast,Option.getD_some,Option.isSome_some]
   refine fin _ ks Lx (rx++[(posF Lx t:Int)]) hrr.2 hrr.1 hks hLo (fin2 _ _ _ _ _ ?_)
   simp only [go_sem];try rfl
  ·rw [if_neg hm] at hk
   have hk':kget ks (.a [t.1,t.2])=none:=hk
   have hnm:t ∉ Lx:=fun h=>hm (posF_mem.2 h)
   have hk1:addK Lx t=Lx++[t]:=by rw [addK,if_neg hm]
   rw [hk1,posF_new hnm] at hrr
   have qL:(Lx.length+1)*16<=140737488355328:=by omega
   have hm1:Lx.map vpair++[vpair t]=(Lx++[t]).map vpair:=by rw [List.map_append];rfl
   have hl1:(Lx++[t]).length=Lx.length+1:=by simp
   simp only [go_sem,gx,gx0,hget,hset,wx,hk',List.length_map,Int.toNat_natCast,Option.getD_none,Option.isSome_none,qL]
   have h2:=fun env o9 h=>fin2 env o9 (kset ks (keyP t) (.int .i64 (Lx.length:Nat))) (Lx++[t]) (rx++[(Lx.length:Int)]) h
   rw [hl1] at h2
   rw [<-hm1] at h2
   refine fin _ (kset ks (keyP t) (.int .i64 (Lx.length:Nat))) (Lx++[t]) (rx++[(Lx.length:Int)]) hrr.2 hrr.1 (hks.add hinj hto hnm) ?_ ?_
   ·intro u hu
    rcases List.mem_append.1 hu with hu | hu
    ·exact hLo u hu
    ·rw [List.mem_singleton.1 hu];exact hto
   ·rw [hl1,<-hm1]
    exact h2 _ _ (by simp only [go_sem];try rfl)
abbrev pgr (g:Gr):AV:=.ptr [vi g.sy,vbools g.acc,vrows g.to]
structure InP (g h:Gr) (k:PI):Prop where
 a0:0<=k.1
 a1:k.1<g.acc.length
 b0:0<=k.2
 b1:k.2<h.acc.length
theorem both1_s (g h:Gr) (k:PI) (hk:InP g h k):Ctr Try.prog 69 [vpair k,pgr g,pgr h] (vb (accB g h k)):=by
 refine specE f69 (by simp) fun F0 w0=>?_
 obtain ⟨p,q⟩:=k
 obtain ⟨a0,a1,b0,b1⟩:=hk
 simp only at a0 a1 b0 b1
 have ha:=bt_get (s:=g.acc) (k:=p.toNat) (by omega)
 have hb:=bt_get (s:=h.acc) (k:=q.toNat) (by omega)
 rw [accB]
 simp only
 cases h1:bt g.acc p.toNat with
 | false =>
  rw [h1] at ha
  simp only [c69,go_sem,↓reduceIte,reduceCtorEq,Nat.reduceLT,Nat.reduceEqDiff,Nat.reduceAdd,Nat.reduceMul,Int.reduceToNat,Int.reduceToNat,Int.le_refl,w02,a0,ha]
  exact .tree _ rfl
 | true =>
  rw [h1] at ha
  simp only [c69,go_sem,↓reduceIte,reduceCtorEq,Nat.reduceLT,Nat.reduceEqDiff,Nat.reduceAdd,Nat.reduceMul,Int.reduceToNat,Int.reduceLE,Int.reduceToNat,Int.le_refl,w02,w12,a0,b0,ha,hb]
  exact .tree _ rfl
def rawB (g h:Gr) (k:PI) (x:Nat):PI × Bool:=((gto g k.1.toNat x,gto h k.2.toNat x),decide (0<=gto g k.1.toNat x) && decide (0<=gto h k.2.toNat x))
theorem nextE_rawB (g h:Gr):nextE (rawB g h)=nextB g h:=by
 funext k x
 unfold nextE nextB rawB
 simp only [Bool.and_eq_true,decide_eq_true_eq]
 by_cases h1:gto g k.1.toNat x<0
 ·rw [if_neg (by omega),if_pos (.inl h1)]
 ·by_cases h2:gto h k.2.toNat x<0
  ·rw [if_neg (by omega),if_pos (.inr h2)]
  ·rw [if_pos (by omega),if_neg (by omega)]
set_option maxHeartbeats 4000000 in
theorem both2_s (g h:Gr) (hg:GrOk g) (hh:GrOk h) (k:PI) (hk:InP g h k) (x:Nat) (hx:x<g.sy) (hx2:x<h.sy):Ctr Try.prog 70 [vpair k,vi x,pgr g,pgr h] (.tup [vpair (rawB g h k x).1,vb (rawB g h k x).2]):=by
 refine specC f70 (by simp) fun F0 w0=>?_
 obtain ⟨p,q⟩:=k
 obtain ⟨a0,a1,b0,b1⟩:=hk
 simp only at a0 a1 b0 b1
 have r1:=row_get hg (i:=p.toNat) (by omega)
 have r2:=row_get hh (i:=q.toNat) (by omega)
 have t1:=gto_get hg (i:=p.toNat) (x:=x) (by omega) hx
 have t2:=gto_get hh (i:=q.toNat) (x:=x) (by omega) hx2
 have x0:(0:Int)<=(x:Int):=by omega
 have l1:=rowAt_len hg (i:=p.toNat) (by omega)
 have l2:=rowAt_len hh (i:=q.toNat) (by omega)
 have m1:g.to.length=g.acc.length:=hg.len
 have m2:h.to.length=h.acc.length:=hh.len
 rw [rawB]
 simp only
 generalize gto g p.toNat x=u at t1 ⊢
 generalize gto h q.toNat x=v at t2 ⊢
 unfold c70
 refine CwpE.cut (st:=⟨[(1,vi x),(2,pgr g),(3,pgr h),(4,.ref 0 1 0 0),(6,.ref 1 1 0 0),(7,vb false)],[.arr 1 2 109 [vpair (p,q)],.arr 1 2 109 [.agg [vi 0,vi 0]]]⟩) ?_ ?_
 ·simp only [go_sem]
  exact ⟨_,WkE.kp,rfl⟩
 refine CwpE.cut (st:=⟨[(6,.ref 1 1 0 0),(8,.ref 2 1 0 0)],[.arr 1 2 109 [vpair (p,q)],.arr 1 2 109 [.agg [vi 0,vi 0]],.arr 1 2 109 [.agg [vi u,vi v]]]⟩) ?_ ?_
 ·simp only [go_sem,Int.reduceLE,Int.le_refl,w02,w12,a0,b0,r1,r2,t1,t2,x0,Int.toNat_natCast]
  exact ⟨_,WkE.kp,rfl⟩
 refine CwpE.step (fun z=>z=⟨[(6,.ref 1 1 0 0),(7,vb (decide (0<=u) && decide (0<=v)))],[.arr 1 2 109 [vpair (p,q)],.arr 1 2 109 [.agg [vi u,vi v]],.arr 1 2 109 [.agg [vi u,vi v]]]⟩) ?_ ?_
 rotate_left
 ·rintro _ rfl
  refine CwpE.vc ?_
  simp only [go_sem]
  exact snap_tup2 (.tree _ rfl) (.tree _ rfl)
 by_cases hu:0<=u
 ·simp only [go_sem,Int.reduceLE,Int.le_refl,w02,w12,hu]
  repeat' apply And.intro
  all_goals exact ⟨_,WkE.kp,rfl⟩
 ·simp only [go_sem,Int.le_refl,w02,hu]
  repeat' apply And.intro
  all_goals exact ⟨_,WkE.kp,rfl⟩
theorem two_ok {a b:Au} (h:(twoM a b).1=0):VA a/\VA b/\a.sy=b.sy/\GrOk (twoM a b).2.1/\GrOk (twoM a b).2.2/\(twoM a b).2.1.acc.length<=256/\(twoM a b).2.2.acc.length<=256/\((twoM a b).2.1.sy:Int)=a.sy/\((twoM a b).2.2.sy:Int)=a.sy:=by
 have key:∀ {c:Au},(fixedM c).2=0->VA c->GrOk (tabG (fixedM c).1)/\(tabG (fixedM c).1).acc.length<=256/\((tabG (fixedM c).1).sy:Int)=c.sy:=fun {c} h hv=>by
  obtain ⟨_,g,d,h1,h2,h3,h4,h5,_⟩:=fixed_norm h
  rw [h3]
  simp only
  rw [tab_auOf h4.ok]
  refine ⟨h4.ok,h4.va.n.2,?_⟩
  have:=hv.sy
  omega
 unfold twoM at h ⊢
 simp only at h ⊢
 by_cases h1:validM a=0
 ·rw [if_pos h1] at h ⊢
  by_cases h2:validM b=0
  ·rw [if_pos h2] at h ⊢
   by_cases h3:a.sy=b.sy
   ·rw [if_pos h3] at h ⊢
    by_cases h4:(fixedM a).2=0
    ·rw [if_pos h4] at h ⊢
     by_cases h5:(fixedM b).2=0
     ·rw [if_pos h5]
      obtain ⟨a1,a2,a3⟩:=key h4 (valid_VA.1 h1)
      obtain ⟨b1,b2,b3⟩:=key h5 (valid_VA.1 h2)
      exact ⟨valid_VA.1 h1,valid_VA.1 h2,h3,a1,b1,a2,b2,a3,by rw [b3,h3]⟩
     ·rw [if_neg h5] at h;exact absurd h h5
    ·rw [if_neg h4] at h;exact absurd h h4
   ·rw [if_neg h3] at h;simp at h
  ·rw [if_neg h2] at h;exact absurd h h2
 ·rw [if_neg h1] at h;exact absurd h h1
set_option maxHeartbeats 4000000 in
theorem Both_s (a b:Au) (ha:SzA a) (hb:SzA b):Ctr Try.prog 36 [vau a,vau b] (vae (bothM a b)):=by
 refine specC f36 (by simp) fun F0 w0=>?_
 have htw:=two_s a b ha hb
 have hto:=two_ok (a:=a) (b:=b)
 rw [bothM]
 obtain ⟨e,g,h,ht⟩:∃ e g h,twoM a b=(e,g,h):=⟨_,_,_,rfl⟩
 rw [ht] at htw hto ⊢
 simp only at htw hto ⊢
 unfold c36
 refine CwpE.cut (st:=⟨[(2,.ref 0 1 0 0),(3,.ref 1 1 0 0),(4,.ref 2 1 0 0),(5,vi 0)],[oX a,oX b,.arr 1 3 34 [nil3]]⟩) ?_ ?_
 ·simp only [go_sem]
  exact ⟨_,WkE.kp,rfl⟩
 refine CwpE.cut (st:=⟨[(7,pgr h),(6,pgr g),(2,.ref 0 1 0 0),(4,.ref 2 1 0 0),(5,vi 0),(8,vi e)],[oX a,oX b,.arr 1 3 34 [nil3],.dead,.dead]⟩) ?_ ?_
 ·simp only [go_sem]
  refine callT htw rfl ?_
  simp only [go_sem]
  refine ⟨_,(WkE.freezeS 6 3 1 3 97 [vgr g] (.ref 3 1 0 0) (pgr g) (by omega) rfl rfl ?_).trans ((WkE.freezeS 7 4 1 3 97 [vgr h] (.ref 4 1 0 0) (pgr h) (by omega) rfl rfl ?_).trans (WkE.kp)),rfl⟩
  ·refine .ref 3 1 0 0 _ _ rfl rfl fun i h1 h2=>?_
   match i,h1,h2 with
   | 0,_,_=>exact .tree _ rfl
   | 1,_,_=>exact .tree _ rfl
   | 2,_,_=>exact .tree _ rfl
  ·refine .ref 4 1 0 0 _ _ rfl rfl fun i h1 h2=>?_
   match i,h1,h2 with
   | 0,_,_=>exact .tree _ rfl
   | 1,_,_=>exact .tree _ rfl
   | 2,_,_=>exact .tree _ rfl
 by_cases he:e=0
 rotate_left
 ·rw [if_neg he]
  refine CwpE.vc ?_
  simp only [go_sem,he]
  exact snap_tup2 nil_snap (.tree _ rfl)
 subst he
 rw [if_pos rfl]
 obtain ⟨v1,v2,v3,gk,hk,gn,hn,gs,hs⟩:=hto rfl
 have hsy:=v1.sy
 have gn0:=gk.n
 have hn0:=hk.n
 refine CwpE.cut (st:=⟨[(7,pgr h),(6,pgr g),(2,.ref 0 1 0 0),(4,.ref 2 1 0 0),(5,vi 0)],[oX a,oX b,.arr 1 3 34 [nil3],.dead,.dead]⟩) ?_ ?_
 ·simp only [go_sem]
  exact ⟨_,WkE.kp,rfl⟩
 have hex:=explB_s (InP g h) (fun s t _ _=>keyP_inj) (.clo (.func 69) [pgr g,pgr h]) (.clo (.func 70) [pgr g,pgr h]) (0,0) g.sy (by omega) (accB g h) (rawB g h) ⟨by omega,by simp only;omega,by omega,by simp only;omega⟩
  (fun k x hk2 hx hr=>by
   unfold rawB at hr ⊢
   simp only [Bool.and_eq_true,decide_eq_true_eq] at hr ⊢
   have h1:=gk.hi k.1.toNat x
   have h2:=hk.hi k.2.toNat x
   exact ⟨hr.1,by omega,hr.2,by omega⟩)
  (fun k hk2 objs=>.data 69 _ _ _ _ (.cons (.tree _ rfl) (.cons (.tree _ rfl) (.cons (.tree _ rfl) .nil))) (both1_s g h k hk2))
  (fun k x hk2 hx objs=>.data 70 _ _ _ _ (.cons (.tree _ rfl) (.cons (.tree _ rfl) (.cons (.tree _ rfl) (.cons (.tree _ rfl) .nil)))) (both2_s g h gk hk k hk2 x hx (by omega))) (fun k=>⟨rfl,rfl⟩)
 rw [nextE_rawB,gs] at hex
 rw [prodM]
 have hbs:=@bfs_ok PI _ 256 (by omega) (nextB g h) g.sy (0,0)
 cases hB:bfs 256 (nextB g h) g.sy (0,0) with
 | none =>
  rw [hB] at hex
  simp only [Option.map_none]
  refine CwpE.vc ?_
  simp only [go_sem]
  refine callN hex (.cons (.tree _ rfl) (.cons (.tree _ rfl) (.cons (.tree _ rfl) (.cons (.tree _ rfl) .nil)))) ?_
  simp only [resE,go_sem,↓reduceIte,Nat.reduceLT,Nat.reduceEqDiff,Nat.reduceAdd,Int.reduceEq]
  exact snap_tup2 nil_snap (.tree _ rfl)
 | some r =>
  rw [hB,resE] at hex
  obtain ⟨l,rows⟩:=r
  obtain ⟨o1,o2,o3⟩:=hbs hB
  simp only [Option.map_some]
  have hl1:1<=l.length:=by have:=o3.length_le;simpa using this
  have hgo:=grOf_ok (acc:=accB g h) o1 o2 hl1
  have hlen:(grOf g.sy (accB g h) l rows).acc.length<=256:=by show (l.map _).length<=256;rw [List.length_map];exact o1.most
  have hGs:(grOf g.sy (accB g h) l rows).sy=g.sy:=rfl
  generalize grOf g.sy (accB g h) l rows=G at hex hgo hlen hGs ⊢
  have hls:=least_s G hgo (by omega) (by omega)
  rw [leastP_R hgo (by omega)] at hls
  refine CwpE.vc ?_
  simp only [go_sem]
  refine callN hex (.cons (.tree _ rfl) (.cons (.tree _ rfl) (.cons (.tree _ rfl) (.cons (.tree _ rfl) .nil)))) ?_
  simp only [go_sem]
  refine callT hls rfl ?_
  simp only [go_sem]
  exact snap_tup2 (.tree _ rfl) (.tree _ rfl)
end Go.Proofs.Ytjilachpkjlhdaa
namespace P5
theorem neg_to {g:Gr} (h:GrOk g) {i x:Nat} (hi:i<=g.acc.length) (hx:x<g.sy):gto (negG g) i x=if gto g i x<0 then (g.acc.length:Int) else gto g i x:=by
 have hl:=h.len
 unfold gto negG
 simp only [List.getD_eq_getElem?_getD]
 by_cases hi2:i<g.acc.length
 ·have hr:=h.row g.to[i] (List.getElem_mem _)
  rw [List.getElem?_append_left (by rw [List.length_map];omega),List.getElem?_map,List.getElem?_eq_getElem (l:=g.to) (i:=i) (by omega)]
  simp only [Option.map_some,Option.getD_some]
  rw [List.getElem?_map,List.getElem?_eq_getElem (i:=x) (by rw [hr];exact hx)]
  rfl
 ·have:i=g.acc.length:=by omega
  subst this
  rw [List.getElem?_append_right (by rw [List.length_map];omega),List.length_map,hl,Nat.sub_self,List.getElem?_eq_none (l:=g.to) (by omega)]
  simp only [List.getElem?_cons_zero,Option.getD_some,Option.getD_none,List.getElem?_nil]
  rw [List.getElem?_replicate_of_lt hx]
  simp
theorem neg_acc {g:Gr} {i:Nat} (hi:i<=g.acc.length):bt (negG g).acc i = !bt g.acc i:=by
 unfold bt negG
 simp only [List.getD_eq_getElem?_getD]
 by_cases hi2:i<g.acc.length
 ·rw [List.getElem?_append_left (by rw [List.length_map];omega),List.getElem?_map,List.getElem?_eq_getElem (by omega)]
  rfl
 ·have:i=g.acc.length:=by omega
  subst this
  rw [List.getElem?_append_right (by rw [List.length_map];omega),List.length_map,Nat.sub_self,List.getElem?_eq_none (l:=g.acc) (by omega)]
  rfl
end P5
namespace Go.Proofs.Ytjilachpkjlhdaa
open Go.RowKit Dak P5
def objsP (pre:List AObj) (sy:Int) (L:List PI) (A:List Bool) (E:List Edg):List AObj :=
 pre++[.arr L.length 2 109 (L.map vpair),.arr 1 3 26 [.agg [vi sy,.own 7 A.length 0 A.length,.own 8 E.length 0 E.length]],.arr A.length 1 4 (A.map vb),.arr E.length 3 71 (E.map vedge)]
abbrev pre5 (a b c d:Au):List AObj:=[oB a,oB b,.arr 1 3 26 [nil3],oB c,oB d]
theorem objsP_eq (a b c d:Au) (sy:Int) (L:List PI) (A:List Bool) (E:List Edg):objsP (pre5 a b c d) sy L A E =
 [oB a,oB b,.arr 1 3 26 [nil3],oB c,oB d,.arr L.length 2 109 (L.map vpair),.arr 1 3 26 [.agg [vi sy,.own 7 A.length 0 A.length,.own 8 E.length 0 E.length]],.arr A.length 1 4 (A.map vb),.arr E.length 3 71 (E.map vedge)]:=rfl
theorem pairs_get {L:List PI} {k:Nat} (h:k<L.length):(L.map vpair)[k]? = some (vpair L[k]):=by rw [List.getElem?_map,List.getElem?_eq_getElem h];rfl
theorem objsP_inn (a b c d:Au) (sy:Int) (L:List PI) (A:List Bool) (E:List Edg):((objsP (pre5 a b c d) sy L A E).all fun o=>o.innO (objsP (pre5 a b c d) sy L A E).length)=true:=by
 rw [objsP_eq]
 refine Bool.and_eq_true_iff.2 ⟨rfl,Bool.and_eq_true_iff.2 ⟨rfl,Bool.and_eq_true_iff.2 ⟨rfl,Bool.and_eq_true_iff.2 ⟨rfl,Bool.and_eq_true_iff.2 ⟨rfl,Bool.and_eq_true_iff.2 ⟨inn_map fun _=>rfl,Bool.and_eq_true_iff.2 ⟨?_,Bool.and_eq_true_iff.2 ⟨inn_map fun _=>rfl,Bool.and_eq_true_iff.2 ⟨inn_map fun _=>rfl,rfl⟩⟩⟩⟩⟩⟩⟩⟩⟩
 simp [AObj.innO,AV.inn,AV.inn1]
set_option maxHeartbeats 8000000 in
theorem rBoth_s (a b:Au) (ha:SzA a) (hb:SzA b):Ctr Try.prog 37 [vau a,vau b] (vae (bothM a b)):=by
 refine specC f37 (by simp) fun F0 w0=>?_
 have hpr:=pair_s a b ha hb
 rw [pairR] at hpr
 unfold bothM
 simp only
 unfold c37
 refine CwpE.cut (st:=⟨[(2,.ref 0 1 0 0),(3,.ref 1 1 0 0),(4,.ref 2 1 0 0),(5,vi 0)],[oB a,oB b,.arr 1 3 26 [nil3]]⟩) ?_ ?_
 ·simp only [go_sem]
  exact ⟨_,WkE.kp,rfl⟩
 by_cases h0:(twoM a b).1=0
 rotate_left
 ·rw [if_neg h0] at hpr ⊢
  simp only at hpr
  refine CwpE.cut (st:=⟨[(2,.ref 0 1 0 0),(3,.ref 1 1 0 0),(4,.ref 2 1 0 0),(5,vi 0),(6,.ref 3 1 0 0),(7,.ref 4 1 0 0),(8,vi (twoM a b).1)],pre5 a b nilA nilA⟩) ?_ ?_
  ·simp only [go_sem]
   refine callT hpr rfl ?_
   simp only [go_sem]
   exact ⟨_,WkE.kp,rfl⟩
  refine CwpE.vc ?_
  simp only [go_sem,h0]
  exact snap_tup2 nil_snap (.tree _ rfl)
 rw [if_pos h0] at hpr ⊢
 obtain ⟨va,vb',hs,fa,fb,g,k,e,ea,eb,ng,nk,sg,sk,lg,lk⟩:=two_norm h0
 rw [ea,eb] at hpr
 rw [e]
 simp only at hpr ⊢
 have gok:=ng.ok
 have kok:=nk.ok
 have gn:=ng.va.n.2
 have kn:=nk.va.n.2
 have gn':g.acc.length<=256:=gn
 have kn':k.acc.length<=256:=kn
 have hsy1:=va.sy
 obtain ⟨y,hy⟩:∃ y:Nat,a.sy=(y:Int):=⟨a.sy.toNat,by omega⟩
 have hgy:g.sy=y:=by omega
 have hky:k.sy=y:=by omega
 have hc:=rtable_s gok (by omega) (by omega)
 have hd:=rtable_s kok (by omega) (by omega)
 have hyb:y<=64:=by omega
 obtain ⟨B,hB⟩:∃ B,bfs 256 (nextB g k) y (0,0)=B:=⟨_,rfl⟩
 have hprod:prodM g k=B.map fun r=>grOf y (accB g k) r.1 r.2:=by rw [prodM,hgy,hB]
 rw [hprod]
 refine CwpE.cut (st:=⟨[(2,.ref 0 1 0 0),(3,.ref 1 1 0 0),(4,.ref 2 1 0 0),(5,vi 0),(6,.ref 3 1 0 0),(7,.ref 4 1 0 0),(8,vi 0)],pre5 a b (auOf g) (auOf k)⟩) ?_ ?_
 ·simp only [go_sem]
  refine callT hpr rfl ?_
  simp only [go_sem]
  exact ⟨_,WkE.kp,rfl⟩
 refine CwpE.cut (st:=⟨[(2,.ref 0 1 0 0),(4,.ref 2 1 0 0),(5,vi 0),(6,.ref 3 1 0 0),(7,.ref 4 1 0 0)],pre5 a b (auOf g) (auOf k)⟩) ?_ ?_
 ·simp only [go_sem]
  exact ⟨_,WkE.kp,rfl⟩
 refine CwpE.cut (st:=⟨[(2,.ref 0 1 0 0),(4,.ref 2 1 0 0),(5,vi 0),(6,.ref 3 1 0 0),(7,.ref 4 1 0 0),(9,vrows g.to)],pre5 a b (auOf g) (auOf k)⟩) ?_ ?_
 ·simp only [go_sem]
  refine callT hc rfl ?_
  simp only [go_sem]
  exact ⟨_,WkE.kp,rfl⟩
 refine CwpE.cut (st:=⟨[(2,.ref 0 1 0 0),(4,.ref 2 1 0 0),(5,vi 0),(6,.ref 3 1 0 0),(7,.ref 4 1 0 0),(9,vrows g.to),(10,vrows k.to)],pre5 a b (auOf g) (auOf k)⟩) ?_ ?_
 ·simp only [go_sem]
  refine callT hd rfl ?_
  simp only [go_sem]
  exact ⟨_,WkE.kp,rfl⟩
 refine CwpE.seqJ (fun st=>st=⟨[(2,.ref 0 1 0 0),(4,.ref 2 1 0 0),(5,vi 0),(6,.ref 3 1 0 0),(7,.ref 4 1 0 0),(9,vrows g.to),(10,vrows k.to),(11,.own 5 1 0 1)],[oB a,oB b,.arr 1 3 26 [nil3],oB (auOf g),oB (auOf k),.arr 1 2 109 [vpair (0,0)]]⟩) ?_ ?_
 ·refine CwpE.regionC (csa:=[⟨some 33,none,.build [(.val (.int .i64 0)),(.val (.int .i64 0))] [(0,(1,(kk 0))),(1,(1,(kk 0)))]⟩]) (csb:=[⟨some 11,none,.mov (T 34)⟩]) (by omega) (by decide) ?_
  simp only [go_sem]
  refine ⟨_,WkE.keep (env':=[(2,.ref 0 1 0 0),(4,.ref 2 1 0 0),(5,vi 0),(6,.ref 3 1 0 0),(7,.ref 4 1 0 0),(9,vrows g.to),(10,vrows k.to),(34,.own 5 1 0 1)]) (by simp only [go_sem];try rfl),?_⟩
  simp only [go_sem]
  exact ⟨_,WkE.kp,rfl⟩
 rintro _ rfl
 refine CwpE.cut (st:=⟨[(2,.ref 0 1 0 0),(4,.ref 2 1 0 0),(5,vi 0),(6,.ref 3 1 0 0),(7,.ref 4 1 0 0),(9,vrows g.to),(10,vrows k.to),(11,.own 5 1 0 1),(12,.ref 6 1 0 0)],objsP (pre5 a b (auOf g) (auOf k)) a.sy [(0,0)] [] []⟩) ?_ ?_
 ·simp only [go_sem]
  refine ⟨_,(WkE.nilCell 6 1 3 0 1 1 4 26 _ (.agg [vi a.sy,.val (.slice none 0 0),.val (.slice none 0 0)]) rfl rfl rfl).trans ((WkE.nilCell 6 1 3 0 2 3 71 26 _ (.agg [vi a.sy,.own 7 0 0 0,.val (.slice none 0 0)]) rfl rfl rfl).trans (WkE.kp)),rfl⟩
 have hB0:B=bfsGo 256 (nextB g k) y 257 [(0,0)] []:=by rw [<-hB];rfl
 have hIn0:InP g k (0,0):=⟨by omega,by have:=gok.n;simp only;omega,by omega,by have:=kok.n;simp only;omega⟩
 have accl:∀ p:PI,(auOf g).acc=g.acc:=fun _=>rfl
 refine CwpE.seqJ (fun z=>∃ (L:List PI) (rows:List (List Int)),B=some (L,rows)/\z=⟨[(4,.ref 2 1 0 0),(12,.ref 6 1 0 0)],objsP (pre5 a b (auOf g) (auOf k)) a.sy L (L.map (accB g k)) (edAll 0 rows)⟩) ?_ ?_
 rotate_left
 ·rintro _ ⟨L,rows,hBs,rfl⟩
  obtain ⟨o1,o2,o3⟩:=@bfs_ok PI _ 256 (by omega) (nextB g k) y (0,0) _ _ (hB.trans hBs)
  rw [hBs]
  simp only [Option.map_some]
  have hl1:1<=L.length:=by have:=o3.length_le;simpa using this
  have hgo:=grOf_ok (acc:=accB g k) o1 o2 hl1
  have hlen:(grOf y (accB g k) L rows).acc.length<=256:=by show (L.map _).length<=256;rw [List.length_map];exact o1.most
  have hau:auOf (grOf y (accB g k) L rows)=⟨a.sy,L.map (accB g k),edAll 0 rows⟩:=by rw [hy];rfl
  have hGs:(grOf y (accB g k) L rows).sy=y:=rfl
  have hls:=rLeast_s (grOf y (accB g k) L rows) hgo (by omega) (by omega)
  have hll:=leastR_lang hgo (by omega)
  generalize grOf y (accB g k) L rows=G at hgo hlen hGs hls hll hau ⊢
  have hck:=checked_s (auOf (leastR G)) (szA_of hll.1 (by omega) (by have:(leastR G).sy=G.sy:=rfl;omega))
  rw [checkedM]
  refine CwpE.wk (s':=⟨[(4,.ref 2 1 0 0),(12,.ref 6 1 0 0)],[oB a,oB b,.arr 1 3 26 [nil3],oB (auOf g),oB (auOf k),.arr L.length 2 109 (L.map vpair),oB (auOf G),.dead,.dead]⟩) (by rw [hau,objsP_eq];exact freeze2 [oB a,oB b,.arr 1 3 26 [nil3],oB (auOf g),oB (auOf k),.arr L.length 2 109 (L.map vpair)] 6 rfl a.sy (L.map (accB g k)) (edAll 0 rows)) ?_
  refine CwpE.vc ?_
  simp only [go_sem]
  refine callT hls rfl ?_
  simp only [go_sem]
  refine callT hck rfl ?_
  simp only [go_sem]
  exact snap_tup2 (.tree _ rfl) (.tree _ rfl)
 refine CwpE.cut (st:=⟨[(2,.ref 0 1 0 0),(4,.ref 2 1 0 0),(5,vi 0),(6,.ref 3 1 0 0),(7,.ref 4 1 0 0),(9,vrows g.to),(10,vrows k.to),(11,.own 5 1 0 1),(12,.ref 6 1 0 0),(13,vi (0:Nat))],objsP (pre5 a b (auOf g) (auOf k)) a.sy [(0,0)] [] []⟩) ?_ ?_
 ·simp only [go_sem]
  exact ⟨_,WkE.kp,rfl⟩
 refine CwpE.block ?_
 refine loopXC 0 (fun m z=>∃ (i:Nat) (L:List PI) (rows:List (List Int)),m=257-i/\rows.length=i/\i<=L.length/\L.length<=256/\L.Nodup/\(∀ t ∈ L,InP g k t)/\(∀ r ∈ rows,r.length=y)/\B=bfsGo 256 (nextB g k) y (257-i) L rows /\
  z=⟨[(2,.ref 0 1 0 0),(4,.ref 2 1 0 0),(5,vi 0),(6,.ref 3 1 0 0),(7,.ref 4 1 0 0),(9,vrows g.to),(10,vrows k.to),(11,.own 5 L.length 0 L.length),(12,.ref 6 1 0 0),(13,vi i)],objsP (pre5 a b (auOf g) (auOf k)) a.sy L ((L.take i).map (accB g k)) (edAll 0 rows)⟩)
  (fun z=>∃ (L:List PI) (rows:List (List Int)),B=some (L,rows)/\z=⟨[(4,.ref 2 1 0 0),(12,.ref 6 1 0 0)],objsP (pre5 a b (auOf g) (auOf k)) a.sy L (L.map (accB g k)) (edAll 0 rows)⟩) 257
  _ (.refl _ _) ⟨0,[(0,0)],[],rfl,rfl,by simp,by simp,by simp,fun t ht=>by rw [List.mem_singleton.1 ht];exact hIn0,fun r hr=>by simp at hr,hB0,rfl⟩ ?_ ?_
 rotate_left
 ·rintro z h
  simp only [inBlockE,if_true]
  exact ⟨z,.refl _ _,h⟩
 rintro m z ⟨i,L,rows,rfl,hri,hiL,hL,hLd,hLn,hrl,hBi,rfl⟩
 by_cases hlt:i<L.length
 rotate_left
 ·have gk:¬ (i:Int)<(L.length:Int):=by omega
  rw [bfsGo_end (by omega)] at hBi
  refine CwpE.vc ?_
  rw [objsP_eq]
  simp only [go_sem,gk,List.length_map]
  refine ⟨⟨[(4,.ref 2 1 0 0),(12,.ref 6 1 0 0)],objsP (pre5 a b (auOf g) (auOf k)) a.sy L (L.map (accB g k)) (edAll 0 rows)⟩,?_,L,rows,hBi,rfl⟩
  rw [List.take_of_length_le (by omega),objsP_eq]
  simp only [List.length_map]
  exact WkE.kp
 have hf:257-i=(257-(i+1))+1:=by omega
 rw [hf,bfsGo_step (by omega)] at hBi
 have hnx:nextB g k L[rows.length]=nextB g k L[i]:=by simp only [hri]
 rw [hnx] at hBi
 have g1:(i:Int)<(L.length:Int):=by omega
 have g0:(0:Int)<=(i:Int):=by omega
 have wi:=wrap_s i (by omega)
 have hLi:=pairs_get hlt
 have hLin:=hLn _ (List.getElem_mem hlt)
 have hedl:=edAll_len rows 0 (m:=y) (fun r hr=>Nat.le_of_eq (hrl r hr))
 have hedb:(edAll 0 rows).length<=16384:=Nat.le_trans hedl (Nat.le_trans (Nat.mul_le_mul (show rows.length<=256 by omega) (show y<=64 by omega)) (by omega))
 have hAl:((L.take i).map (accB g k)).length=i:=by simp;omega
 have hA1:((L.take i).map (accB g k))++[accB g k L[i]]=(L.take (i+1)).map (accB g k):=by
  rw [List.take_succ_eq_append_getElem hlt,List.map_append];rfl
 have qa:(i+1)*1<=140737488355328:=by omega
 obtain ⟨nx,hnxe⟩:∃ nx,nextB g k L[i]=nx:=⟨_,rfl⟩
 rw [hnxe] at hBi
 have nxn:∀ x t,nx x=some t->InP g k t:=fun x t h=>by
  rw [<-hnxe] at h
  unfold nextB at h
  split at h
  ·cases h
  ·rename_i hc
   rw [<-Option.some.inj h]
   exact ⟨by simp only;omega,gok.hi _ _,by simp only;omega,kok.hi _ _⟩
 have hpart:∀ x,x<=y->((rowGo nx (List.range x) L).2).length<=((rowGo nx (List.range y) L).2).length:=fun x hx=>(rowGo_part nx hx L).length_le
 have hkeep:∀ x (h:i<((rowGo nx (List.range x) L).2).length),((rowGo nx (List.range x) L).2)[i]=L[i]:=fun x h=>((rowGo_pre nx (List.range x) L).getElem hlt).symm
 have hLxn:∀ x,∀ t ∈ (rowGo nx (List.range x) L).2,InP g k t:=fun x=>rowGo_all nx (fun t=>InP g k t) nxn _ _ hLn
 have hLxd:∀ x,(rowGo nx (List.range x) L).2.Nodup:=fun x=>rowGo_nodup nx _ _ hLd
 obtain ⟨pq,hpq⟩:∃ pq,L[i]=pq:=⟨_,rfl⟩
 rw [hpq] at hLi hLin hA1 hnxe
 have hkeep':∀ x (h:i<((rowGo nx (List.range x) L).2).length),((rowGo nx (List.range x) L).2)[i]=pq:=fun x h=>(hkeep x h).trans hpq
 clear hkeep hpq
 obtain ⟨p,q⟩:=pq
 obtain ⟨p0,p1,q0,q1⟩:=hLin
 simp only at p0 p1 q0 q1
 have hAe:((L.take i).map (accB g k)).map vb++[vb (accB g k (p,q))]=((L.take (i+1)).map (accB g k)).map vb:=by
  rw [<-hA1,List.map_append];rfl
 have hAl1:((L.take (i+1)).map (accB g k)).length=i+1:=by simp;omega
 refine CwpE.cut (st:=⟨[(2,.ref 0 1 0 0),(4,.ref 2 1 0 0),(5,vi 0),(6,.ref 3 1 0 0),(7,.ref 4 1 0 0),(9,vrows g.to),(10,vrows k.to),(11,.own 5 L.length 0 L.length),(12,.ref 6 1 0 0),(13,vi i)],objsP (pre5 a b (auOf g) (auOf k)) a.sy L ((L.take i).map (accB g k)) (edAll 0 rows)⟩) ?_ ?_
 ·rw [objsP_eq]
  simp only [go_sem,g1,List.length_map]
  exact ⟨_,WkE.kp,rfl⟩
 obtain ⟨E0,hE0⟩:∃ E0,edAll 0 rows=E0:=⟨_,rfl⟩
 rw [hE0] at hedb ⊢
 refine CwpE.seqJ (fun z=>((rowGo nx (List.range y) L).2).length<=256 /\
  z=⟨[(2,.ref 0 1 0 0),(4,.ref 2 1 0 0),(5,vi 0),(6,.ref 3 1 0 0),(7,.ref 4 1 0 0),(9,vrows g.to),(10,vrows k.to),(11,.own 5 ((rowGo nx (List.range y) L).2).length 0 ((rowGo nx (List.range y) L).2).length),(12,.ref 6 1 0 0),(13,vi i)],objsP (pre5 a b (auOf g) (auOf k)) a.sy ((rowGo nx (List.range y) L).2) ((L.take (i+1)).map (accB g k)) (E0++edRow (i:Int) 0 (rowGo nx (List.range y) L).1)⟩) (CwpE.block ?_) ?_
 rotate_left
 ·rintro z ⟨h256,rfl⟩
  refine CwpE.vc ?_
  simp only [go_sem,wi]
  refine ⟨257-(i+1),⟨[(2,.ref 0 1 0 0),(4,.ref 2 1 0 0),(5,vi 0),(6,.ref 3 1 0 0),(7,.ref 4 1 0 0),(9,vrows g.to),(10,vrows k.to),(11,.own 5 ((rowGo nx (List.range y) L).2).length 0 ((rowGo nx (List.range y) L).2).length),(12,.ref 6 1 0 0),(13,vi (i+1:Nat))],objsP (pre5 a b (auOf g) (auOf k)) a.sy ((rowGo nx (List.range y) L).2) ((L.take (i+1)).map (accB g k)) (E0++edRow (i:Int) 0 (rowGo nx (List.range y) L).1)⟩,by omega,WkE.kp,i+1,(rowGo nx (List.range y) L).2,rows++[(rowGo nx (List.range y) L).1],rfl,by simp [hri],?_,h256,hLxd y,hLxn y,?_,?_,?_⟩
  ·have:=(rowGo_pre nx (List.range y) L).length_le;omega
  ·intro r hr
   rcases List.mem_append.1 hr with hr | hr
   ·exact hrl r hr
   ·rw [List.mem_singleton.1 hr,rowGo_len,List.length_range]
  ·rw [hBi,if_neg (by omega)]
  ·have e1:edAll 0 (rows++[(rowGo nx (List.range y) L).1])=E0++edRow (i:Int) 0 (rowGo nx (List.range y) L).1:=by rw [edAll_snoc,hE0,hri,Nat.zero_add]
   have e2:((rowGo nx (List.range y) L).2.take (i+1)).map (accB g k)=(L.take (i+1)).map (accB g k):=by
    obtain ⟨r,hr⟩:=rowGo_pre nx (List.range y) L
    rw [<-hr,List.take_append_of_le_length (by omega)]
   rw [e1,e2]
 have ba:=bt_get (s:=g.acc) (k:=p.toNat) (by omega)
 have bb:=bt_get (s:=k.acc) (k:=q.toNat) (by omega)
 refine CwpE.cut (st:=⟨[(2,.ref 0 1 0 0),(4,.ref 2 1 0 0),(5,vi 0),(6,.ref 3 1 0 0),(7,.ref 4 1 0 0),(9,vrows g.to),(10,vrows k.to),(11,.own 5 L.length 0 L.length),(12,.ref 6 1 0 0),(13,vi i)],objsP (pre5 a b (auOf g) (auOf k)) a.sy L ((L.take (i+1)).map (accB g k)) E0⟩) ?_ ?_
 ·have ha:accB g k (p,q)=(bt g.acc p.toNat && bt k.acc q.toNat):=rfl
  rw [ha] at hAe
  rw [objsP_eq a b (auOf g) (auOf k) a.sy L ((L.take i).map (accB g k)) E0]
  have accg:(auOf g).acc=g.acc:=rfl
  have acck:(auOf k).acc=k.acc:=rfl
  cases hb1:bt g.acc p.toNat with
  | false =>
   rw [hb1] at ba hAe
   rw [Bool.false_and] at hAe
   simp only [go_sem,Int.le_refl,w02,g1,g0,hLi,p0,ba,accg,List.length_map,hAl,hAe,qa,Int.toNat_natCast]
   refine ⟨_,?_,rfl⟩
   rw [objsP_eq,hAl1]
   exact WkE.kp
  | true =>
   rw [hb1] at ba hAe
   rw [Bool.true_and] at hAe
   simp only [go_sem,Int.reduceLE,Int.le_refl,w02,w12,g1,g0,hLi,p0,q0,ba,bb,accg,acck,List.length_map,hAl,hAe,qa,Int.toNat_natCast]
   refine ⟨_,?_,rfl⟩
   rw [objsP_eq,hAl1]
   exact WkE.kp
 obtain ⟨A1,hA1e⟩:∃ A1,((L.take (i+1)).map (accB g k))=A1:=⟨_,rfl⟩
 rw [hA1e] at hAl1 ⊢
 refine CwpE.vc ?_
 simp only [go_sem]
 refine loopX 2 (fun m z=>∃ x:Nat,m=y-x/\x<=y/\((rowGo nx (List.range x) L).2).length<=256 /\
  z=⟨[(2,.ref 0 1 0 0),(4,.ref 2 1 0 0),(5,vi 0),(6,.ref 3 1 0 0),(7,.ref 4 1 0 0),(9,vrows g.to),(10,vrows k.to),(11,.own 5 ((rowGo nx (List.range x) L).2).length 0 ((rowGo nx (List.range x) L).2).length),(12,.ref 6 1 0 0),(13,vi i),(14,vi x)],objsP (pre5 a b (auOf g) (auOf k)) a.sy ((rowGo nx (List.range x) L).2) A1 (E0++edRow (i:Int) 0 (rowGo nx (List.range x) L).1)⟩)
  (fun z=>((rowGo nx (List.range y) L).2).length<=256 /\
   z=⟨[(2,.ref 0 1 0 0),(4,.ref 2 1 0 0),(5,vi 0),(6,.ref 3 1 0 0),(7,.ref 4 1 0 0),(9,vrows g.to),(10,vrows k.to),(11,.own 5 ((rowGo nx (List.range y) L).2).length 0 ((rowGo nx (List.range y) L).2).length),(12,.ref 6 1 0 0),(13,vi i)],objsP (pre5 a b (auOf g) (auOf k)) a.sy ((rowGo nx (List.range y) L).2) A1 (E0++edRow (i:Int) 0 (rowGo nx (List.range y) L).1)⟩) y
  ⟨[(2,.ref 0 1 0 0),(4,.ref 2 1 0 0),(5,vi 0),(6,.ref 3 1 0 0),(7,.ref 4 1 0 0),(9,vrows g.to),(10,vrows k.to),(11,.own 5 L.length 0 L.length),(12,.ref 6 1 0 0),(13,vi i),(14,vi (0:Nat))],objsP (pre5 a b (auOf g) (auOf k)) a.sy L A1 (E0++edRow (i:Int) 0 [])⟩ ?_ ⟨0,by omega,by omega,hL,rfl⟩ ?_ ?_
 ·have e0:E0++edRow (i:Int) 0 []=E0:=by rw [edRow,List.append_nil]
  rw [e0]
  exact WkE.kp
 rotate_left
 ·rintro z h
  simp only [go_sem]
  exact ⟨z,.refl _ _,h⟩
 rintro m z ⟨x,rfl,hx,hL256,rfl⟩
 by_cases hxy:x<y
 rotate_left
 ·obtain rfl:x=y:=by omega
  have gk:¬ (x:Int)<a.sy:=by omega
  rw [objsP_eq]
  simp only [go_sem,gk]
  refine ⟨⟨[(2,.ref 0 1 0 0),(4,.ref 2 1 0 0),(5,vi 0),(6,.ref 3 1 0 0),(7,.ref 4 1 0 0),(9,vrows g.to),(10,vrows k.to),(11,.own 5 ((rowGo nx (List.range x) L).2).length 0 ((rowGo nx (List.range x) L).2).length),(12,.ref 6 1 0 0),(13,vi i)],objsP (pre5 a b (auOf g) (auOf k)) a.sy ((rowGo nx (List.range x) L).2) A1 (E0++edRow (i:Int) 0 (rowGo nx (List.range x) L).1)⟩,?_,hL256,by rw [objsP_eq];simp only [List.length_append]⟩
  rw [objsP_eq]
  simp only [List.length_append]
  exact WkE.kp
 have hp1:=hpart (x+1) (by omega)
 have hlenx:L.length<=((rowGo nx (List.range x) L).2).length:=(rowGo_pre nx (List.range x) L).length_le
 have hrx:((rowGo nx (List.range x) L).1).length=x:=by rw [rowGo_len,List.length_range]
 have hee:=edRow_len (i:Int) (rowGo nx (List.range x) L).1 0
 have hrr:=rowGo_range nx x L
 have hkx:=hkeep' x (by omega)
 have hnd:=hLxd x
 have hnx2:nx x=if gto g p.toNat x<0 \/ gto k q.toNat x<0 then none else some (gto g p.toNat x,gto k q.toNat x):=by rw [<-hnxe];rfl
 obtain ⟨Lx,hLx⟩:∃ Lx,(rowGo nx (List.range x) L).2=Lx:=⟨_,rfl⟩
 obtain ⟨rx,hrxe⟩:∃ rx,(rowGo nx (List.range x) L).1=rx:=⟨_,rfl⟩
 obtain ⟨L1,hL1⟩:∃ L1,(rowGo nx (List.range (x+1)) L).2=L1:=⟨_,rfl⟩
 obtain ⟨r1,hr1⟩:∃ r1,(rowGo nx (List.range (x+1)) L).1=r1:=⟨_,rfl⟩
 simp only [hLx,hrxe,hL1] at hp1 hlenx hrx hee hrr hkx hnd hL256 ⊢
 have gx:(x:Int)<a.sy:=by omega
 have x0:(0:Int)<=(x:Int):=by omega
 have wx:=wrap_s x (by omega)
 have gi:(i:Int)<(Lx.length:Int):=by omega
 have hLxi:(Lx.map vpair)[i]? = some (vpair (p,q)):=by rw [pairs_get (by omega),hkx]
 have hel:(E0++edRow (i:Int) 0 rx).length<=16384+64:=by rw [List.length_append];omega
 obtain ⟨E1,hE1⟩:∃ E1,E0++edRow (i:Int) 0 rx=E1:=⟨_,rfl⟩
 rw [hE1] at hel
 have fin:∀ (st:Est) (L2:List PI) (r2:List Int),L1=L2->r1=r2->L2.length<=256->WkE 145 st ⟨[(2,.ref 0 1 0 0),(4,.ref 2 1 0 0),(5,vi 0),(6,.ref 3 1 0 0),(7,.ref 4 1 0 0),(9,vrows g.to),(10,vrows k.to),(11,.own 5 L2.length 0 L2.length),(12,.ref 6 1 0 0),(13,vi i),(14,vi (x+1:Nat))],objsP (pre5 a b (auOf g) (auOf k)) a.sy L2 A1 (E0++edRow (i:Int) 0 r2)⟩ ->
  ∃ m s',m<y-x/\WkE 145 st s'/\∃ x:Nat,m=y-x/\x<=y/\((rowGo nx (List.range x) L).2).length<=256 /\
  s'=⟨[(2,.ref 0 1 0 0),(4,.ref 2 1 0 0),(5,vi 0),(6,.ref 3 1 0 0),(7,.ref 4 1 0 0),(9,vrows g.to),(10,vrows k.to),(11,.own 5 ((rowGo nx (List.range x) L).2).length 0 ((rowGo nx (List.range x) L).2).length),(12,.ref 6 1 0 0),(13,vi i),(14,vi x)],objsP (pre5 a b (auOf g) (auOf k)) a.sy ((rowGo nx (List.range x) L).2) A1 (E0++edRow (i:Int) 0 (rowGo nx (List.range x) L).1)⟩:=by
  rintro st L2 r2 rfl rfl h256 hst
  exact ⟨y-(x+1),_,by omega,hst,x+1,rfl,by omega,by rw [hL1];exact h256,by rw [hL1,hr1]⟩
 rw [hE1,objsP_eq a b (auOf g) (auOf k) a.sy Lx A1 E1]
 have rw1:=row_get gok (i:=p.toNat) (by omega)
 have rw2:=row_get kok (i:=q.toNat) (by omega)
 have t1:=gto_get gok (i:=p.toNat) (x:=x) (by omega) (by omega)
 have t2:=gto_get kok (i:=q.toNat) (x:=x) (by omega) (by omega)
 have u1:=gok.lo p.toNat x
 have u2:=kok.lo q.toNat x
 obtain ⟨u,hu⟩:∃ u,gto g p.toNat x=u:=⟨_,rfl⟩
 obtain ⟨v,hv⟩:∃ v,gto k q.toNat x=v:=⟨_,rfl⟩
 rw [hu] at t1 hnx2 u1
 rw [hv] at t2 hnx2 u2
 have e1:∀ p:Nat,edRow (i:Int) 0 (rx++[(p:Int)])=edRow (i:Int) 0 rx++[((i:Int),(x:Int),(p:Int))]:=fun p=>by
  rw [edRow_snoc,if_neg (by omega),Nat.zero_add,hrx]
 have e0:edRow (i:Int) 0 (rx++[-1])=edRow (i:Int) 0 rx:=by rw [edRow_snoc,if_pos (by omega),List.append_nil]
 by_cases hn:u<0 \/ v<0
 ·rw [if_pos hn] at hnx2
  rw [hnx2] at hrr
  simp only [hL1,hr1,Prod.ext_iff] at hrr
  by_cases hu0:u<0
  ·simp only [go_sem,Int.reduceLE,Int.reduceNeg,Int.le_refl,gx,gi,g0,w02,w12,hLxi,p0,q0,rw1,rw2,x0,t1,t2,hu0,wx,Int.toNat_natCast]
   refine fin _ Lx (rx++[-1]) hrr.2 hrr.1 hL256 ?_
   rw [e0,hE1]
   exact WkE.round (by simp only [go_sem];try rfl) rfl (objsP_inn _ _ _ _ _ _ _ _) rfl
  ·have hv0:v<0:=by omega
   simp only [go_sem,Int.reduceLE,Int.reduceNeg,Int.le_refl,gx,gi,g0,w02,w12,hLxi,p0,q0,rw1,rw2,x0,t1,t2,hu0,hv0,wx,Int.toNat_natCast]
   refine fin _ Lx (rx++[-1]) hrr.2 hrr.1 hL256 ?_
   rw [e0,hE1]
   exact WkE.round (by simp only [go_sem];try rfl) rfl (objsP_inn _ _ _ _ _ _ _ _) rfl
 rw [if_neg hn] at hnx2
 rw [hnx2] at hrr
 simp only [hL1,hr1,Prod.ext_iff] at hrr
 have hu0:¬ u<0:=fun h=>hn (.inl h)
 have hv0:¬ v<0:=fun h=>hn (.inr h)
 obtain ⟨pos,hpos⟩:∃ pos,posF Lx (u,v)=pos:=⟨_,rfl⟩
 rw [hpos] at hrr
 have hple:=posF_le Lx (u,v)
 rw [hpos] at hple
 have qe:(E1.length+1)*24<=140737488355328:=by omega
 have ql:(Lx.length+1)*16<=140737488355328:=by omega
 have hE2:E0++edRow (i:Int) 0 (rx++[(pos:Int)])=E1++[((i:Int),(x:Int),(pos:Int))]:=by rw [e1,<-List.append_assoc,hE1]
 simp only [go_sem,Int.reduceLE,Int.reduceNeg,Int.le_refl,gx,gi,g0,w02,w12,hLxi,p0,q0,rw1,rw2,x0,t1,t2,hu0,hv0,Int.toNat_natCast]
 refine loopX 4 (fun m z=>∃ j:Nat,m=Lx.length-j/\j<=Lx.length /\
  z=⟨[(2,.ref 0 1 0 0),(4,.ref 2 1 0 0),(5,vi 0),(6,.ref 3 1 0 0),(7,.ref 4 1 0 0),(9,vrows g.to),(10,vrows k.to),(11,.own 5 Lx.length 0 Lx.length),(12,.ref 6 1 0 0),(13,vi i),(14,vi x),(15,.ref 9 1 0 0),(16,vi (if pos<j then pos else -1)),(17,vi j)],objsP (pre5 a b (auOf g) (auOf k)) a.sy Lx A1 E1++[.arr 1 2 109 [vpair (u,v)]]⟩)
  (fun z=>z=⟨[(2,.ref 0 1 0 0),(4,.ref 2 1 0 0),(5,vi 0),(6,.ref 3 1 0 0),(7,.ref 4 1 0 0),(9,vrows g.to),(10,vrows k.to),(11,.own 5 Lx.length 0 Lx.length),(12,.ref 6 1 0 0),(13,vi i),(14,vi x),(15,.ref 9 1 0 0),(16,vi (if pos<Lx.length then pos else -1))],objsP (pre5 a b (auOf g) (auOf k)) a.sy Lx A1 E1++[.arr 1 2 109 [vpair (u,v)]]⟩) Lx.length
  ⟨[(2,.ref 0 1 0 0),(4,.ref 2 1 0 0),(5,vi 0),(6,.ref 3 1 0 0),(7,.ref 4 1 0 0),(9,vrows g.to),(10,vrows k.to),(11,.own 5 Lx.length 0 Lx.length),(12,.ref 6 1 0 0),(13,vi i),(14,vi x),(15,.ref 9 1 0 0),(16,vi (-1)),(17,vi (0:Nat))],objsP (pre5 a b (auOf g) (auOf k)) a.sy Lx A1 E1++[.arr 1 2 109 [vpair (u,v)]]⟩ ?_ ⟨0,by omega,by omega,by rw [if_neg (by omega)]⟩ ?_ ?_
 ·exact WkE.kp
 rotate_left
 ·rintro z rfl
  rw [objsP_eq a b (auOf g) (auOf k) a.sy Lx A1 E1]
  by_cases hk:pos<Lx.length
  ·have hk1:addK Lx (u,v)=Lx:=by rw [addK,if_pos (by omega)]
   rw [hk1] at hrr
   rw [if_pos hk]
   have hnl:¬ ((pos:Nat):Int)<0:=by omega
   have g256:¬ (256:Int)<(Lx.length:Int):=by omega
   simp only [go_sem,hnl,qe,wx,g256]
   refine fin _ Lx (rx++[(pos:Int)]) hrr.2 hrr.1 hL256 ?_
   rw [hE2,objsP_eq]
   simp only [List.length_append,List.length_singleton,List.map_append,List.map_cons,List.map_nil]
   have hi:=objsP_inn a b (auOf g) (auOf k) a.sy Lx A1 (E1++[((i:Int),(x:Int),(pos:Int))])
   rw [objsP_eq] at hi
   simp only [List.length_append,List.length_singleton,List.map_append,List.map_cons,List.map_nil] at hi
   exact WkE.round (by simp only [go_sem];try rfl) rfl hi rfl
  ·have hpe:pos=Lx.length:=by omega
   have hk1:addK Lx (u,v)=Lx++[(u,v)]:=by rw [addK,if_neg (by omega)]
   rw [hk1] at hrr
   rw [if_neg hk]
   have hneg:(-1:Int)<0:=by omega
   by_cases h256:256<Lx.length+1
   ·have hBn:B=none:=by
     rw [hBi,if_pos]
     rw [hrr.2] at hp1
     simp only [List.length_append,List.length_singleton] at hp1
     omega
    have g256:(256:Int)<((Lx.length+1:Nat):Int):=by omega
    rw [hBn]
    simp only [go_sem,hneg,ql,g256,Option.map_none]
    exact snap_tup2 nil_snap (.tree _ rfl)
   ·have g256:¬ (256:Int)<((Lx.length+1:Nat):Int):=by omega
    simp only [go_sem,hneg,qe,ql,wx,g256]
    refine fin _ (Lx++[(u,v)]) (rx++[(pos:Int)]) hrr.2 hrr.1 (by simp;omega) ?_
    rw [hE2,objsP_eq,hpe]
    simp only [List.length_append,List.length_singleton,List.map_append,List.map_cons,List.map_nil]
    have hi:=objsP_inn a b (auOf g) (auOf k) a.sy (Lx++[(u,v)]) A1 (E1++[((i:Int),(x:Int),(Lx.length:Int))])
    rw [objsP_eq] at hi
    simp only [List.length_append,List.length_singleton,List.map_append,List.map_cons,List.map_nil] at hi
    exact WkE.round (by simp only [go_sem];try rfl) rfl hi rfl
 rintro m z ⟨j,rfl,hj,rfl⟩
 by_cases hjF:j<Lx.length
 rotate_left
 ·obtain rfl:j=Lx.length:=by omega
  rw [objsP_eq a b (auOf g) (auOf k) a.sy Lx A1 E1]
  simp only [go_sem,Int.lt_irrefl]
  exact ⟨_,WkE.kp,rfl⟩
 have j1:(j:Int)<(Lx.length:Int):=by omega
 have j0:(0:Int)<=(j:Int):=by omega
 have wj:=wrap_s j (by omega)
 have hFg:=pairs_get hjF
 have hdec:Lx[j]=(u,v) ↔ pos=j:=by
  rw [<-hpos]
  constructor
  ·intro e
   rw [<-e]
   exact posF_nodup hnd j hjF
  ·intro e
   have hlt2:posF Lx (u,v)<Lx.length:=by omega
   have:=posF_get hlt2
   simp only [e] at this
   exact this
 obtain ⟨w,hw⟩:∃ w,Lx[j]=w:=⟨_,rfl⟩
 rw [hw] at hFg hdec
 rw [objsP_eq a b (auOf g) (auOf k) a.sy Lx A1 E1]
 by_cases hpk:pos=j
 ·obtain rfl:=hdec.2 hpk
  simp only [go_sem,j1,j0,hFg,wj,eq_self,decide_true,Int.toNat_natCast]
  exact ⟨Lx.length-(j+1),⟨[(2,.ref 0 1 0 0),(4,.ref 2 1 0 0),(5,vi 0),(6,.ref 3 1 0 0),(7,.ref 4 1 0 0),(9,vrows g.to),(10,vrows k.to),(11,.own 5 Lx.length 0 Lx.length),(12,.ref 6 1 0 0),(13,vi i),(14,vi x),(15,.ref 9 1 0 0),(16,vi j),(17,vi (j+1:Nat))],_⟩,by omega,WkE.kp,j+1,rfl,by omega,by rw [hpk,if_pos (by omega)]⟩
 ·have hne:=mt hdec.1 hpk
  obtain ⟨w1,w2⟩:=w
  have hne':¬ (w1=u/\w2=v):=fun h=>hne (by rw [h.1,h.2])
  simp only [go_sem,j1,j0,hFg,wj,List.cons.injEq,and_true,hne',decide_false,Int.toNat_natCast]
  have hiff:(pos<j+1) ↔ (pos<j):=by omega
  exact ⟨Lx.length-(j+1),⟨[(2,.ref 0 1 0 0),(4,.ref 2 1 0 0),(5,vi 0),(6,.ref 3 1 0 0),(7,.ref 4 1 0 0),(9,vrows g.to),(10,vrows k.to),(11,.own 5 Lx.length 0 Lx.length),(12,.ref 6 1 0 0),(13,vi i),(14,vi x),(15,.ref 9 1 0 0),(16,vi (if pos<j then pos else -1)),(17,vi (j+1:Nat))],_⟩,by omega,WkE.kp,j+1,rfl,by omega,by simp only [hiff]⟩
def objsN (a c:Au) (sy:Int) (A:List Bool) (E:List Edg):List AObj:=[oB a,.arr 1 3 26 [nil3],oB c,.arr 1 3 26 [.agg [vi sy,.own 4 A.length 0 A.length,.own 5 E.length 0 E.length]],.arr A.length 1 4 (A.map vb),.arr E.length 3 71 (E.map vedge)]
theorem objsN_eq (a c:Au) (sy:Int) (A:List Bool) (E:List Edg):objsN a c sy A E=[oB a,.arr 1 3 26 [nil3],oB c,.arr 1 3 26 [.agg [vi sy,.own 4 A.length 0 A.length,.own 5 E.length 0 E.length]],.arr A.length 1 4 (A.map vb),.arr E.length 3 71 (E.map vedge)]:=rfl
theorem gto_out {g:Gr} (h:GrOk g) {i x:Nat} (hi:g.acc.length<=i):gto g i x = -1:=by
 have:g.to.length=g.acc.length:=h.len
 have e:g.to[i]? = none:=List.getElem?_eq_none (by omega)
 rw [gto,List.getD_eq_getElem?_getD,List.getD_eq_getElem?_getD,e];simp
set_option maxHeartbeats 8000000 in
theorem rNot_s (a:Au) (ha:SzA a):Ctr Try.prog 38 [vau a] (vae (P5.notM a)):=by
 refine specC f38 (by simp) fun F0 w0=>?_
 have hfa:=rFixed_s a ha
 unfold P5.notM
 obtain ⟨c,e,hc⟩:∃ c e,fixedM a=(c,e):=⟨_,_,rfl⟩
 have hcn:=fixed_norm (a:=a)
 rw [hc] at hfa hcn ⊢
 simp only at hcn ⊢
 unfold c38
 refine CwpE.cut (st:=⟨[(1,.ref 0 1 0 0),(2,.ref 1 1 0 0),(3,vi 0)],[oB a,.arr 1 3 26 [nil3]]⟩) ?_ ?_
 ·simp only [go_sem]
  exact ⟨_,WkE.kp,rfl⟩
 refine CwpE.cut (st:=⟨[(1,.ref 0 1 0 0),(2,.ref 1 1 0 0),(3,vi 0),(4,.ref 2 1 0 0),(5,vi e)],[oB a,.arr 1 3 26 [nil3],oB c]⟩) ?_ ?_
 ·simp only [go_sem]
  refine callT hfa rfl ?_
  simp only [go_sem]
  exact ⟨_,WkE.kp,rfl⟩
 by_cases he:e=0
 rotate_left
 ·rw [if_neg he]
  refine CwpE.vc ?_
  simp only [go_sem,he]
  exact snap_tup2 nil_snap (.tree _ rfl)
 subst he
 rw [if_pos rfl]
 obtain ⟨va,g,d,h1,h2,h3,h4,h5,_⟩:=hcn rfl
 have hcg:c=auOf g:=(Prod.mk.inj h3).1
 subst hcg
 have gok:=h4.ok
 rw [tab_auOf gok]
 have gn:g.acc.length<=256:=h4.va.n.2
 have gn1:1<=g.acc.length:=h4.va.n.1
 have hsy:=va.sy
 obtain ⟨y,hy⟩:∃ y,g.sy=y:=⟨_,rfl⟩
 have hasy:a.sy=(y:Int):=by
  obtain ⟨q1,q2⟩:=hsy
  rw [hy] at h5
  clear hcn hfa
  omega
 obtain ⟨n,hn⟩:∃ n,g.acc.length=n:=⟨_,rfl⟩
 have hgc:(auOf g).acc=g.acc:=rfl
 have htb:=rtable_s gok (by omega) (by omega)
 have nok:=neg_ok gok
 obtain ⟨N,hN⟩:∃ N,negG g=N:=⟨_,rfl⟩
 have hNl:N.acc.length=n+1:=by rw [<-hN];simp [negG,hn]
 have hNs:N.sy=y:=by rw [<-hN];exact hy
 have hNt:∀ i x,i<=n->x<y->gto N i x=if gto g i x<0 then (n:Int) else gto g i x:=fun i x hi hx=>by rw [<-hN,neg_to gok (by omega) (by omega),hn]
 have hNa:∀ i,i<=n->bt N.acc i = !bt g.acc i:=fun i hi=>by rw [<-hN];exact neg_acc (by omega)
 rw [hN] at nok ⊢
 have hNtl:N.to.length=n+1:=by rw [nok.len,hNl]
 refine CwpE.cut (st:=⟨[(1,.ref 0 1 0 0),(2,.ref 1 1 0 0),(4,.ref 2 1 0 0)],[oB a,.arr 1 3 26 [nil3],oB (auOf g)]⟩) ?_ ?_
 ·simp only [go_sem]
  exact ⟨_,WkE.kp,rfl⟩
 refine CwpE.cut (st:=⟨[(1,.ref 0 1 0 0),(2,.ref 1 1 0 0),(4,.ref 2 1 0 0),(6,vrows g.to)],[oB a,.arr 1 3 26 [nil3],oB (auOf g)]⟩) ?_ ?_
 ·simp only [go_sem]
  refine callT htb rfl ?_
  simp only [go_sem]
  exact ⟨_,WkE.kp,rfl⟩
 refine CwpE.cut (st:=⟨[(1,.ref 0 1 0 0),(2,.ref 1 1 0 0),(4,.ref 2 1 0 0),(6,vrows g.to),(7,vi n)],[oB a,.arr 1 3 26 [nil3],oB (auOf g)]⟩) ?_ ?_
 ·simp only [go_sem,hgc,List.length_map,hn]
  exact ⟨_,WkE.kp,rfl⟩
 refine CwpE.cut (st:=⟨[(1,.ref 0 1 0 0),(2,.ref 1 1 0 0),(4,.ref 2 1 0 0),(6,vrows g.to),(7,vi n),(8,.ref 3 1 0 0)],objsN a (auOf g) a.sy [] []⟩) ?_ ?_
 ·simp only [go_sem]
  refine ⟨_,(WkE.nilCell 3 1 3 0 1 1 4 26 _ (.agg [vi a.sy,.val (.slice none 0 0),.val (.slice none 0 0)]) rfl rfl rfl).trans ((WkE.nilCell 3 1 3 0 2 3 71 26 _ (.agg [vi a.sy,.own 4 0 0 0,.val (.slice none 0 0)]) rfl rfl rfl).trans (WkE.kp)),rfl⟩
 refine CwpE.seqJ (fun z=>z=⟨[(2,.ref 1 1 0 0),(8,.ref 3 1 0 0)],objsN a (auOf g) a.sy N.acc (edAll 0 N.to)⟩) ?_ ?_
 rotate_left
 ·rintro _ rfl
  have hau:auOf N=⟨a.sy,N.acc,edAll 0 N.to⟩:=by rw [auOf,hNs,hasy]
  have hls:=rLeast_s N nok (by omega) (by omega)
  have hll:=leastR_lang nok (by omega)
  have hck:=checked_s (auOf (leastR N)) (szA_of hll.1 (by omega) (by have:(leastR N).sy=N.sy:=rfl;omega))
  rw [checkedM]
  refine CwpE.wk (s':=⟨[(2,.ref 1 1 0 0),(8,.ref 3 1 0 0)],[oB a,.arr 1 3 26 [nil3],oB (auOf g),oB (auOf N),.dead,.dead]⟩) (by rw [hau,objsN_eq];exact freeze2 [oB a,.arr 1 3 26 [nil3],oB (auOf g)] 3 rfl a.sy N.acc (edAll 0 N.to)) ?_
  refine CwpE.vc ?_
  simp only [go_sem]
  refine callT hls rfl ?_
  simp only [go_sem]
  refine callT hck rfl ?_
  simp only [go_sem]
  exact snap_tup2 (.tree _ rfl) (.tree _ rfl)
 refine CwpE.cut (st:=⟨[(1,.ref 0 1 0 0),(2,.ref 1 1 0 0),(4,.ref 2 1 0 0),(6,vrows g.to),(7,vi n),(8,.ref 3 1 0 0),(9,vi (0:Nat))],objsN a (auOf g) a.sy [] []⟩) ?_ ?_
 ·simp only [go_sem]
  exact ⟨_,WkE.kp,rfl⟩
 refine CwpE.block ?_
 refine loopXC 0 (fun m z=>∃ i:Nat,m=n+1-i/\i<=n+1/\z=⟨[(1,.ref 0 1 0 0),(2,.ref 1 1 0 0),(4,.ref 2 1 0 0),(6,vrows g.to),(7,vi n),(8,.ref 3 1 0 0),(9,vi i)],objsN a (auOf g) a.sy (N.acc.take i) (edAll 0 (N.to.take i))⟩)
  (fun z=>z=⟨[(2,.ref 1 1 0 0),(8,.ref 3 1 0 0)],objsN a (auOf g) a.sy N.acc (edAll 0 N.to)⟩) (n+1) _ (.refl _ _) ⟨0,by omega,by omega,rfl⟩ ?_ ?_
 rotate_left
 ·rintro z rfl
  simp only [inBlockE,if_true]
  exact ⟨_,.refl _ _,rfl⟩
 rintro m z ⟨i,rfl,hi,rfl⟩
 by_cases hlt:i<=n
 rotate_left
 ·have gk:¬ (i:Int)<=(n:Int):=by omega
  rw [List.take_of_length_le (by omega),List.take_of_length_le (by omega)]
  refine CwpE.vc ?_
  simp only [go_sem,gk]
  exact ⟨_,WkE.kp,rfl⟩
 have g1:(i:Int)<=(n:Int):=by omega
 have g0:(0:Int)<=(i:Int):=by omega
 have wi:=wrap_s i (by omega)
 have wn:IntKind.i64.wrap ((n:Int)-1)=(n:Int)-1:=wrap_id (by omega) (by omega)
 have hAi:N.acc.take (i+1)=N.acc.take i++[bt N.acc i]:=by
  rw [List.take_succ_eq_append_getElem (by omega)]
  congr 2
  rw [bt,List.getD_eq_getElem?_getD,List.getElem?_eq_getElem (by omega)];rfl
 have hAl:(N.acc.take i).length=i:=by rw [List.length_take];omega
 have hrows:N.to.take (i+1)=N.to.take i++[N.to.getD i []]:=by
  rw [List.take_succ_eq_append_getElem (by omega)]
  congr 2
  rw [List.getD_eq_getElem?_getD,List.getElem?_eq_getElem (by omega)];rfl
 have hrl:(N.to.getD i []).length=y:=by
  rw [List.getD_eq_getElem?_getD,List.getElem?_eq_getElem (by omega)]
  rw [<-hNs];exact nok.row _ (List.getElem_mem _)
 have hEn:edAll 0 (N.to.take (i+1))=edAll 0 (N.to.take i)++edRow (i:Int) 0 (N.to.getD i []):=by
  rw [hrows,edAll_snoc,List.length_take,Nat.min_eq_left (by omega),Nat.zero_add]
 have hEl:=edAll_len (N.to.take i) 0 (m:=y) (fun r hr=>by rw [nok.row r (List.mem_of_mem_take hr),hNs];exact Nat.le_refl _)
 have hEb:(edAll 0 (N.to.take i)).length<=17000:=by
  refine Nat.le_trans hEl (Nat.le_trans (Nat.mul_le_mul (show (N.to.take i).length<=257 by rw [List.length_take];omega) (show y<=64 by omega)) (by omega))
 have hgto:∀ x,x<y->(N.to.getD i []).getD x (-1)=gto N i x:=fun x _=>rfl
 obtain ⟨A1,hA1⟩:∃ A1,N.acc.take (i+1)=A1:=⟨_,rfl⟩
 obtain ⟨A0,hA0⟩:∃ A0,N.acc.take i=A0:=⟨_,rfl⟩
 obtain ⟨E0,hE0⟩:∃ E0,edAll 0 (N.to.take i)=E0:=⟨_,rfl⟩
 obtain ⟨rw',hrw⟩:∃ r,N.to.getD i []=r:=⟨_,rfl⟩
 rw [hA1,hA0] at hAi
 rw [hA0] at hAl
 rw [hE0] at hEb
 rw [hE0,hrw] at hEn
 rw [hrw] at hrl
 simp only [hrw] at hgto
 rw [hA0,hE0]
 have hA1l:A1.length=A0.length+1:=by rw [hAi];simp
 have hA1m:A0.map vb++[vb (bt N.acc i)]=A1.map vb:=by rw [hAi,List.map_append];rfl
 rw [hNa i hlt] at hA1m
 refine CwpE.cut (st:=⟨[(1,.ref 0 1 0 0),(2,.ref 1 1 0 0),(4,.ref 2 1 0 0),(6,vrows g.to),(7,vi n),(8,.ref 3 1 0 0),(9,vi i)],objsN a (auOf g) a.sy A0 E0⟩) ?_ ?_
 ·simp only [go_sem,g1]
  exact ⟨_,WkE.kp,rfl⟩
 refine CwpE.seqJ (fun z=>z=⟨[(1,.ref 0 1 0 0),(2,.ref 1 1 0 0),(4,.ref 2 1 0 0),(6,vrows g.to),(7,vi n),(8,.ref 3 1 0 0),(9,vi i)],objsN a (auOf g) a.sy A1 (E0++edRow (i:Int) 0 rw')⟩) (CwpE.block ?_) ?_
 rotate_left
 ·rintro _ rfl
  refine CwpE.vc ?_
  simp only [go_sem,wi]
  exact ⟨n+1-(i+1),⟨[(1,.ref 0 1 0 0),(2,.ref 1 1 0 0),(4,.ref 2 1 0 0),(6,vrows g.to),(7,vi n),(8,.ref 3 1 0 0),(9,vi (i+1:Nat))],objsN a (auOf g) a.sy A1 (E0++edRow (i:Int) 0 rw')⟩,by omega,WkE.kp,i+1,rfl,by omega,by rw [hA1,hEn]⟩
 refine CwpE.cut (st:=⟨[(1,.ref 0 1 0 0),(2,.ref 1 1 0 0),(4,.ref 2 1 0 0),(6,vrows g.to),(7,vi n),(8,.ref 3 1 0 0),(9,vi i)],objsN a (auOf g) a.sy A1 E0⟩) ?_ ?_
 ·have qa:(A0.length+1)*1<=140737488355328:=by omega
  rw [objsN_eq a (auOf g) a.sy A0 E0]
  by_cases hin:i=n
  ·have hi0:(i:Int)=(n:Int):=by omega
   have hb0:bt g.acc i=false:=by rw [bt,List.getD_eq_getElem?_getD,List.getElem?_eq_none (by omega)];rfl
   rw [hb0] at hA1m
   replace hA1m:A0.map vb++[vb true]=A1.map vb:=hA1m
   simp only [go_sem,hi0,qa,hA1m,List.length_map]
   refine ⟨_,?_,rfl⟩
   rw [objsN_eq,hA1l]
   exact WkE.kp
  ·have hi0:¬ (i:Int)=(n:Int):=by omega
   have hmin:(if (n:Int)-1<(i:Int) then (n:Int)-1 else (i:Int))=(i:Int):=by rw [if_neg (by omega)]
   have hag:=bt_get (s:=g.acc) (k:=i) (by omega)
   have g2:(i:Int)<(n:Int):=by omega
   simp only [go_sem,hi0,wn,hmin,hgc,hag,g0,qa,hA1m,List.length_map,Int.toNat_natCast]
   refine ⟨_,?_,rfl⟩
   rw [objsN_eq,hA1l]
   exact WkE.kp
 refine CwpE.vc ?_
 simp only [go_sem]
 have hrtk:∀ x,x<y->rw'.take (x+1)=rw'.take x++[gto N i x]:=fun x hx=>by
  rw [List.take_succ_eq_append_getElem (by omega),<-hgto x hx]
  congr 2
  rw [List.getD_eq_getElem?_getD,List.getElem?_eq_getElem (by omega)];rfl
 refine loopX 2 (fun m z=>∃ x:Nat,m=y-x/\x<=y/\z=⟨[(1,.ref 0 1 0 0),(2,.ref 1 1 0 0),(4,.ref 2 1 0 0),(6,vrows g.to),(7,vi n),(8,.ref 3 1 0 0),(9,vi i),(10,vi x)],objsN a (auOf g) a.sy A1 (E0++edRow (i:Int) 0 (rw'.take x))⟩)
  (fun z=>z=⟨[(1,.ref 0 1 0 0),(2,.ref 1 1 0 0),(4,.ref 2 1 0 0),(6,vrows g.to),(7,vi n),(8,.ref 3 1 0 0),(9,vi i)],objsN a (auOf g) a.sy A1 (E0++edRow (i:Int) 0 rw')⟩) y
  ⟨[(1,.ref 0 1 0 0),(2,.ref 1 1 0 0),(4,.ref 2 1 0 0),(6,vrows g.to),(7,vi n),(8,.ref 3 1 0 0),(9,vi i),(10,vi (0:Nat))],objsN a (auOf g) a.sy A1 E0⟩ (WkE.kp) ⟨0,by omega,by omega,by rw [List.take_zero,edRow,List.append_nil]⟩ ?_ ?_
 rotate_left
 ·rintro z rfl
  simp only [go_sem]
  exact ⟨_,.refl _ _,rfl⟩
 rintro m z ⟨x,rfl,hx,rfl⟩
 by_cases hxy:x<y
 rotate_left
 ·obtain rfl:x=y:=by omega
  have gk:¬ (x:Int)<a.sy:=by omega
  rw [List.take_of_length_le (by omega),objsN_eq]
  simp only [go_sem,gk]
  exact ⟨_,WkE.kp,rfl⟩
 have gx:(x:Int)<a.sy:=by omega
 have x0:(0:Int)<=(x:Int):=by omega
 have wx:=wrap_s x (by omega)
 have htx:=hNt i x hlt hxy
 have hnn:¬ gto N i x<0:=by rw [htx];split <;> omega
 have hstep:edRow (i:Int) 0 (rw'.take (x+1))=edRow (i:Int) 0 (rw'.take x)++[((i:Int),(x:Int),gto N i x)]:=by
  rw [hrtk x hxy,edRow_snoc,if_neg hnn,List.length_take,Nat.min_eq_left (by omega),Nat.zero_add]
 have hel:=edRow_len (i:Int) (rw'.take x) 0
 rw [List.length_take] at hel
 obtain ⟨E1,hE1⟩:∃ E1,E0++edRow (i:Int) 0 (rw'.take x)=E1:=⟨_,rfl⟩
 obtain ⟨E2,hE2⟩:∃ E2,E0++edRow (i:Int) 0 (rw'.take (x+1))=E2:=⟨_,rfl⟩
 have hE1l:E1.length<=17000+64:=by rw [<-hE1,List.length_append];omega
 have hE12:E2=E1++[((i:Int),(x:Int),gto N i x)]:=by rw [<-hE2,hstep,<-List.append_assoc,hE1]
 have hE2l:E2.length=E1.length+1:=by rw [hE12];simp
 have qe:(E1.length+1)*24<=140737488355328:=by omega
 have fin:∀ st,WkE 97 st ⟨[(1,.ref 0 1 0 0),(2,.ref 1 1 0 0),(4,.ref 2 1 0 0),(6,vrows g.to),(7,vi n),(8,.ref 3 1 0 0),(9,vi i),(10,vi (x+1:Nat))],objsN a (auOf g) a.sy A1 E2⟩->∃ m s',m<y-x/\WkE 97 st s'/\∃ x:Nat,m=y-x/\x<=y/\s'=⟨[(1,.ref 0 1 0 0),(2,.ref 1 1 0 0),(4,.ref 2 1 0 0),(6,vrows g.to),(7,vi n),(8,.ref 3 1 0 0),(9,vi i),(10,vi x)],objsN a (auOf g) a.sy A1 (E0++edRow (i:Int) 0 (rw'.take x))⟩ :=
  fun st hst=>⟨y-(x+1),_,by omega,hst,x+1,rfl,by omega,by rw [hE2]⟩
 rw [hE1,objsN_eq a (auOf g) a.sy A1 E1]
 have hEm:E1.map vedge++[.agg [vi i,vi x,vi (gto N i x)]]=E2.map vedge:=by rw [hE12,List.map_append];rfl
 by_cases hin:i<n
 ·have hi1:(i:Int)<(n:Int):=by omega
  have hmin:(if (n:Int)-1<(i:Int) then (n:Int)-1 else (i:Int))=(i:Int):=by rw [if_neg (by omega)]
  have r1:=row_get gok (i:=i) (by omega)
  have t1:=gto_get gok (i:=i) (x:=x) (by omega) (by omega)
  by_cases hu:gto g i x<0
  ·rw [if_pos hu] at htx
   rw [htx] at hEm
   generalize gto g i x=u at t1 hu
   have hu':¬ 0<=u:=by omega
   simp only [go_sem,gx,hi1,wn,hmin,g0,x0,r1,t1,hu',qe,hEm,wx,List.length_map,Int.toNat_natCast]
   refine fin _ ?_
   rw [objsN_eq,hE2l]
   exact WkE.kp
  ·rw [if_neg hu] at htx
   rw [htx] at hEm
   generalize gto g i x=u at t1 hu hEm
   have hu':0<=u:=by omega
   simp only [go_sem,gx,hi1,wn,hmin,g0,x0,r1,t1,hu',qe,hEm,wx,List.length_map,Int.toNat_natCast]
   refine fin _ ?_
   rw [objsN_eq,hE2l]
   exact WkE.kp
 ·have hi1:¬ (i:Int)<(n:Int):=by omega
  rw [gto_out gok (by omega),if_pos (by omega)] at htx
  rw [htx] at hEm
  simp only [go_sem,gx,hi1,qe,hEm,wx,List.length_map]
  refine fin _ ?_
  rw [objsN_eq,hE2l]
  exact WkE.kp
theorem both_sz (a b:Au):SzA (bothM a b).1:=by
 unfold bothM
 simp only
 split
 ·split
  ·exact nilA_sz
  ·exact checked_sz _
 ·exact nilA_sz
theorem not_sz (a:Au):SzA (P5.notM a).1:=by
 unfold P5.notM
 split
 ·exact checked_sz _
 ·exact nilA_sz
set_option maxHeartbeats 4000000 in
theorem AutomatonCombines_s (l m:List Int) (symbols at' how by':Int) (hl:∀ x ∈ l,I64 x) (hm:∀ x ∈ m,I64 x) (hs:I64 symbols) (ha:I64 at') (hh:I64 how) (hb:I64 by') :
 Ctr Try.prog 8 [vints l,vints m,vi symbols,vi at',vi how,vi by'] (vb true):=by
 refine specC f8 (by simp) fun F0 w0=>?_
 have hp:=pair2_s l m symbols hl hm hs
 obtain ⟨m1,m2⟩:=made_sz l (symN symbols)
 obtain ⟨m3,m4⟩:=made_sz m (symN symbols)
 obtain ⟨m5,m6⟩:=made_sz m 4
 have hbA:=Bent_s (madeM l (symN symbols)) (by omega) (by omega) at' how by' ha hh hb
 have hbB:=Bent_s (madeM m (symN symbols)) (by omega) (by omega) at' how by' ha hh hb
 have hM:=Made_s m hm 4 (by omega) (by omega)
 replace hM:Ctr Try.prog 25 [vints m,vi 4] (vau (madeM m 4)):=hM
 have hz0:SzA (madeM l (symN symbols)):=⟨by omega,by omega⟩
 have hz1:SzA (madeM m (symN symbols)):=⟨by omega,by omega⟩
 have hz4:SzA (madeM m 4):=⟨by omega,by omega⟩
 have hz2:=bent_sz (a:=madeM l (symN symbols)) (by omega) (by omega) at' how by'
 have hz3:=bent_sz (a:=madeM m (symN symbols)) (by omega) (by omega) at' how by'
 generalize madeM l (symN symbols)=A at hp hbA hz0 hz2
 generalize madeM m (symN symbols)=B at hp hbB hz1 hz3
 generalize madeM m 4=M4 at hM hz4
 generalize bentM A at' how by'=A' at hbA hz2
 generalize bentM B at' how by'=B' at hbB hz3
 have hlv:=lives_s
 unfold c8
 refine CwpE.cut (st:=⟨[(0,vints l),(1,vints m),(2,vi symbols),(3,vi at'),(4,vi how),(5,vi by')],[]⟩) ?_ ?_
 ·simp only [go_sem]
  exact ⟨_,WkE.kp,rfl⟩
 refine CwpE.cut (st:=⟨[(1,vints m),(3,vi at'),(4,vi how),(5,vi by'),(13,.ref 0 1 0 0),(14,.ref 1 1 0 0)],[oB A,oB B]⟩) ?_ ?_
 ·simp only [go_sem]
  refine callT hp rfl ?_
  simp only [go_sem]
  exact ⟨_,WkE.kp,rfl⟩
 refine CwpE.cut (st:=⟨[(15,.list 1 [.list 3 [vau A,vau B],.list 3 [vau B,vau A],.list 3 [vau A,vau B'],.list 3 [vau A',vau B],.list 3 [vau A,vau M4]])],[oB A,oB B]⟩) ?_ ?_
 ·simp only [go_sem]
  refine callT hbB rfl ?_
  simp only [go_sem]
  refine callT hbA rfl ?_
  simp only [go_sem]
  refine callT hM rfl ?_
  simp only [go_sem]
  exact ⟨_,WkE.kp,rfl⟩
 refine CwpE.step (fun z=>∃ env objs,z=⟨env,objs⟩) ?_ ?_
 rotate_left
 ·rintro _ ⟨env,objs,rfl⟩
  refine CwpE.wk (s':=⟨[],objs⟩) (WkE.kp) ?_
  refine CwpE.vc ?_
  simp only [go_sem]
  refine callT hlv rfl ?_
  simp only [go_sem]
  exact .tree _ rfl
 have hall:∀ i:Nat,i<5->∃ X Y:Au,SzA X/\SzA Y/\([.list 3 [vau A,vau B],.list 3 [vau B,vau A],.list 3 [vau A,vau B'],.list 3 [vau A',vau B],.list 3 [vau A,vau M4]]:List AV)[i]? = some (.list 3 [vau X,vau Y]):=fun i hi=>by
  match i,hi with
  | 0,_=>exact ⟨A,B,hz0,hz1,rfl⟩
  | 1,_=>exact ⟨B,A,hz1,hz0,rfl⟩
  | 2,_=>exact ⟨A,B',hz0,hz3,rfl⟩
  | 3,_=>exact ⟨A',B,hz2,hz1,rfl⟩
  | 4,_=>exact ⟨A,M4,hz0,hz4,rfl⟩
 have hlen:([.list 3 [vau A,vau B],.list 3 [vau B,vau A],.list 3 [vau A,vau B'],.list 3 [vau A',vau B],.list 3 [vau A,vau M4]]:List AV).length=5:=rfl
 obtain ⟨LL,hLL⟩:∃ LL:List AV,[.list 3 [vau A,vau B],.list 3 [vau B,vau A],.list 3 [vau A,vau B'],.list 3 [vau A',vau B],.list 3 [vau A,vau M4]]=LL:=⟨_,rfl⟩
 rw [hLL] at hall hlen ⊢
 simp only [go_sem]
 refine loopX 0 (fun m z=>∃ i:Nat,m=5-i/\i<=5/\z=⟨[(15,.list 1 LL),(16,vi i)],[oB A,oB B]⟩)
  (fun z=>∃ env objs,z=⟨env,objs⟩) 5 ⟨[(15,.list 1 LL),(16,vi (0:Nat))],[oB A,oB B]⟩ (WkE.kp) ⟨0,by omega,by omega,rfl⟩ ?_ ?_
 rotate_left
 ·rintro z h
  simp only [go_sem]
  exact ⟨z,.refl _ _,h⟩
 rintro k z ⟨i,rfl,hi,rfl⟩
 by_cases hlt:i<5
 rotate_left
 ·have g:¬ (i:Int)<(LL.length:Int):=by omega
  simp only [go_sem,g]
  exact ⟨_,.refl _ _,_,_,rfl⟩
 have g1:(i:Int)<(LL.length:Int):=by omega
 have g0:(0:Int)<=(i:Int):=by omega
 have wi:=wrap_s i (by omega)
 obtain ⟨X,Y,hX,hY,hget⟩:=hall i hlt
 have h1:=ownA_s X hX
 have h2:=ownA_s Y hY
 have h3:=Both_s X Y hX hY
 have h4:=rBoth_s X Y hX hY
 have h5:=Not_s X hX
 have h6:=rNot_s X hX
 have h7:=same_s (bothM X Y).1 (bothM X Y).1 (both_sz X Y) (both_sz X Y)
 have h8:=same_s (P5.notM X).1 (P5.notM X).1 (not_sz X) (not_sz X)
 rw [decide_eq_true rfl] at h7 h8
 generalize bothM X Y=R at h3 h4 h7
 generalize P5.notM X=S at h5 h6 h8
 obtain ⟨R,e⟩:=R
 obtain ⟨S,f⟩:=S
 simp only at h3 h4 h5 h6 h7 h8
 have inn:([oB A,oB B].all fun o=>o.innO 2)=true:=rfl
 have z01:(0:Int)<((2:Nat):Int):=by omega
 have z11:(1:Int)<((2:Nat):Int):=by omega
 simp only [go_sem,Int.reduceLE,Int.le_refl,g1,g0,hget,List.length_cons,List.length_nil,Int.toNat_natCast]
 refine callT h1 rfl ?_
 simp only [go_sem]
 refine callT h2 rfl ?_
 simp only [go_sem]
 refine callT h3 rfl ?_
 simp only [go_sem]
 refine callT h4 rfl ?_
 simp only [go_sem]
 refine callT h1 rfl ?_
 simp only [go_sem]
 refine callT h5 rfl ?_
 simp only [go_sem]
 refine callT h6 rfl ?_
 simp only [go_sem]
 refine callT h7 rfl ?_
 simp only [go_sem]
 refine callT h8 rfl ?_
 simp only [go_sem,wi]
 exact ⟨5-(i+1),⟨[(15,.list 1 LL),(16,vi (i+1:Nat))],[oB A,oB B]⟩,by omega,WkE.round (by simp only [go_sem];try rfl) rfl inn rfl,i+1,rfl,by omega,rfl⟩
end Go.Proofs.Ytjilachpkjlhdaa
