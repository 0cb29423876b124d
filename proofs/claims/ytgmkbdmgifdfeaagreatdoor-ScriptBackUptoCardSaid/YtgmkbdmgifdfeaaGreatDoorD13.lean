/- A part of a proof: ScriptBack. -/
import Derived.Test.YtgmkbdmgifdfeaaGreatDoorD12
set_option linter.unusedVariables false
set_option linter.unusedSimpArgs false
set_option maxRecDepth 10000
namespace Go.Proofs.YtgmkbdmgifdfeaaGreatDoor
open Go Go.Ev
theorem Qa5 {f:FuncId} {fd:Func} {s:SCode} {n:Nat} {rs:List ResultVar} {args:List Value} {m:Mem} {R:OutA→Mem→Prop} (hf:Tryz.prog.funcs[f]? = some fd) (he:fd.body.map Qa2=some s) (hn:fd.ntmps=n) (hr:fd.results.toList=rs)
  (h:wpX tb ⟨f,.normal,none⟩ s (args++List.replicate (n-args.length) undef) [] m (endX tb rs R)):Qaw tb f args m R:=by
 cases hb:fd.body with
 |none=>rw [hb] at he;cases he
 |some c =>
  rw [hb] at he
  exact callsZ (fget hf) hb (Kai he) hn hr h
abbrev tT (n:Nat):Operand:=.tmp n
abbrev zI (n:Int):Operand:=.const (.int .i64 n)
abbrev zU (n:Int):Operand:=.const (.int .u8 n)
abbrev zS (l:List UInt8):Operand:=.const (.string ⟨⟨l⟩⟩)
abbrev zB (b:Bool):Operand:=.const (.bool b)
abbrev jT (n:Nat):SG:=.on n true
abbrev jG (n:Nat):SG:=.on n false
abbrev jM (d x t:Nat)(g:SG:=.no):SOp:=⟨some d,.move (.tmp x),t,g⟩
abbrev jA (d x t:Nat):SOp:=⟨some d,.assign (.tmp x),t,.no⟩
abbrev jK (d:Nat)(x:Operand)(t:Nat):SOp:=⟨some d,.assign x,t,.no⟩
abbrev jF (d t x i:Nat)(g:SG:=.no):SOp:=⟨some d,.fieldAddr t (.tmp x) i,0,g⟩
abbrev jL (d t x:Nat)(g:SG:=.no):SOp:=⟨some d,.load t (.tmp x),t,g⟩
abbrev jN (d x:Nat)(g:SG:=.no):SOp:=⟨some d,.nilCheck (.tmp x),0,g⟩
abbrev jS (t a x:Nat)(g:SG:=.no):SOp:=⟨none,.store t (.tmp a) (.tmp x),0,g⟩
abbrev jB (d:Nat)(o:BinOp)(t:Nat)(x y:Operand)(u v:Nat)(g:SG:=.no):SOp:=⟨some d,.binOp o t x y u,v,g⟩
abbrev jP (d:Nat)(c x y:Operand)(g:SG:=.no):SOp:=⟨some d,.pick c x y,4,g⟩
abbrev jI (d t:Nat)(x y:Operand)(g:SG:=.no):SOp:=⟨some d,.indexAddr t x y,0,g⟩
abbrev jE (d x i t:Nat):SOp:=⟨some d,.extract (.tmp x) i,t,.no⟩
abbrev jZ (d x t:Nat)(g:SG:=.no):SOp:=⟨some d,.call ⟨.builtin .len,#[.tmp x],#[t]⟩,3,g⟩
abbrev jC (d:Nat)(f:Nat)(a:Array Operand)(t:Array TypeId)(u:Nat)(g:SG:=.no):SOp:=⟨some d,.call ⟨.value (.func f),a,t⟩,u,g⟩
abbrev jW (d t:Nat)(g:SG:=.no):SOp:=⟨some d,.alloc t,0,g⟩
abbrev qR (l:List SOp)(s:SCode):SCode:=.seq (.reg l) s
abbrev dM (i d x t:Nat)(g:SG)(e n:List Nat):DOp:=⟨i,some d,.move (.tmp x),t,g,e,n⟩
abbrev dL (i d t x:Nat)(g:SG)(e n:List Nat):DOp:=⟨i,some d,.load t (.tmp x),t,g,e,n⟩
abbrev dF (i d t x k:Nat)(g:SG)(e n:List Nat):DOp:=⟨i,some d,.fieldAddr t (.tmp x) k,0,g,e,n⟩
abbrev dI (i d t:Nat)(x y:Operand)(g:SG)(e n:List Nat):DOp:=⟨i,some d,.indexAddr t x y,0,g,e,n⟩
abbrev dB (i d:Nat)(o:BinOp)(t:Nat)(x y:Operand)(u v:Nat)(g:SG)(e n:List Nat):DOp:=⟨i,some d,.binOp o t x y u,v,g,e,n⟩
noncomputable def s6:SCode:=(qR [⟨(some 2),.box 26 (tT 0),0,.no⟩,
 jK 4 (zB false) 4]
 (.seq (.drw [dL 0 15 26 2 .no [] [2],
 dM 1 16 1 27 .no [] [1],
 ⟨2,(some 17),.call ⟨.value (.func 10),#[(tT 16)],#[27]⟩,27,.no,[1],[16]⟩,
 ⟨3,(some 18),.call ⟨.value (.func 13),#[(tT 15),(tT 17)],#[26,27]⟩,39,.no,[0,2,2],[15,17]⟩,
 dM 4 14 18 39 .no [3] [18],
 ⟨5,(some 19),.extract (tT 14) 0,9,.no,[4],[14]⟩,
 ⟨6,(some 20),.extract (tT 14) 1,38,.no,[4],[14]⟩,
 ⟨7,(some 5),.assign (tT 19),9,.no,[5,3,0,1,2,3,4,5],[19]⟩,
 ⟨8,(some 6),.assign (tT 20),38,.no,[6,7,0,1,2,3,4,5,6,7],[20]⟩])
 (.seq (qR [jM 21 6 38,
 jC 22 15 #[(tT 21)] #[38] 3,
 jB 23 .neq 3 (tT 22) (zI 0) 3 4]
 (.cond (tT 23) (qR [jL 25 26 2,
 jM 26 1 27,
 jC 27 14 #[(tT 25),(tT 26)] #[26,27] 41,
 jM 24 27 41,
 jE 28 24 0 9,
 jE 29 24 1 3,
 jA 7 28 9,
 jA 8 29 3]
 (qR [jM 30 8 3,
 jM 31 6 38,
 jC 32 15 #[(tT 31)] #[38] 3,
 jB 33 .eql 3 (tT 30) (tT 32) 3 4,
 jM 34 33 4,
 jM 35 5 9 (jT 34),
 jB 36 .eql 9 (tT 35) (zS []) 9 4 (jT 34),
 jP 37 (tT 34) (tT 36) (zB false),
 jM 38 37 4,
 jC 39 21 #[] #[] 4 (jT 38),
 jP 40 (tT 38) (tT 39) (zB false),
 jA 4 40 4]
 .ret))
 .skip))
 (qR [jM 42 5 9,
 jC 43 19 #[(tT 42)] #[9] 48,
 jM 41 43 48,
 jE 44 41 0 26,
 jE 45 41 1 27,
 jE 46 41 2 3,
 jE 47 41 3 38,
 jW 9 26,
 jS 26 9 44,
 jA 10 45 27,
 jA 11 46 3,
 jA 6 47 38]
 (.seq (qR [jM 48 6 38,
 jC 49 15 #[(tT 48)] #[38] 3,
 jB 50 .neq 3 (tT 49) (zI 0) 3 4,
 jM 51 50 4,
 jM 52 11 3 (jG 51),
 jB 53 .neq 3 (tT 52) (zI 0) 3 4 (jG 51),
 jP 54 (tT 51) (zB true) (tT 53),
 jM 55 54 4,
 jL 56 26 9 (jG 55),
 jL 57 26 2 (jG 55),
 jB 58 .neq 26 (tT 56) (tT 57) 26 4 (jG 55),
 jP 59 (tT 55) (zB true) (tT 58),
 jM 60 59 4,
 jM 61 10 27 (jG 60),
 jZ 62 61 27 (jG 60),
 jM 63 1 27 (jG 60),
 jZ 64 63 27 (jG 60),
 jB 65 .neq 3 (tT 62) (tT 64) 3 4 (jG 60),
 jP 66 (tT 60) (zB true) (tT 65)]
 (.cond (tT 66) (qR [jK 4 (zB false) 4]
 .ret)
 .skip))
 (.seq (qR [jK 12 (zI 0) 3]
 (.block 0 (.loop (.seq (qR [jM 67 12 3,
 jM 68 10 27,
 jZ 69 68 27,
 jB 70 .lss 3 (tT 67) (tT 69) 3 4]
 (.cond (tT 70) .skip
 (.exit 0)))
 (.seq (.block 1 (.seq (.drw [dM 0 73 10 27 .no [] [10],
 dM 1 74 12 3 .no [] [12],
 dI 2 75 27 (tT 73) (tT 74) .no [0,1] [73,74],
 dF 3 76 36 75 0 .no [2] [75],
 dL 4 77 3 76 .no [3] [76],
 dM 5 78 1 27 .no [] [1],
 dM 6 79 12 3 .no [] [12],
 dI 7 80 27 (tT 78) (tT 79) .no [5,6] [78,79],
 dF 8 81 36 80 0 .no [7] [80],
 dL 9 82 3 81 .no [8] [81],
 dB 10 83 .neq 3 (tT 77) (tT 82) 3 4 .no [4,9] [77,82],
 dM 11 84 83 4 .no [10] [83],
 dM 12 85 10 27 (jG 84) [11] [84,10],
 dM 13 86 12 3 (jG 84) [11] [84,12],
 dI 14 87 27 (tT 85) (tT 86) (jG 84) [12,13,11] [84,85,86],
 dF 15 88 36 87 1 (jG 84) [14,11] [84,87],
 dL 16 89 3 88 (jG 84) [15,11] [84,88],
 dB 17 90 .neq 3 (tT 89) (zI 0) 3 4 (jG 84) [16,11] [84,89],
 dM 18 91 90 4 (jG 84) [17,11,11] [84,90],
 dM 19 92 10 27 (jT 91) [18] [91,10],
 dM 20 93 12 3 (jT 91) [18] [91,12],
 dI 21 94 27 (tT 92) (tT 93) (jT 91) [19,20,18] [91,92,93],
 dF 22 95 36 94 1 (jT 91) [21,18] [91,94],
 dL 23 96 3 95 (jT 91) [22,18] [91,95],
 dM 24 97 1 27 (jT 91) [18] [91,1],
 dM 25 98 12 3 (jT 91) [18] [91,12],
 dI 26 99 27 (tT 97) (tT 98) (jT 91) [24,25,18] [91,97,98],
 dF 27 100 36 99 1 (jT 91) [26,18] [91,99],
 dL 28 101 3 100 (jT 91) [27,18] [91,100],
 dB 29 102 .neq 3 (tT 96) (tT 101) 3 4 (jT 91) [23,28,18] [91,96,101],
 ⟨30,(some 103),.pick (tT 91) (tT 102) (zB false),4,(jG 84),[18,29,11],[84,91,102]⟩,
 ⟨31,(some 104),.pick (tT 84) (zB true) (tT 103),4,.no,[11,30],[84,103]⟩,
 dM 32 105 104 4 .no [31,18] [104],
 dM 33 106 10 27 (jG 105) [32] [105,10],
 dM 34 107 12 3 (jG 105) [32] [105,12],
 dI 35 108 27 (tT 106) (tT 107) (jG 105) [33,34,32] [105,106,107],
 dF 36 109 36 108 5 (jG 105) [35,32] [105,108],
 dL 37 110 29 109 (jG 105) [36,32] [105,109],
 ⟨38,(some 111),.call ⟨.builtin .len,#[(tT 110)],#[29]⟩,3,(jG 105),[37,32],[105,110]⟩,
 dB 39 112 .neq 3 (tT 111) (zI 0) 3 4 (jG 105) [38,32] [105,111],
 dM 40 113 112 4 (jG 105) [39,32,32] [105,112],
 dM 41 114 10 27 (jT 113) [40] [113,10],
 dM 42 115 12 3 (jT 113) [40] [113,12],
 dI 43 116 27 (tT 114) (tT 115) (jT 113) [41,42,40] [113,114,115],
 dF 44 117 36 116 5 (jT 113) [43,40] [113,116],
 dL 45 118 29 117 (jT 113) [44,40] [113,117],
 ⟨46,(some 119),.convert 29 9 (tT 118),9,(jT 113),[45,40],[113,118]⟩,
 dM 47 120 1 27 (jT 113) [40] [113,1],
 dM 48 121 12 3 (jT 113) [40] [113,12],
 dI 49 122 27 (tT 120) (tT 121) (jT 113) [47,48,40] [113,120,121],
 dF 50 123 36 122 5 (jT 113) [49,40] [113,122],
 dL 51 124 29 123 (jT 113) [50,40] [113,123],
 ⟨52,(some 125),.convert 29 9 (tT 124),9,(jT 113),[51,40],[113,124]⟩,
 dB 53 126 .neq 9 (tT 119) (tT 125) 9 4 (jT 113) [46,52,40] [113,119,125],
 ⟨54,(some 127),.pick (tT 113) (tT 126) (zB false),4,(jG 105),[40,53,32],[105,113,126]⟩,
 ⟨55,(some 128),.pick (tT 105) (zB true) (tT 127),4,.no,[32,54],[105,127]⟩])
 (.cond (tT 128) (qR [jK 4 (zB false) 4]
 .ret)
 .skip)))
 (.reg [jM 71 12 3,
 jB 72 .add 3 (tT 71) (zI 1) 3 3,
 jA 12 72 3]))))))
 (qR [jL 130 26 9,
 jM 131 10 27,
 jC 132 13 #[(tT 130),(tT 131)] #[26,27] 39,
 jM 129 132 39,
 jE 133 129 0 9,
 jE 134 129 1 38,
 jA 13 133 9,
 jA 6 134 38]
 (qR [jM 135 6 38,
 jC 136 15 #[(tT 135)] #[38] 3,
 jB 137 .eql 3 (tT 136) (zI 0) 3 4,
 jM 138 137 4,
 jM 139 13 9 (jT 138),
 jM 140 5 9 (jT 138),
 jB 141 .eql 9 (tT 139) (tT 140) 9 4 (jT 138),
 jP 142 (tT 138) (tT 141) (zB false),
 jM 143 142 4,
 jC 144 21 #[] #[] 4 (jT 143),
 jP 145 (tT 143) (tT 144) (zB false),
 jA 4 145 4]
 .ret))))))))
theorem e6:(Tryz.f6.body.map Qa2)=some s6:=by kernel_rfl
noncomputable def s10:SCode:=(qR [⟨(some 2),.assign (.const (.slice none 0 0)),27,.no⟩]
 (qR [⟨(some 3),.assign (.const (.slice none 0 0)),27,.no⟩]
 (.seq (qR [jK 4 (zI 0) 3]
 (.block 0 (.loop (.seq (qR [jM 6 4 3,
 jM 7 0 27,
 jZ 8 7 27,
 jB 9 .lss 3 (tT 6) (tT 8) 3 4]
 (.cond (tT 9) .skip
 (.exit 0)))
 (.seq (.block 1 (qR [jM 12 0 27,
 jM 13 4 3,
 jI 14 27 (tT 12) (tT 13),
 jL 15 36 14,
 jW 5 36,
 jS 36 5 15]
 (qR [⟨(some 16),.buildSlice 29 0 #[],29,.no⟩,
 jF 17 36 5 5,
 jL 18 29 17,
 ⟨(some 19),.call ⟨.builtin .append,#[(tT 16),(tT 18)],#[29,29]⟩,29,.no⟩,
 jF 20 36 5 5,
 jS 29 20 19]
 (qR [⟨(some 21),.buildSlice 34 0 #[],34,.no⟩,
 jF 22 36 5 13,
 jL 23 34 22,
 ⟨(some 24),.call ⟨.builtin .append,#[(tT 21),(tT 23)],#[34,34]⟩,34,.no⟩,
 jF 25 36 5 13,
 jS 34 25 24]
 (.reg [jM 26 3 27,
 jL 27 36 5,
 ⟨(some 28),.buildSlice 27 1 #[(0,(tT 27))],27,.no⟩,
 ⟨(some 29),.call ⟨.builtin .append,#[(tT 26),(tT 28)],#[27,27]⟩,27,.no⟩,
 jA 3 29 27])))))
 (.reg [jM 10 4 3,
 jB 11 .add 3 (tT 10) (zI 1) 3 3,
 jA 4 11 3]))))))
 (qR [jM 30 3 27,
 jA 2 30 27]
 .ret))))
theorem e10:(Tryz.f10.body.map Qa2)=some s10:=by kernel_rfl
noncomputable def s13:SCode:=(qR [⟨(some 2),.box 26 (tT 0),0,.no⟩,
 jK 4 (zS []) 9,
 jK 5 (zI 0) 38]
 (.seq (qR [jM 15 1 27,
 jZ 16 15 27,
 ⟨(some 17),.move (zI 0),3,.no⟩]
 (.block 0 (.loop (qR [jB 18 .lss 3 (tT 17) (tT 16) 3 0]
 (.seq (.cond (tT 18) .skip
 (.exit 0))
 (.seq (.block 1 (qR [jI 19 27 (tT 15) (tT 17),
 jL 20 36 19,
 jW 7 36,
 jS 36 7 20]
 (qR [jL 21 36 7,
 jC 22 25 #[(tT 21)] #[36] 4,
 ⟨(some 23),.unOp .not 4 (tT 22),4,.no⟩]
 (.cond (tT 23) (qR [jK 4 (zS []) 9,
 jK 5 (zI 202) 38]
 .ret)
 .skip))))
 (.reg [jB 24 .add 3 (tT 17) (zI 1) 3 3,
 jM 17 24 3])))))))
 (qR [⟨(some 25),.build 67 #[],67,.no⟩,
 ⟨(some 26),.box 67 (tT 25),62,.no⟩,
 jA 8 26 62]
 (qR [jM 27 8 62,
 jN 28 27,
 jF 29 67 28 0,
 jC 30 26 #[(tT 29),(zS [119,111,114,108,100])] #[65,9] 70]
 (qR [jM 31 8 62,
 jF 32 26 2 1,
 jL 33 3 32,
 jC 34 27 #[(tT 31),(tT 33)] #[62,3] 0]
 (qR [jM 35 8 62,
 jF 36 26 2 2,
 jL 37 3 36,
 jC 38 27 #[(tT 35),(tT 37)] #[62,3] 0]
 (qR [jM 39 8 62,
 jF 40 26 2 3,
 jL 41 22 40,
 jC 42 28 #[(tT 39),(tT 41)] #[62,22] 0]
 (qR [jM 43 8 62,
 jF 44 26 2 0,
 jF 45 24 44 0,
 jL 46 3 45,
 jC 47 27 #[(tT 43),(tT 46)] #[62,3] 0]
 (qR [jM 48 8 62,
 jF 49 26 2 0,
 jF 50 24 49 1,
 jL 51 22 50,
 jC 52 28 #[(tT 48),(tT 51)] #[62,22] 0]
 (qR [jM 53 8 62,
 jF 54 26 2 0,
 jF 55 24 54 2,
 jL 56 22 55,
 jC 57 28 #[(tT 53),(tT 56)] #[62,22] 0]
 (qR [jM 58 8 62,
 jF 59 26 2 0,
 jF 60 24 59 3,
 jL 61 3 60,
 jC 62 27 #[(tT 58),(tT 61)] #[62,3] 0]
 (qR [jM 63 8 62,
 jF 64 26 2 0,
 jF 65 24 64 4,
 jL 66 3 65,
 jC 67 27 #[(tT 63),(tT 66)] #[62,3] 0]
 (qR [jM 68 8 62,
 jF 69 26 2 0,
 jF 70 24 69 5,
 jL 71 3 70,
 jC 72 27 #[(tT 68),(tT 71)] #[62,3] 0]
 (qR [jM 73 8 62,
 jN 74 73,
 jF 75 67 74 0,
 jC 76 29 #[(tT 75),(zU 10)] #[65,5] 69]
 (qR [jC 77 30 #[] #[] 75,
 jA 9 77 75]
 (.seq (qR [jM 78 1 27,
 jZ 79 78 27,
 ⟨(some 80),.move (zI 0),3,.no⟩]
 (.block 2 (.loop (qR [jB 81 .lss 3 (tT 80) (tT 79) 3 0]
 (.seq (.cond (tT 81) .skip
 (.exit 2))
 (.seq (.block 3 (qR [jI 82 27 (tT 78) (tT 80),
 jL 83 36 82,
 jW 11 36,
 jS 36 11 83]
 (.seq (qR [jF 84 36 11 0,
 jL 85 3 84,
 jB 86 .neq 3 (tT 85) (zI 1) 3 4]
 (.cond (tT 86) (.drw [dM 0 87 8 62 .no [] [8],
 ⟨1,(some 88),.nilCheck (tT 87),0,.no,[0],[87]⟩,
 dF 2 89 67 88 0 .no [1] [88],
 dF 3 90 36 11 1 .no [] [11],
 dL 4 91 3 90 .no [3] [90],
 ⟨5,(some 92),.call ⟨.value (.func 31),#[(tT 91)],#[3]⟩,9,.no,[4],[91]⟩,
 dB 6 93 .add 9 (tT 92) (zS [32]) 9 9 .no [5] [92],
 ⟨7,(some 94),.call ⟨.value (.func 26),#[(tT 89),(tT 93)],#[65,9]⟩,70,.no,[2,6,5],[89,93]⟩])
 .skip))
 (qR [jM 95 9 75,
 jF 96 36 11 0,
 jL 97 3 96,
 jI 98 75 (tT 95) (tT 97),
 jL 99 80 98,
 jW 12 80,
 jS 80 12 99]
 (.seq (.drw [dM 0 100 8 62 .no [] [8],
 ⟨1,(some 101),.nilCheck (tT 100),0,.no,[0],[100]⟩,
 dF 2 102 67 101 0 .no [1] [101],
 dF 3 103 80 12 0 .no [] [12],
 dL 4 104 9 103 .no [3] [103],
 ⟨5,(some 105),.call ⟨.value (.func 26),#[(tT 102),(tT 104)],#[65,9]⟩,70,.no,[2,4],[102,104]⟩])
 (.seq (qR [jF 106 80 12 1,
 jL 107 78 106,
 jZ 108 107 78,
 ⟨(some 109),.move (zI 0),3,.no⟩]
 (.block 4 (.loop (qR [jB 110 .lss 3 (tT 109) (tT 108) 3 0]
 (.seq (.cond (tT 110) .skip
 (.exit 4))
 (.seq (.block 5 (qR [jI 111 78 (tT 107) (tT 109),
 jL 112 84 111,
 jW 14 84,
 jS 84 14 112]
 (.reg [jF 113 84 14 1,
 jL 114 82 113,
 jM 115 8 62,
 jL 116 36 11,
 ⟨(some 117),.call ⟨.value (tT 114),#[(tT 115),(tT 116)],#[62,36]⟩,0,.no⟩])))
 (.reg [jB 118 .add 3 (tT 109) (zI 1) 3 3,
 jM 109 118 3])))))))
 (.reg [jM 119 8 62,
 jN 120 119,
 jF 121 67 120 0,
 jC 122 29 #[(tT 121),(zU 10)] #[65,5] 69])))))))
 (.reg [jB 123 .add 3 (tT 80) (zI 1) 3 3,
 jM 80 123 3])))))))
 (.seq (.block 6 (qR [jM 125 8 62,
 jN 126 125,
 jF 127 67 126 1,
 jL 128 4 127,
 jA 124 128 4]
 (.cond (tT 124) (qR [jK 4 (zS []) 9,
 jK 5 (zI 12) 38]
 .ret)
 (qR [jM 130 8 62,
 jN 131 130,
 jF 132 67 131 0,
 jC 133 32 #[(tT 132)] #[65] 3,
 jB 134 .gtr 3 (tT 133) (zI 1048576) 3 4,
 jA 129 134 4]
 (.cond (tT 129) (qR [jK 4 (zS []) 9,
 jK 5 (zI 81) 38]
 .ret)
 .skip)))))
 (qR [jM 135 8 62,
 jN 136 135,
 jF 137 67 136 0,
 jC 138 33 #[(tT 137)] #[65] 9,
 jA 4 138 9,
 jK 5 (zI 0) 38]
 .ret))))))))))))))))))
theorem e13:(Tryz.f13.body.map Qa2)=some s13:=by kernel_rfl
noncomputable def s14:SCode:=(qR [⟨(some 2),.box 26 (tT 0),0,.no⟩,
 jK 4 (zS []) 9,
 jK 5 (zI 0) 3]
 (.seq (qR [jK 6 (zI 0) 3]
 (.block 0 (.loop (.seq (qR [jM 14 6 3,
 jM 15 1 27,
 jZ 16 15 27,
 jB 17 .lss 3 (tT 14) (tT 16) 3 4]
 (.cond (tT 17) .skip
 (.exit 0)))
 (.seq (.block 1 (qR [jM 21 1 27,
 jM 22 6 3,
 jI 23 27 (tT 21) (tT 22),
 jF 24 36 23 0,
 jL 25 3 24,
 jC 26 34 #[(tT 25)] #[3] 89,
 jM 20 26 89,
 jE 27 20 0 88,
 jE 28 20 1 4,
 jW 7 88,
 jS 88 7 27,
 jA 8 28 4]
 (.seq (qR [jM 29 8 4,
 ⟨(some 30),.unOp .not 4 (tT 29),4,.no⟩,
 jM 31 30 4,
 jF 32 88 7 1 (jG 31),
 jL 33 4 32 (jG 31),
 jM 34 33 4 (jG 31),
 jM 35 1 27 (jT 34),
 jM 36 6 3 (jT 34),
 jI 37 27 (tT 35) (tT 36) (jT 34),
 jF 38 36 37 1 (jT 34),
 jL 39 3 38 (jT 34),
 jB 40 .neq 3 (tT 39) (zI 1) 3 4 (jT 34),
 jP 41 (tT 34) (tT 40) (zB false) (jG 31),
 jM 42 41 4 (jG 31),
 jM 43 1 27 (jT 42),
 jM 44 6 3 (jT 42),
 jI 45 27 (tT 43) (tT 44) (jT 42),
 jF 46 36 45 1 (jT 42),
 jL 47 3 46 (jT 42),
 jB 48 .neq 3 (tT 47) (zI 2) 3 4 (jT 42),
 jP 49 (tT 42) (tT 48) (zB false) (jG 31),
 jP 50 (tT 31) (zB true) (tT 49)]
 (.cond (tT 50) (qR [jK 4 (zS []) 9,
 jK 5 (zI 202) 3]
 .ret)
 .skip))
 (qR [jF 51 88 7 3,
 jL 52 9 51,
 jZ 53 52 9,
 jB 54 .gtr 3 (tT 53) (zI 0) 3 4,
 jM 55 54 4,
 jF 56 88 7 3 (jT 55),
 jL 57 9 56 (jT 55),
 ⟨(some 58),.index 9 (tT 57) (zI 0),5,(jT 55)⟩,
 jB 59 .eql 5 (tT 58) (zU 119) 5 4 (jT 55),
 jP 60 (tT 55) (tT 59) (zB false),
 jM 61 60 4,
 jM 62 1 27 (jT 61),
 jM 63 6 3 (jT 61),
 jI 64 27 (tT 62) (tT 63) (jT 61),
 jF 65 36 64 8 (jT 61),
 jL 66 3 65 (jT 61),
 jB 67 .neq 3 (tT 66) (zI 1) 3 4 (jT 61),
 jP 68 (tT 61) (tT 67) (zB false),
 jM 69 68 4,
 jM 70 1 27 (jT 69),
 jM 71 6 3 (jT 69),
 jI 72 27 (tT 70) (tT 71) (jT 69),
 jF 73 36 72 8 (jT 69),
 jL 74 3 73 (jT 69),
 jB 75 .neq 3 (tT 74) (zI 2) 3 4 (jT 69),
 jP 76 (tT 69) (tT 75) (zB false)]
 (.cond (tT 76) (qR [jK 4 (zS []) 9,
 jK 5 (zI 202) 3]
 .ret)
 .skip)))))
 (.reg [jM 18 6 3,
 jB 19 .add 3 (tT 18) (zI 1) 3 3,
 jA 6 19 3]))))))
 (qR [⟨(some 77),.build 93 #[(0,(zS [119,111,114,108,100]))],93,.no⟩,
 ⟨(some 78),.box 93 (tT 77),91,.no⟩,
 jA 9 78 91]
 (qR [jF 79 26 2 0,
 jL 80 24 79,
 jW 10 24,
 jS 24 10 80]
 (qR [jM 81 9 91,
 jF 82 26 2 1,
 jL 83 3 82,
 jC 84 35 #[(tT 81),(tT 83)] #[91,3] 0]
 (qR [jM 85 9 91,
 jF 86 26 2 2,
 jL 87 3 86,
 jC 88 35 #[(tT 85),(tT 87)] #[91,3] 0]
 (.seq (.drw [dM 0 89 9 91 .no [] [9],
 dM 1 90 9 91 .no [] [9],
 ⟨2,(some 91),.nilCheck (tT 90),0,.no,[1],[90]⟩,
 dF 3 92 93 91 0 .no [2] [91],
 dL 4 93 9 92 .no [3] [92],
 dF 5 94 26 2 3 .no [] [2],
 dL 6 95 22 94 .no [5] [94],
 ⟨7,(some 96),.call ⟨.value (.func 36),#[(tT 95)],#[22]⟩,9,.no,[6],[95]⟩,
 dB 8 97 .add 9 (tT 93) (tT 96) 9 9 .no [4,7] [93,96],
 ⟨9,(some 98),.nilCheck (tT 89),0,.no,[0,0,1,2,3,4,5,6,7,8],[89]⟩,
 dF 10 99 93 98 0 .no [9,0,1,2,3,4,5,6,7,8] [98],
 ⟨11,none,.store 9 (tT 99) (tT 97),0,.no,[10,8,7,0,1,2,3,4,5,6,7,8],[99,97]⟩])
 (qR [jM 100 9 91,
 jF 101 24 10 0,
 jL 102 3 101,
 jC 103 35 #[(tT 100),(tT 102)] #[91,3] 0]
 (.seq (.drw [dM 0 104 9 91 .no [] [9],
 dM 1 105 9 91 .no [] [9],
 ⟨2,(some 106),.nilCheck (tT 105),0,.no,[1],[105]⟩,
 dF 3 107 93 106 0 .no [2] [106],
 dL 4 108 9 107 .no [3] [107],
 dF 5 109 24 10 1 .no [] [10],
 dL 6 110 22 109 .no [5] [109],
 ⟨7,(some 111),.call ⟨.value (.func 36),#[(tT 110)],#[22]⟩,9,.no,[6],[110]⟩,
 dB 8 112 .add 9 (tT 108) (tT 111) 9 9 .no [4,7] [108,111],
 dF 9 113 24 10 2 .no [] [10],
 dL 10 114 22 113 .no [9] [113],
 ⟨11,(some 115),.call ⟨.value (.func 36),#[(tT 114)],#[22]⟩,9,.no,[10,7],[114]⟩,
 dB 12 116 .add 9 (tT 112) (tT 115) 9 9 .no [8,11] [112,115],
 ⟨13,(some 117),.nilCheck (tT 104),0,.no,[0,0,1,2,3,4,5,6,7,8,9,10,11,12],[104]⟩,
 dF 14 118 93 117 0 .no [13,0,1,2,3,4,5,6,7,8,9,10,11,12] [117],
 ⟨15,none,.store 9 (tT 118) (tT 116),0,.no,[14,12,11,0,1,2,3,4,5,6,7,8,9,10,11,12],[118,116]⟩])
 (qR [jM 119 9 91,
 jF 120 24 10 3,
 jL 121 3 120,
 jC 122 35 #[(tT 119),(tT 121)] #[91,3] 0]
 (qR [jM 123 9 91,
 jF 124 24 10 4,
 jL 125 3 124,
 jC 126 35 #[(tT 123),(tT 125)] #[91,3] 0]
 (qR [jM 127 9 91,
 jF 128 24 10 5,
 jL 129 3 128,
 jC 130 35 #[(tT 127),(tT 129)] #[91,3] 0]
 (qR [jM 131 9 91,
 jM 132 9 91,
 jN 133 132,
 jF 134 93 133 0,
 jL 135 9 134,
 jB 136 .add 9 (tT 135) (zS [10]) 9 9,
 jN 137 131,
 jF 138 93 137 0,
 jS 9 138 136]
 (.seq (qR [jK 11 (zI 0) 3]
 (.block 2 (.loop (.seq (qR [jM 139 11 3,
 jM 140 1 27,
 jZ 141 140 27,
 jB 142 .lss 3 (tT 139) (tT 141) 3 4]
 (.cond (tT 142) .skip
 (.exit 2)))
 (.seq (.block 3 (qR [jM 146 1 27,
 jM 147 11 3,
 jI 148 27 (tT 146) (tT 147),
 jF 149 36 148 0,
 jL 150 3 149,
 jC 151 34 #[(tT 150)] #[3] 89,
 jM 145 151 89,
 jE 152 145 0 88,
 jE 153 145 1 4,
 jW 12 88,
 jS 88 12 152,
 jA 13 153 4]
 (.drw [dM 0 154 9 91 .no [] [9],
 dL 1 155 88 12 .no [] [12],
 dM 2 156 1 27 .no [] [1],
 dM 3 157 11 3 .no [] [11],
 dI 4 158 27 (tT 156) (tT 157) .no [2,3] [156,157],
 dL 5 159 36 158 .no [4] [158],
 ⟨6,(some 160),.call ⟨.value (.func 37),#[(tT 154),(tT 155),(tT 159)],#[91,88,36]⟩,0,.no,[0,1,5],[154,155,159]⟩])))
 (.reg [jM 143 11 3,
 jB 144 .add 3 (tT 143) (zI 1) 3 3,
 jA 11 144 3]))))))
 (.seq (qR [jM 161 9 91,
 jN 162 161,
 jF 163 93 162 1,
 jL 164 4 163]
 (.cond (tT 164) (qR [jK 4 (zS []) 9,
 jK 5 (zI 12) 3]
 .ret)
 .skip))
 (.seq (qR [jM 165 9 91,
 jN 166 165,
 jF 167 93 166 0,
 jL 168 9 167,
 jZ 169 168 9,
 jB 170 .gtr 3 (tT 169) (zI 1048576) 3 4]
 (.cond (tT 170) (qR [jK 4 (zS []) 9,
 jK 5 (zI 81) 3]
 .ret)
 .skip))
 (qR [jM 171 9 91,
 jN 172 171,
 jF 173 93 172 0,
 jL 174 9 173,
 jA 4 174 9,
 jK 5 (zI 0) 3]
 .ret)))))))))))))))))
theorem e14:(Tryz.f14.body.map Qa2)=some s14:=by kernel_rfl
noncomputable def s15:SCode:=(qR [jK 2 (zI 0) 3]
 (qR [jM 3 0 38,
 jA 2 3 3]
 .ret))
theorem e15:(Tryz.f15.body.map Qa2)=some s15:=by kernel_rfl
noncomputable def s21:SCode:=(qR [jK 0 (zB false) 4]
 (qR [jC 7 19 #[(zS [119,111,114,108,100,32,50,53,54,32,49,54,32,49,48,48,32,54,52,32,49,48,32,50,48,32,50,32,50,32,52,10,10,49,32,99,114,97,115,104,32,49,32,45,50,10,35,32,101,110,100])] #[9] 48,
 jM 6 7 48,
 jE 8 6 0 26,
 jE 9 6 1 27,
 jE 10 6 2 3,
 jE 11 6 3 38,
 jW 1 26,
 jS 26 1 8,
 jA 2 9 27,
 jA 3 10 3,
 jA 4 11 38]
 (.seq (qR [jM 12 4 38,
 jC 13 15 #[(tT 12)] #[38] 3,
 jB 14 .neq 3 (tT 13) (zI 0) 3 4,
 jM 15 14 4,
 jM 16 3 3 (jG 15),
 jB 17 .neq 3 (tT 16) (zI 0) 3 4 (jG 15),
 jP 18 (tT 15) (zB true) (tT 17),
 jM 19 18 4,
 jF 20 26 1 1 (jG 19),
 jL 21 3 20 (jG 19),
 jB 22 .neq 3 (tT 21) (zI 256) 3 4 (jG 19),
 jP 23 (tT 19) (zB true) (tT 22),
 jM 24 23 4,
 jF 25 26 1 0 (jG 24),
 jF 26 24 25 5 (jG 24),
 jL 27 3 26 (jG 24),
 jB 28 .neq 3 (tT 27) (zI 4) 3 4 (jG 24),
 jP 29 (tT 24) (zB true) (tT 28),
 jM 30 29 4,
 jM 31 2 27 (jG 30),
 jZ 32 31 27 (jG 30),
 jB 33 .neq 3 (tT 32) (zI 1) 3 4 (jG 30),
 jP 34 (tT 30) (zB true) (tT 33),
 jM 35 34 4,
 jM 36 2 27 (jG 35),
 jI 37 27 (tT 36) (zI 0) (jG 35),
 jF 38 36 37 0 (jG 35),
 jL 39 3 38 (jG 35),
 jB 40 .neq 3 (tT 39) (zI 14) 3 4 (jG 35),
 jP 41 (tT 35) (zB true) (tT 40),
 jM 42 41 4,
 jM 43 2 27 (jG 42),
 jI 44 27 (tT 43) (zI 0) (jG 42),
 jF 45 36 44 13 (jG 42),
 jL 46 34 45 (jG 42),
 jZ 47 46 34 (jG 42),
 jB 48 .neq 3 (tT 47) (zI 2) 3 4 (jG 42),
 jP 49 (tT 42) (zB true) (tT 48),
 jM 50 49 4,
 jM 51 2 27 (jG 50),
 jI 52 27 (tT 51) (zI 0) (jG 50),
 jF 53 36 52 13 (jG 50),
 jL 54 34 53 (jG 50),
 jI 55 34 (tT 54) (zI 1) (jG 50),
 jL 56 3 55 (jG 50),
 jB 57 .neq 3 (tT 56) (zI (-2)) 3 4 (jG 50),
 jP 58 (tT 50) (zB true) (tT 57)]
 (.cond (tT 58) (qR [jK 0 (zB false) 4]
 .ret)
 .skip))
 (qR [jL 60 26 1,
 jM 61 2 27,
 jC 62 13 #[(tT 60),(tT 61)] #[26,27] 39,
 jM 59 62 39,
 jE 63 59 0 9,
 jE 64 59 1 38,
 jA 5 63 9,
 jA 4 64 38]
 (qR [jM 65 4 38,
 jC 66 15 #[(tT 65)] #[38] 3,
 jB 67 .eql 3 (tT 66) (zI 0) 3 4,
 jM 68 67 4,
 jM 69 5 9 (jT 68),
 jB 70 .eql 9 (tT 69) (zS [119,111,114,108,100,32,50,53,54,32,49,54,32,49,48,48,32,54,52,32,49,48,32,50,48,32,50,32,50,32,52,10,49,32,99,114,97,115,104,32,49,32,45,50,10]) 9 4 (jT 68),
 jP 71 (tT 68) (tT 70) (zB false),
 jA 0 71 4]
 .ret)))))
theorem e21:(Tryz.f21.body.map Qa2)=some s21:=by kernel_rfl
noncomputable def s25:SCode:=(qR [⟨(some 1),.box 36 (tT 0),0,.no⟩,
 jK 2 (zB false) 4]
 (.seq (qR [jF 3 36 1 0,
 jL 4 3 3,
 jB 5 .lss 3 (tT 4) (zI 1) 3 4,
 jM 6 5 4,
 jF 7 36 1 0 (jG 6),
 jL 8 3 7 (jG 6),
 jB 9 .gtr 3 (tT 8) (zI 22) 3 4 (jG 6),
 jP 10 (tT 6) (zB true) (tT 9)]
 (.cond (tT 10) (qR [jK 2 (zB false) 4]
 .ret)
 .skip))
 (.seq (qR [jF 11 36 1 0,
 jL 12 3 11,
 jB 13 .neq 3 (tT 12) (zI 1) 3 4,
 jM 14 13 4,
 jF 15 36 1 1 (jT 14),
 jL 16 3 15 (jT 14),
 jB 17 .neq 3 (tT 16) (zI 1) 3 4 (jT 14),
 jP 18 (tT 14) (tT 17) (zB false),
 jM 19 18 4,
 jF 20 36 1 1 (jT 19),
 jL 21 3 20 (jT 19),
 jB 22 .neq 3 (tT 21) (zI 2) 3 4 (jT 19),
 jP 23 (tT 19) (tT 22) (zB false)]
 (.cond (tT 23) (qR [jK 2 (zB false) 4]
 .ret)
 .skip))
 (qR [jF 24 36 1 0,
 jL 25 3 24,
 jC 26 45 #[(tT 25)] #[3] 4,
 ⟨(some 27),.unOp .not 4 (tT 26),4,.no⟩,
 jM 28 27 4,
 jF 29 36 1 8 (jG 28),
 jL 30 3 29 (jG 28),
 jB 31 .eql 3 (tT 30) (zI 1) 3 4 (jG 28),
 jP 32 (tT 28) (zB true) (tT 31),
 jM 33 32 4,
 jF 34 36 1 8 (jG 33),
 jL 35 3 34 (jG 33),
 jB 36 .eql 3 (tT 35) (zI 2) 3 4 (jG 33),
 jP 37 (tT 33) (zB true) (tT 36),
 jA 2 37 4]
 .ret))))
theorem e25:(Tryz.f25.body.map Qa2)=some s25:=by kernel_rfl
noncomputable def s26:SCode:=(qR [jK 4 (zI 0) 3,
 ⟨(some 5),.assign (.const .nilIface),69,.no⟩]
 (qR [jM 6 0 63,
 jC 7 46 #[(tT 6)] #[63] 0]
 (qR [jM 8 0 63,
 jM 9 0 63,
 jN 10 9,
 jF 11 65 10 1,
 jL 12 29 11,
 jM 13 1 9,
 ⟨(some 14),.call ⟨.builtin .append,#[(tT 12),(tT 13)],#[29,9]⟩,29,.no⟩,
 jN 15 8,
 jF 16 65 15 1,
 jS 29 16 14]
 (qR [jM 17 1 9,
 jZ 18 17 9,
 jA 4 18 3,
 ⟨(some 5),.assign (.const .nilIface),69,.no⟩]
 .ret))))
theorem e26:(Tryz.f26.body.map Qa2)=some s26:=by kernel_rfl
noncomputable def s27:SCode:=(qR [jM 4 0 62,
 jM 5 0 62,
 jN 6 5,
 jF 7 67 6 1,
 jL 8 4 7,
 jM 9 8 4,
 jM 10 1 3 (jG 9),
 jB 11 .gtr 3 (tT 10) (zI 2147483647) 3 4 (jG 9),
 jP 12 (tT 9) (zB true) (tT 11),
 jM 13 12 4,
 jM 14 1 3 (jG 13),
 jB 15 .lss 3 (tT 14) (zI (-2147483648)) 3 4 (jG 13),
 jP 16 (tT 13) (zB true) (tT 15),
 jN 17 4,
 jF 18 67 17 1,
 jS 4 18 16]
 (.reg [jM 19 0 62,
 jM 20 1 3,
 jC 21 31 #[(tT 20)] #[3] 9,
 jC 22 47 #[(tT 19),(tT 21)] #[62,9] 0]))
theorem e27:(Tryz.f27.body.map Qa2)=some s27:=by kernel_rfl
noncomputable def s28:SCode:=(.reg [jM 4 0 62,
 jM 5 1 22,
 jC 6 48 #[(tT 5),(zI 10)] #[22,3] 9,
 jC 7 47 #[(tT 4),(tT 6)] #[62,9] 0])
theorem e28:(Tryz.f28.body.map Qa2)=some s28:=by kernel_rfl
noncomputable def s29:SCode:=(qR [⟨(some 4),.assign (.const .nilIface),69,.no⟩]
 (qR [jM 5 0 63,
 jC 6 46 #[(tT 5)] #[63] 0]
 (qR [jM 7 0 63,
 jM 8 0 63,
 jN 9 8,
 jF 10 65 9 1,
 jL 11 29 10,
 jM 12 1 5,
 ⟨(some 13),.buildSlice 29 1 #[(0,(tT 12))],29,.no⟩,
 ⟨(some 14),.call ⟨.builtin .append,#[(tT 11),(tT 13)],#[29,29]⟩,29,.no⟩,
 jN 15 7,
 jF 16 65 15 1,
 jS 29 16 14]
 (qR [⟨(some 4),.assign (.const .nilIface),69,.no⟩]
 .ret))))
theorem e29:(Tryz.f29.body.map Qa2)=some s29:=by kernel_rfl
noncomputable def s32:SCode:=(qR [jK 2 (zI 0) 3]
 (qR [jM 3 0 63,
 jN 4 3,
 jF 5 65 4 1,
 jL 6 29 5,
 jZ 7 6 29,
 jA 2 7 3]
 .ret))
theorem e32:(Tryz.f32.body.map Qa2)=some s32:=by kernel_rfl
noncomputable def s33:SCode:=(qR [jK 2 (zS []) 9]
 (.seq (.drw [dM 0 3 0 63 .no [] [0],
 ⟨1,(some 4),.nilCheck (tT 3),0,.no,[0],[3]⟩,
 dF 2 5 65 4 1 .no [1] [4],
 dL 3 6 29 5 .no [2] [5],
 ⟨4,(some 7),.call ⟨.builtin .unsafeSliceData,#[(tT 6)],#[29]⟩,122,.no,[3],[6]⟩,
 dM 5 8 0 63 .no [] [0],
 ⟨6,(some 9),.nilCheck (tT 8),0,.no,[5],[8]⟩,
 dF 7 10 65 9 1 .no [6] [9],
 dL 8 11 29 10 .no [7] [10],
 ⟨9,(some 12),.call ⟨.builtin .len,#[(tT 11)],#[29]⟩,3,.no,[8],[11]⟩,
 ⟨10,(some 13),.call ⟨.builtin .unsafeString,#[(tT 7),(tT 12)],#[122,3]⟩,9,.no,[4,9],[7,12]⟩,
 ⟨11,(some 2),.assign (tT 13),9,.no,[10,0,1,2,3,4,5,6,7,8,9,10],[13]⟩])
 .ret))
theorem e33:(Tryz.f33.body.map Qa2)=some s33:=by kernel_rfl
noncomputable def s34:SCode:=(qR [jW 2 88,
 jK 3 (zB false) 4]
 (qR [jC 6 67 #[] #[] 123,
 jA 4 6 123]
 (.seq (qR [jK 5 (zI 0) 3]
 (.block 0 (.loop (.seq (qR [jM 7 5 3,
 jM 8 4 123,
 jZ 9 8 123,
 jB 10 .lss 3 (tT 7) (tT 9) 3 4]
 (.cond (tT 10) .skip
 (.exit 0)))
 (.seq (.block 1 (qR [jM 13 4 123,
 jM 14 5 3,
 jI 15 123 (tT 13) (tT 14),
 jF 16 88 15 2,
 jL 17 3 16,
 jM 18 0 3,
 jB 19 .eql 3 (tT 17) (tT 18) 3 4]
 (.cond (tT 19) (qR [jM 20 4 123,
 jM 21 5 3,
 jI 22 123 (tT 20) (tT 21),
 jL 23 88 22,
 jS 88 2 23,
 jK 3 (zB true) 4]
 .ret)
 .skip)))
 (.reg [jM 11 5 3,
 jB 12 .add 3 (tT 11) (zI 1) 3 3,
 jA 5 12 3]))))))
 (qR [⟨(some 24),.build 88 #[],88,.no⟩,
 jS 88 2 24,
 jK 3 (zB false) 4]
 .ret))))
theorem e34:(Tryz.f34.body.map Qa2)=some s34:=by kernel_rfl
noncomputable def s35:SCode:=(qR [jM 4 0 91,
 jM 5 0 91,
 jN 6 5,
 jF 7 93 6 1,
 jL 8 4 7,
 jM 9 8 4,
 jM 10 1 3 (jG 9),
 jB 11 .gtr 3 (tT 10) (zI 2147483647) 3 4 (jG 9),
 jP 12 (tT 9) (zB true) (tT 11),
 jM 13 12 4,
 jM 14 1 3 (jG 13),
 jB 15 .lss 3 (tT 14) (zI (-2147483648)) 3 4 (jG 13),
 jP 16 (tT 13) (zB true) (tT 15),
 jN 17 4,
 jF 18 93 17 1,
 jS 4 18 16]
 (.drw [dM 0 19 0 91 .no [] [0],
 dM 1 20 0 91 .no [] [0],
 ⟨2,(some 21),.nilCheck (tT 20),0,.no,[1],[20]⟩,
 dF 3 22 93 21 0 .no [2] [21],
 dL 4 23 9 22 .no [3] [22],
 dB 5 24 .add 9 (tT 23) (zS [32]) 9 9 .no [4] [23],
 dM 6 25 1 3 .no [] [1],
 ⟨7,(some 26),.call ⟨.value (.func 31),#[(tT 25)],#[3]⟩,9,.no,[6],[25]⟩,
 dB 8 27 .add 9 (tT 24) (tT 26) 9 9 .no [5,7] [24,26],
 ⟨9,(some 28),.nilCheck (tT 19),0,.no,[0,0,1,2,3,4,5,6,7,8],[19]⟩,
 dF 10 29 93 28 0 .no [9,0,1,2,3,4,5,6,7,8] [28],
 ⟨11,none,.store 9 (tT 29) (tT 27),0,.no,[10,8,7,0,1,2,3,4,5,6,7,8],[29,27]⟩]))
theorem e35:(Tryz.f35.body.map Qa2)=some s35:=by kernel_rfl
noncomputable def s36:SCode:=(qR [jK 2 (zS []) 9]
 (qR [jM 3 0 22,
 jC 4 48 #[(tT 3),(zI 10)] #[22,3] 9,
 jB 5 .add 9 (zS [32]) (tT 4) 9 9,
 jA 2 5 9]
 .ret))
theorem e36:(Tryz.f36.body.map Qa2)=some s36:=by kernel_rfl
noncomputable def s37:SCode:=(qR [⟨(some 4),.box 88 (tT 1),0,.no⟩,
 ⟨(some 5),.box 36 (tT 2),0,.no⟩]
 (.seq (qR [jF 7 88 4 1,
 jL 8 4 7]
 (.cond (tT 8) (.drw [dM 0 9 0 91 .no [] [0],
 dM 1 10 0 91 .no [] [0],
 ⟨2,(some 11),.nilCheck (tT 10),0,.no,[1],[10]⟩,
 dF 3 12 93 11 0 .no [2] [11],
 dL 4 13 9 12 .no [3] [12],
 dF 5 14 36 5 1 .no [] [5],
 dL 6 15 3 14 .no [5] [14],
 ⟨7,(some 16),.call ⟨.value (.func 31),#[(tT 15)],#[3]⟩,9,.no,[6],[15]⟩,
 dB 8 17 .add 9 (tT 13) (tT 16) 9 9 .no [4,7] [13,16],
 dB 9 18 .add 9 (tT 17) (zS [32]) 9 9 .no [8] [17],
 ⟨10,(some 19),.nilCheck (tT 9),0,.no,[0,0,1,2,3,4,5,6,7,8,9],[9]⟩,
 dF 11 20 93 19 0 .no [10,0,1,2,3,4,5,6,7,8,9] [19],
 ⟨12,none,.store 9 (tT 20) (tT 18),0,.no,[11,9,7,0,1,2,3,4,5,6,7,8,9],[20,18]⟩])
 .skip))
 (.seq (.drw [dM 0 21 0 91 .no [] [0],
 dM 1 22 0 91 .no [] [0],
 ⟨2,(some 23),.nilCheck (tT 22),0,.no,[1],[22]⟩,
 dF 3 24 93 23 0 .no [2] [23],
 dL 4 25 9 24 .no [3] [24],
 dF 5 26 88 4 0 .no [] [4],
 dL 6 27 9 26 .no [5] [26],
 dB 7 28 .add 9 (tT 25) (tT 27) 9 9 .no [4,6] [25,27],
 ⟨8,(some 29),.nilCheck (tT 21),0,.no,[0,0,1,2,3,4,5,6,7],[21]⟩,
 dF 9 30 93 29 0 .no [8,0,1,2,3,4,5,6,7] [29],
 ⟨10,none,.store 9 (tT 30) (tT 28),0,.no,[9,7,0,1,2,3,4,5,6,7],[30,28]⟩])
 (.seq (qR [jF 31 88 4 0,
 jL 32 9 31]
 (.block 0 (qR [jB 34 .eql 9 (tT 32) (zS [116,105,99,107]) 9 4,
 jA 33 34 4]
 (.cond (tT 33) (.drw [dM 0 35 0 91 .no [] [0],
 dM 1 36 0 91 .no [] [0],
 ⟨2,(some 37),.nilCheck (tT 36),0,.no,[1],[36]⟩,
 dF 3 38 93 37 0 .no [2] [37],
 dL 4 39 9 38 .no [3] [38],
 dF 5 40 36 5 12 .no [] [5],
 dL 6 41 22 40 .no [5] [40],
 ⟨7,(some 42),.call ⟨.value (.func 36),#[(tT 41)],#[22]⟩,9,.no,[6],[41]⟩,
 dB 8 43 .add 9 (tT 39) (tT 42) 9 9 .no [4,7] [39,42],
 ⟨9,(some 44),.nilCheck (tT 35),0,.no,[0,0,1,2,3,4,5,6,7,8],[35]⟩,
 dF 10 45 93 44 0 .no [9,0,1,2,3,4,5,6,7,8] [44],
 ⟨11,none,.store 9 (tT 45) (tT 43),0,.no,[10,8,7,0,1,2,3,4,5,6,7,8],[45,43]⟩])
 (qR [jB 47 .eql 9 (tT 32) (zS [108,105,115,116,101,110]) 9 4,
 jA 46 47 4]
 (.cond (tT 46) (qR [jM 48 0 91,
 jF 49 36 5 2,
 jL 50 3 49,
 jC 51 35 #[(tT 48),(tT 50)] #[91,3] 0]
 (qR [jM 52 0 91,
 jF 53 36 5 7,
 jF 54 32 53 0,
 jL 55 3 54,
 jC 56 35 #[(tT 52),(tT 55)] #[91,3] 0]
 (.reg [jM 57 0 91,
 jF 58 36 5 7,
 jF 59 32 58 1,
 jL 60 3 59,
 jC 61 35 #[(tT 57),(tT 60)] #[91,3] 0])))
 (.seq (qR [jB 63 .eql 9 (tT 32) (zS [117,110,108,105,115,116,101,110]) 9 4,
 jA 62 63 4]
 (.cond (tT 62) .skip
 (qR [jB 64 .eql 9 (tT 32) (zS [98,101,103,105,110]) 9 4,
 jA 62 64 4]
 (.cond (tT 62) .skip
 (qR [jB 65 .eql 9 (tT 32) (zS [99,101,97,115,101]) 9 4,
 jA 62 65 4]
 (.cond (tT 62) .skip
 (.reg [jB 66 .eql 9 (tT 32) (zS [99,117,114,115,111,114]) 9 4,
 jA 62 66 4])))))))
 (.cond (tT 62) (.reg [jM 67 0 91,
 jF 68 36 5 2,
 jL 69 3 68,
 jC 70 35 #[(tT 67),(tT 69)] #[91,3] 0])
 (qR [jB 72 .eql 9 (tT 32) (zS [115,101,110,100]) 9 4,
 jA 71 72 4]
 (.cond (tT 71) (qR [jM 73 0 91,
 jF 74 36 5 2,
 jL 75 3 74,
 jC 76 35 #[(tT 73),(tT 75)] #[91,3] 0]
 (.drw [dM 0 77 0 91 .no [] [0],
 dM 1 78 0 91 .no [] [0],
 ⟨2,(some 79),.nilCheck (tT 78),0,.no,[1],[78]⟩,
 dF 3 80 93 79 0 .no [2] [79],
 dL 4 81 9 80 .no [3] [80],
 dF 5 82 36 5 3 .no [] [5],
 dL 6 83 22 82 .no [5] [82],
 ⟨7,(some 84),.call ⟨.value (.func 36),#[(tT 83)],#[22]⟩,9,.no,[6],[83]⟩,
 dB 8 85 .add 9 (tT 81) (tT 84) 9 9 .no [4,7] [81,84],
 dF 9 86 36 5 4 .no [] [5],
 dL 10 87 22 86 .no [9] [86],
 ⟨11,(some 88),.call ⟨.value (.func 36),#[(tT 87)],#[22]⟩,9,.no,[10,7],[87]⟩,
 dB 12 89 .add 9 (tT 85) (tT 88) 9 9 .no [8,11] [85,88],
 dB 13 90 .add 9 (tT 89) (zS [32]) 9 9 .no [12] [89],
 dF 14 91 36 5 5 .no [] [5],
 dL 15 92 29 91 .no [14] [91],
 ⟨16,(some 93),.call ⟨.value (.func 68),#[(tT 92)],#[29]⟩,9,.no,[15,11],[92]⟩,
 dB 17 94 .add 9 (tT 90) (tT 93) 9 9 .no [13,16] [90,93],
 ⟨18,(some 95),.nilCheck (tT 77),0,.no,[0,0,1,2,3,4,5,6,7,8,9,10,11,12,13,14,15,16,17],[77]⟩,
 dF 19 96 93 95 0 .no [18,0,1,2,3,4,5,6,7,8,9,10,11,12,13,14,15,16,17] [95],
 ⟨20,none,.store 9 (tT 96) (tT 94),0,.no,[19,17,16,0,1,2,3,4,5,6,7,8,9,10,11,12,13,14,15,16,17],[96,94]⟩]))
 (qR [jB 98 .eql 9 (tT 32) (zS [99,97,110,99,101,108]) 9 4,
 jA 97 98 4]
 (.cond (tT 97) (qR [jM 99 0 91,
 jF 100 36 5 2,
 jL 101 3 100,
 jC 102 35 #[(tT 99),(tT 101)] #[91,3] 0]
 (.drw [dM 0 103 0 91 .no [] [0],
 dM 1 104 0 91 .no [] [0],
 ⟨2,(some 105),.nilCheck (tT 104),0,.no,[1],[104]⟩,
 dF 3 106 93 105 0 .no [2] [105],
 dL 4 107 9 106 .no [3] [106],
 dF 5 108 36 5 6 .no [] [5],
 dL 6 109 22 108 .no [5] [108],
 ⟨7,(some 110),.call ⟨.value (.func 36),#[(tT 109)],#[22]⟩,9,.no,[6],[109]⟩,
 dB 8 111 .add 9 (tT 107) (tT 110) 9 9 .no [4,7] [107,110],
 ⟨9,(some 112),.nilCheck (tT 103),0,.no,[0,0,1,2,3,4,5,6,7,8],[103]⟩,
 dF 10 113 93 112 0 .no [9,0,1,2,3,4,5,6,7,8] [112],
 ⟨11,none,.store 9 (tT 113) (tT 111),0,.no,[10,8,7,0,1,2,3,4,5,6,7,8],[113,111]⟩]))
 (.seq (qR [jB 115 .eql 9 (tT 32) (zS [100,101,108,105,118,101,114]) 9 4,
 jA 114 115 4]
 (.cond (tT 114) .skip
 (qR [jB 116 .eql 9 (tT 32) (zS [100,114,111,112]) 9 4,
 jA 114 116 4]
 (.cond (tT 114) .skip
 (.reg [jB 117 .eql 9 (tT 32) (zS [100,111,117,98,108,101]) 9 4,
 jA 114 117 4])))))
 (.cond (tT 114) (qR [jM 118 0 91,
 jF 119 36 5 8,
 jL 120 3 119,
 jC 121 69 #[(tT 118),(tT 120)] #[91,3] 0]
 (.reg [jM 122 0 91,
 jF 123 36 5 9,
 jL 124 3 123,
 jC 125 35 #[(tT 122),(tT 124)] #[91,3] 0]))
 (qR [jB 127 .eql 9 (tT 32) (zS [116,117,114,110]) 9 4,
 jA 126 127 4]
 (.cond (tT 126) (qR [jM 128 0 91,
 jF 129 36 5 8,
 jL 130 3 129,
 jC 131 69 #[(tT 128),(tT 130)] #[91,3] 0]
 (qR [jM 132 0 91,
 jF 133 36 5 9,
 jL 134 3 133,
 jC 135 35 #[(tT 132),(tT 134)] #[91,3] 0]
 (qR [jM 136 0 91,
 jF 137 36 5 10,
 jL 138 3 137,
 jC 139 35 #[(tT 136),(tT 138)] #[91,3] 0]
 (.drw [dM 0 140 0 91 .no [] [0],
 dM 1 141 0 91 .no [] [0],
 ⟨2,(some 142),.nilCheck (tT 141),0,.no,[1],[141]⟩,
 dF 3 143 93 142 0 .no [2] [142],
 dL 4 144 9 143 .no [3] [143],
 dF 5 145 36 5 11 .no [] [5],
 dL 6 146 33 145 .no [5] [145],
 ⟨7,(some 147),.convert 33 22 (tT 146),22,.no,[6],[146]⟩,
 ⟨8,(some 148),.call ⟨.value (.func 36),#[(tT 147)],#[22]⟩,9,.no,[7],[147]⟩,
 dB 9 149 .add 9 (tT 144) (tT 148) 9 9 .no [4,8] [144,148],
 ⟨10,(some 150),.nilCheck (tT 140),0,.no,[0,0,1,2,3,4,5,6,7,8,9],[140]⟩,
 dF 11 151 93 150 0 .no [10,0,1,2,3,4,5,6,7,8,9] [150],
 ⟨12,none,.store 9 (tT 151) (tT 149),0,.no,[11,9,8,0,1,2,3,4,5,6,7,8,9],[151,149]⟩]))))
 (qR [jB 153 .eql 9 (tT 32) (zS [99,117,116]) 9 4,
 jA 152 153 4]
 (.cond (tT 152) (.reg [jM 154 0 91,
 jF 155 36 5 10,
 jL 156 3 155,
 jC 157 35 #[(tT 154),(tT 156)] #[91,3] 0])
 (qR [jB 159 .eql 9 (tT 32) (zS [99,114,97,115,104]) 9 4,
 jA 158 159 4]
 (.cond (tT 158) (qR [jK 6 (zI 0) 3]
 (.block 1 (.loop (.seq (qR [jM 160 6 3,
 jF 161 36 5 13,
 jL 162 34 161,
 jZ 163 162 34,
 jB 164 .lss 3 (tT 160) (tT 163) 3 4]
 (.cond (tT 164) .skip
 (.exit 1)))
 (.seq (.block 2 (.reg [jM 167 0 91,
 jF 168 36 5 13,
 jL 169 34 168,
 jM 170 6 3,
 jI 171 34 (tT 169) (tT 170),
 jL 172 3 171,
 jC 173 35 #[(tT 167),(tT 172)] #[91,3] 0]))
 (.reg [jM 165 6 3,
 jB 166 .add 3 (tT 165) (zI 1) 3 3,
 jA 6 166 3]))))))
 (.seq (qR [jB 175 .eql 9 (tT 32) (zS [99,108,111,115,101]) 9 4,
 jA 174 175 4]
 (.cond (tT 174) .skip
 (qR [jB 176 .eql 9 (tT 32) (zS [110,101,120,116]) 9 4,
 jA 174 176 4]
 (.cond (tT 174) .skip
 (qR [jB 177 .eql 9 (tT 32) (zS [112,114,101,118]) 9 4,
 jA 174 177 4]
 (.cond (tT 174) .skip
 (.reg [jB 178 .eql 9 (tT 32) (zS [114,101,119,105,110,100]) 9 4,
 jA 174 178 4])))))))
 (.cond (tT 174) (.reg [jM 179 0 91,
 jF 180 36 5 14,
 jL 181 3 180,
 jC 182 35 #[(tT 179),(tT 181)] #[91,3] 0])
 (qR [jB 184 .eql 9 (tT 32) (zS [115,101,101,107]) 9 4,
 jA 183 184 4]
 (.cond (tT 183) (qR [jM 185 0 91,
 jF 186 36 5 14,
 jL 187 3 186,
 jC 188 35 #[(tT 185),(tT 187)] #[91,3] 0]
 (.drw [dM 0 189 0 91 .no [] [0],
 dM 1 190 0 91 .no [] [0],
 ⟨2,(some 191),.nilCheck (tT 190),0,.no,[1],[190]⟩,
 dF 3 192 93 191 0 .no [2] [191],
 dL 4 193 9 192 .no [3] [192],
 dF 5 194 36 5 3 .no [] [5],
 dL 6 195 22 194 .no [5] [194],
 ⟨7,(some 196),.call ⟨.value (.func 36),#[(tT 195)],#[22]⟩,9,.no,[6],[195]⟩,
 dB 8 197 .add 9 (tT 193) (tT 196) 9 9 .no [4,7] [193,196],
 ⟨9,(some 198),.nilCheck (tT 189),0,.no,[0,0,1,2,3,4,5,6,7,8],[189]⟩,
 dF 10 199 93 198 0 .no [9,0,1,2,3,4,5,6,7,8] [198],
 ⟨11,none,.store 9 (tT 199) (tT 197),0,.no,[10,8,7,0,1,2,3,4,5,6,7,8],[199,197]⟩]))
 (qR [jB 201 .eql 9 (tT 32) (zS [103,97,112,115]) 9 4,
 jA 200 201 4]
 (.cond (tT 200) (qR [jM 202 0 91,
 jF 203 36 5 2,
 jL 204 3 203,
 jC 205 35 #[(tT 202),(tT 204)] #[91,3] 0]
 (.drw [dM 0 206 0 91 .no [] [0],
 dM 1 207 0 91 .no [] [0],
 ⟨2,(some 208),.nilCheck (tT 207),0,.no,[1],[207]⟩,
 dF 3 209 93 208 0 .no [2] [208],
 dL 4 210 9 209 .no [3] [209],
 dF 5 211 36 5 3 .no [] [5],
 dL 6 212 22 211 .no [5] [211],
 ⟨7,(some 213),.call ⟨.value (.func 36),#[(tT 212)],#[22]⟩,9,.no,[6],[212]⟩,
 dB 8 214 .add 9 (tT 210) (tT 213) 9 9 .no [4,7] [210,213],
 dF 9 215 36 5 15 .no [] [5],
 dL 10 216 22 215 .no [9] [215],
 ⟨11,(some 217),.call ⟨.value (.func 36),#[(tT 216)],#[22]⟩,9,.no,[10,7],[216]⟩,
 dB 12 218 .add 9 (tT 214) (tT 217) 9 9 .no [8,11] [214,217],
 ⟨13,(some 219),.nilCheck (tT 206),0,.no,[0,0,1,2,3,4,5,6,7,8,9,10,11,12],[206]⟩,
 dF 14 220 93 219 0 .no [13,0,1,2,3,4,5,6,7,8,9,10,11,12] [219],
 ⟨15,none,.store 9 (tT 220) (tT 218),0,.no,[14,12,11,0,1,2,3,4,5,6,7,8,9,10,11,12],[220,218]⟩]))
 .skip))))))))))))))))))))))))))
 (.reg [jM 221 0 91,
 jM 222 0 91,
 jN 223 222,
 jF 224 93 223 0,
 jL 225 9 224,
 jB 226 .add 9 (tT 225) (zS [10]) 9 9,
 jN 227 221,
 jF 228 93 227 0,
 jS 9 228 226])))))
theorem e37:(Tryz.f37.body.map Qa2)=some s37:=by kernel_rfl
noncomputable def s39:SCode:=(qR [⟨(some 4),.assign (.const .nilFunc),101,.no⟩]
 (qR [jM 5 0 9,
 jM 6 1 9,
 jC 7 70 #[(tT 5),(tT 6),(zI 0)] #[9,9,3] 101,
 jA 4 7 101]
 .ret))
theorem e39:(Tryz.f39.body.map Qa2)=some s39:=by kernel_rfl
noncomputable def s40:SCode:=(qR [jW 4 4]
 (qR [⟨(some 12),.makeFunc (.func 71) #[] #[(tT 4)],1,.no⟩,
 ⟨none,.defer ⟨.value (tT 12),#[],#[]⟩,0,.no⟩]
 (qR [jM 13 1 9,
 jC 14 72 #[(tT 13)] #[9] 54,
 ⟨(some 15),.build 132 #[(0,(tT 14))],132,.no⟩,
 ⟨(some 16),.box 132 (tT 15),130,.no⟩,
 jA 5 16 130]
 (.seq (qR [jM 17 5 130,
 jN 18 17,
 jF 19 132 18 0,
 jL 20 54 19,
 jZ 21 20 54,
 jB 22 .eql 3 (tT 21) (zI 0) 3 4]
 (.cond (tT 22) (qR [⟨none,.store 4 (tT 4) (zB true),0,.no⟩]
 .ret)
 .skip))
 (qR [jM 23 5 130,
 jC 24 73 #[(tT 23)] #[130] 9,
 jA 6 24 9]
 (.seq (qR [jM 25 6 9,
 jB 26 .eql 9 (tT 25) (zS [119,111,114,108,100]) 9 4]
 (.cond (tT 26) (qR [jM 27 0 97,
 jM 28 5 130,
 jC 29 74 #[(tT 27),(tT 28)] #[97,130] 0]
 (qR [jM 30 5 130,
 jN 31 30,
 jF 32 132 31 0,
 jL 33 54 32,
 jZ 34 33 54,
 jB 35 .eql 3 (tT 34) (zI 0) 3 4,
 jC 36 75 #[(tT 35)] #[4] 0]
 (qR [⟨none,.store 4 (tT 4) (zB true),0,.no⟩]
 .ret)))
 .skip))
 (qR [jM 37 0 97,
 jN 38 37,
 jF 39 99 38 2,
 jL 40 4 39,
 jC 41 75 #[(tT 40)] #[4] 0]
 (qR [⟨(some 42),.build 36 #[],36,.no⟩,
 jW 7 36,
 jS 36 7 42]
 (.seq (qR [jM 43 6 9,
 jB 44 .eql 9 (tT 43) (zS [49]) 9 4,
 jM 45 44 4,
 jM 46 6 9 (jG 45),
 jB 47 .eql 9 (tT 46) (zS [50]) 9 4 (jG 45),
 jP 48 (tT 45) (zB true) (tT 47)]
 (.cond (tT 48) (qR [jM 49 6 9,
 ⟨(some 50),.index 9 (tT 49) (zI 0),5,.no⟩,
 jB 51 .sub 5 (tT 50) (zU 48) 5 5,
 ⟨(some 52),.convert 5 3 (tT 51),3,.no⟩,
 jF 53 36 7 1,
 jS 3 53 52]
 (.reg [jM 54 5 130,
 jC 55 73 #[(tT 54)] #[130] 9,
 jA 6 55 9]))
 .skip))
 (.seq (qR [jC 56 30 #[] #[] 75,
 jZ 57 56 75,
 ⟨(some 58),.move (zI 0),3,.no⟩]
 (.block 0 (.loop (qR [jB 59 .lss 3 (tT 58) (tT 57) 3 0]
 (.seq (.cond (tT 59) .skip
 (.exit 0))
 (.seq (.block 1 (qR [jM 60 58 3,
 jI 61 75 (tT 56) (tT 58),
 jL 62 80 61,
 jW 9 80,
 jA 8 60 3,
 jS 80 9 62]
 (.seq (qR [jF 63 80 9 0,
 jL 64 9 63,
 jB 65 .eql 9 (tT 64) (zS []) 9 4,
 jM 66 65 4,
 jF 67 80 9 0 (jG 66),
 jL 68 9 67 (jG 66),
 jM 69 6 9 (jG 66),
 jB 70 .neq 9 (tT 68) (tT 69) 9 4 (jG 66),
 jP 71 (tT 66) (zB true) (tT 70),
 jM 72 71 4,
 jM 73 8 3 (jG 72),
 jB 74 .neq 3 (tT 73) (zI 1) 3 4 (jG 72),
 jF 75 36 7 1 (jG 72),
 jL 76 3 75 (jG 72),
 jB 77 .gtr 3 (tT 76) (zI 0) 3 4 (jG 72),
 jB 78 .neq 4 (tT 74) (tT 77) 4 4 (jG 72),
 jP 79 (tT 72) (zB true) (tT 78)]
 (.cond (tT 79) (.exit 1)
 .skip))
 (qR [jM 80 8 3,
 jF 81 36 7 0,
 jS 3 81 80]
 (.seq (qR [jF 82 80 9 1,
 jL 83 78 82,
 jZ 84 83 78,
 ⟨(some 85),.move (zI 0),3,.no⟩]
 (.block 2 (.loop (qR [jB 86 .lss 3 (tT 85) (tT 84) 3 0]
 (.seq (.cond (tT 86) .skip
 (.exit 2))
 (.seq (.block 3 (qR [jI 87 78 (tT 83) (tT 85),
 jL 88 84 87,
 jW 11 84,
 jS 84 11 88]
 (.reg [jF 89 84 11 0,
 jL 90 81 89,
 jM 91 5 130,
 ⟨(some 92),.call ⟨.value (tT 90),#[(tT 91),(tT 7)],#[130,116]⟩,0,.no⟩])))
 (.reg [jB 93 .add 3 (tT 85) (zI 1) 3 3,
 jM 85 93 3])))))))
 (qR [jM 94 5 130,
 jN 95 94,
 jF 96 132 95 0,
 jL 97 54 96,
 jZ 98 97 54,
 jB 99 .eql 3 (tT 98) (zI 0) 3 4,
 jC 100 75 #[(tT 99)] #[4] 0]
 (.seq (.drw [dM 0 101 0 97 .no [] [0],
 dM 1 102 0 97 .no [] [0],
 ⟨2,(some 103),.nilCheck (tT 102),0,.no,[1],[102]⟩,
 dF 3 104 99 103 1 .no [2] [103],
 dL 4 105 27 104 .no [3] [104],
 dL 5 106 36 7 .no [] [7],
 ⟨6,(some 107),.buildSlice 27 1 #[(0,(tT 106))],27,.no,[5],[106]⟩,
 ⟨7,(some 108),.call ⟨.builtin .append,#[(tT 105),(tT 107)],#[27,27]⟩,27,.no,[4,6],[105,107]⟩,
 ⟨8,(some 109),.nilCheck (tT 101),0,.no,[0,0,1,2,3,4,5,6,7],[101]⟩,
 dF 9 110 99 109 1 .no [8,0,1,2,3,4,5,6,7] [109],
 ⟨10,none,.store 27 (tT 110) (tT 108),0,.no,[9,7,7,0,1,2,3,4,5,6,7],[110,108]⟩])
 (qR [⟨none,.store 4 (tT 4) (zB true),0,.no⟩]
 .ret))))))))
 (.reg [jB 111 .add 3 (tT 58) (zI 1) 3 3,
 jM 58 111 3])))))))
 (qR [⟨none,.store 4 (tT 4) (zB false),0,.no⟩]
 .ret)))))))))))
theorem e40:(Tryz.f40.body.map Qa2)=some s40:=by kernel_rfl
noncomputable def s45:SCode:=(qR [jK 2 (zB false) 4]
 (qR [jM 3 0 3,
 jB 4 .geq 3 (tT 3) (zI 9) 3 4,
 jM 5 4 4,
 jM 6 0 3 (jT 5),
 jB 7 .leq 3 (tT 6) (zI 12) 3 4 (jT 5),
 jP 8 (tT 5) (tT 7) (zB false),
 jA 2 8 4]
 .ret))
theorem e45:(Tryz.f45.body.map Qa2)=some s45:=by kernel_rfl
noncomputable def s46:SCode:=(qR [jM 2 0 63,
 jN 3 2,
 jF 4 65 3 0,
 jL 5 63 4,
 ⟨(some 6),.binOp .eql 63 (tT 5) (.const (.pointer none)) 63,4,.no⟩]
 (.cond (tT 6) (.reg [jM 7 0 63,
 jM 8 0 63,
 ⟨(some 9),.convert 63 145 (tT 8),145,.no⟩,
 jC 10 80 #[(tT 9)] #[145] 145,
 ⟨(some 11),.convert 145 63 (tT 10),63,.no⟩,
 jN 12 7,
 jF 13 65 12 0,
 jS 63 13 11])
 (qR [jM 14 0 63,
 jN 15 14,
 jF 16 65 15 0,
 jL 17 63 16,
 jM 18 0 63,
 jB 19 .neq 63 (tT 17) (tT 18) 63 4]
 (.cond (tT 19) (.other (.refuse "(*strings.Builder).copyCheck builder.go:41: unsupported: a written strings.Builder's value in another place: whether the library's copy check passes hangs on where the compiler lays the two"))
 .skip))))
theorem e46:(Tryz.f46.body.map Qa2)=some s46:=by kernel_rfl
noncomputable def s47:SCode:=(qR [jM 4 0 62,
 jN 5 4,
 jF 6 67 5 0,
 jC 7 29 #[(tT 6),(zU 32)] #[65,5] 69]
 (.reg [jM 8 0 62,
 jN 9 8,
 jF 10 67 9 0,
 jM 11 1 9,
 jC 12 26 #[(tT 10),(tT 11)] #[65,9] 70]))
theorem e47:(Tryz.f47.body.map Qa2)=some s47:=by kernel_rfl
noncomputable def s51:SCode:=(qR [⟨(some 2),.assign (.const (.pointer none)),117,.no⟩]
 (qR [jM 3 0 116,
 jN 4 3,
 jF 5 36 4 7,
 jF 6 32 5 0,
 jA 2 6 117]
 .ret))
theorem e51:(Tryz.f51.body.map Qa2)=some s51:=by kernel_rfl
noncomputable def s52:SCode:=(qR [⟨(some 2),.assign (.const (.pointer none)),117,.no⟩]
 (qR [jM 3 0 116,
 jN 4 3,
 jF 5 36 4 7,
 jF 6 32 5 1,
 jA 2 6 117]
 .ret))
theorem e52:(Tryz.f52.body.map Qa2)=some s52:=by kernel_rfl
noncomputable def s54:SCode:=(qR [⟨(some 2),.assign (.const (.pointer none)),120,.no⟩]
 (qR [jM 3 0 116,
 jN 4 3,
 jF 5 36 4 6,
 jA 2 5 120]
 .ret))
theorem e54:(Tryz.f54.body.map Qa2)=some s54:=by kernel_rfl
noncomputable def s55:SCode:=(qR [⟨(some 2),.assign (.const (.pointer none)),120,.no⟩]
 (qR [jM 3 0 116,
 jN 4 3,
 jF 5 36 4 4,
 jA 2 5 120]
 .ret))
theorem e55:(Tryz.f55.body.map Qa2)=some s55:=by kernel_rfl
noncomputable def s56:SCode:=(qR [⟨(some 2),.assign (.const (.pointer none)),120,.no⟩]
 (qR [jM 3 0 116,
 jN 4 3,
 jF 5 36 4 15,
 jA 2 5 120]
 .ret))
theorem e56:(Tryz.f56.body.map Qa2)=some s56:=by kernel_rfl
noncomputable def s57:SCode:=(qR [⟨(some 2),.assign (.const (.pointer none)),120,.no⟩]
 (qR [jM 3 0 116,
 jN 4 3,
 jF 5 36 4 12,
 jA 2 5 120]
 .ret))
theorem e57:(Tryz.f57.body.map Qa2)=some s57:=by kernel_rfl
noncomputable def s68:SCode:=(qR [jK 2 (zS []) 9]
 (qR [⟨(some 6),.buildSlice 29 1 #[(0,(zU 34))],29,.no⟩,
 jA 3 6 29]
 (.seq (qR [jK 4 (zI 0) 3]
 (.block 0 (.loop (.seq (qR [jM 7 4 3,
 jM 8 0 29,
 jZ 9 8 29,
 jB 10 .lss 3 (tT 7) (tT 9) 3 4]
 (.cond (tT 10) .skip
 (.exit 0)))
 (.seq (.block 1 (qR [jM 13 0 29,
 jM 14 4 3,
 jI 15 29 (tT 13) (tT 14),
 jL 16 5 15,
 jA 5 16 5]
 (.block 2 (qR [jM 22 5 5,
 jB 23 .eql 5 (tT 22) (zU 34) 5 4,
 jM 24 23 4,
 jM 25 5 5 (jG 24),
 jB 26 .eql 5 (tT 25) (zU 92) 5 4 (jG 24),
 jP 27 (tT 24) (zB true) (tT 26),
 jA 21 27 4]
 (.cond (tT 21) (.reg [jM 28 3 29,
 jM 29 5 5,
 ⟨(some 30),.buildSlice 29 2 #[(0,(zU 92)),(1,(tT 29))],29,.no⟩,
 ⟨(some 31),.call ⟨.builtin .append,#[(tT 28),(tT 30)],#[29,29]⟩,29,.no⟩,
 jA 3 31 29])
 (qR [jM 33 5 5,
 jB 34 .eql 5 (tT 33) (zU 10) 5 4,
 jA 32 34 4]
 (.cond (tT 32) (.reg [jM 35 3 29,
 ⟨(some 36),.buildSlice 29 2 #[(0,(zU 92)),(1,(zU 110))],29,.no⟩,
 ⟨(some 37),.call ⟨.builtin .append,#[(tT 35),(tT 36)],#[29,29]⟩,29,.no⟩,
 jA 3 37 29])
 (qR [jM 39 5 5,
 jB 40 .eql 5 (tT 39) (zU 9) 5 4,
 jA 38 40 4]
 (.cond (tT 38) (.reg [jM 41 3 29,
 ⟨(some 42),.buildSlice 29 2 #[(0,(zU 92)),(1,(zU 116))],29,.no⟩,
 ⟨(some 43),.call ⟨.builtin .append,#[(tT 41),(tT 42)],#[29,29]⟩,29,.no⟩,
 jA 3 43 29])
 (qR [jM 45 5 5,
 jB 46 .lss 5 (tT 45) (zU 32) 5 4,
 jM 47 46 4,
 jM 48 5 5 (jG 47),
 jB 49 .gtr 5 (tT 48) (zU 126) 5 4 (jG 47),
 jP 50 (tT 47) (zB true) (tT 49),
 jA 44 50 4]
 (.cond (tT 44) (.drw [dM 0 51 3 29 .no [] [3],
 dM 1 52 5 5 .no [] [5],
 dB 2 53 .quo 5 (tT 52) (zU 16) 5 5 .no [1] [52],
 ⟨3,(some 54),.index 9 (zS [48,49,50,51,52,53,54,55,56,57,97,98,99,100,101,102]) (tT 53),5,.no,[2],[53]⟩,
 dM 4 55 5 5 .no [] [5],
 dB 5 56 .rem 5 (tT 55) (zU 16) 5 5 .no [4] [55],
 ⟨6,(some 57),.index 9 (zS [48,49,50,51,52,53,54,55,56,57,97,98,99,100,101,102]) (tT 56),5,.no,[5],[56]⟩,
 ⟨7,(some 58),.buildSlice 29 4 #[(0,(zU 92)),(1,(zU 120)),(2,(tT 54)),(3,(tT 57))],29,.no,[3,6],[54,57]⟩,
 ⟨8,(some 59),.call ⟨.builtin .append,#[(tT 51),(tT 58)],#[29,29]⟩,29,.no,[0,7],[51,58]⟩,
 ⟨9,(some 3),.assign (tT 59),29,.no,[8,8,0,1,2,3,4,5,6,7,8],[59]⟩])
 (.reg [jM 17 3 29,
 jM 18 5 5,
 ⟨(some 19),.buildSlice 29 1 #[(0,(tT 18))],29,.no⟩,
 ⟨(some 20),.call ⟨.builtin .append,#[(tT 17),(tT 19)],#[29,29]⟩,29,.no⟩,
 jA 3 20 29]))))))))))))
 (.reg [jM 11 4 3,
 jB 12 .add 3 (tT 11) (zI 1) 3 3,
 jA 4 12 3]))))))
 (qR [jM 60 3 29,
 ⟨(some 61),.buildSlice 29 1 #[(0,(zU 34))],29,.no⟩,
 ⟨(some 62),.call ⟨.builtin .append,#[(tT 60),(tT 61)],#[29,29]⟩,29,.no⟩,
 jA 3 62 29]
 (qR [jM 63 3 29,
 ⟨(some 64),.convert 29 9 (tT 63),9,.no⟩,
 jA 2 64 9]
 .ret)))))
theorem e68:(Tryz.f68.body.map Qa2)=some s68:=by kernel_rfl
noncomputable def s69:SCode:=(qR [jM 4 1 3,
 jB 5 .eql 3 (tT 4) (zI 1) 3 4]
 (.cond (tT 5) (.reg [jM 6 0 91,
 jM 7 0 91,
 jN 8 7,
 jF 9 93 8 0,
 jL 10 9 9,
 jB 11 .add 9 (tT 10) (zS [32,101,120,112,114,101,115,115]) 9 9,
 jN 12 6,
 jF 13 93 12 0,
 jS 9 13 11])
 (.reg [jM 14 0 91,
 jM 15 0 91,
 jN 16 15,
 jF 17 93 16 0,
 jL 18 9 17,
 jB 19 .add 9 (tT 18) (zS [32,102,114,101,105,103,104,116]) 9 9,
 jN 20 14,
 jF 21 93 20 0,
 jS 9 21 19])))
theorem e69:(Tryz.f69.body.map Qa2)=some s69:=by kernel_rfl
noncomputable def s70:SCode:=(qR [⟨(some 3),.box 9 (tT 0),0,.no⟩,
 ⟨(some 4),.box 9 (tT 1),0,.no⟩,
 ⟨(some 5),.box 3 (tT 2),0,.no⟩,
 ⟨(some 6),.assign (.const .nilFunc),101,.no⟩]
 (qR [⟨(some 7),.makeFunc (.func 106) #[] #[(tT 4),(tT 3),(tT 5)],100,.no⟩,
 jA 6 7 101]
 .ret))
theorem e70:(Tryz.f70.body.map Qa2)=some s70:=by kernel_rfl
noncomputable def s71:SCode:=(qR [⟨(some 4),.call ⟨.builtin .recover,#[],#[]⟩,20,.no⟩,
 jA 1 4 20]
 (qR [jM 5 1 20,
 ⟨(some 6),.binOp .neq 20 (tT 5) (.const .nilIface) 20,4,.no⟩]
 (.cond (tT 6) (.seq (qR [jM 8 1 20,
 ⟨(some 9),.typeAssert (tT 8) 20 128 true,129,.no⟩,
 jM 7 9 129,
 jE 10 7 0 128,
 jE 11 7 1 4,
 jW 2 128,
 jS 128 2 10,
 jA 3 11 4]
 (qR [jM 12 3 4,
 ⟨(some 13),.unOp .not 4 (tT 12),4,.no⟩]
 (.cond (tT 13) (.reg [jM 14 1 20,
 ⟨none,.panic (tT 14),0,.no⟩])
 .skip)))
 (.reg [⟨none,.store 4 (tT 0) (zB false),0,.no⟩]))
 .skip)))
theorem e71:(Tryz.f71.body.map Qa2)=some s71:=by kernel_rfl
noncomputable def s72:SCode:=(qR [⟨(some 2),.assign (.const (.slice none 0 0)),54,.no⟩]
 (qR [⟨(some 3),.assign (.const (.slice none 0 0)),54,.no⟩]
 (qR [jK 4 (zI (-1)) 3,
 jK 5 (zB false) 4,
 jK 6 (zB false) 4]
 (.seq (qR [jM 10 0 9,
 ⟨(some 11),.range 9 (tT 10),0,.no⟩]
 (.block 0 (.loop (qR [⟨(some 12),.next (tT 11) true,0,.no⟩,
 jE 13 12 0 4]
 (.seq (.cond (tT 13) .skip
 (.exit 0))
 (.block 1 (qR [jE 14 12 1 3,
 jE 15 12 2 21,
 jA 7 14 3,
 jA 8 15 21]
 (qR [jM 16 8 21,
 ⟨(some 17),.binOp .eql 21 (tT 16) (.const (.int .i32 32)) 21,4,.no⟩,
 jM 18 17 4,
 jM 19 8 21 (jG 18),
 ⟨(some 20),.binOp .eql 21 (tT 19) (.const (.int .i32 9)) 21,4,(jG 18)⟩,
 jP 21 (tT 18) (zB true) (tT 20),
 jA 9 21 4]
 (.block 2 (qR [jM 23 6 4,
 jA 22 23 4]
 (.cond (tT 22) (.reg [jK 6 (zB false) 4])
 (qR [jM 25 5 4,
 jM 26 25 4,
 jM 27 8 21 (jT 26),
 ⟨(some 28),.binOp .eql 21 (tT 27) (.const (.int .i32 92)) 21,4,(jT 26)⟩,
 jP 29 (tT 26) (tT 28) (zB false),
 jA 24 29 4]
 (.cond (tT 24) (.reg [jK 6 (zB true) 4])
 (qR [jM 31 5 4,
 jM 32 31 4,
 jM 33 8 21 (jT 32),
 ⟨(some 34),.binOp .eql 21 (tT 33) (.const (.int .i32 34)) 21,4,(jT 32)⟩,
 jP 35 (tT 32) (tT 34) (zB false),
 jA 30 35 4]
 (.cond (tT 30) (qR [jK 5 (zB false) 4]
 (.reg [jM 36 7 3,
 jB 37 .add 3 (tT 36) (zI 1) 3 3,
 jM 38 0 9,
 jZ 39 38 9,
 jB 40 .eql 3 (tT 37) (tT 39) 3 4,
 jM 41 40 4,
 jM 42 0 9 (jG 41),
 jM 43 7 3 (jG 41),
 jB 44 .add 3 (tT 43) (zI 1) 3 3 (jG 41),
 ⟨(some 45),.index 9 (tT 42) (tT 44),5,(jG 41)⟩,
 jB 46 .eql 5 (tT 45) (zU 32) 5 4 (jG 41),
 jP 47 (tT 41) (zB true) (tT 46),
 jM 48 47 4,
 jM 49 0 9 (jG 48),
 jM 50 7 3 (jG 48),
 jB 51 .add 3 (tT 50) (zI 1) 3 3 (jG 48),
 ⟨(some 52),.index 9 (tT 49) (tT 51),5,(jG 48)⟩,
 jB 53 .eql 5 (tT 52) (zU 9) 5 4 (jG 48),
 jP 54 (tT 48) (zB true) (tT 53),
 jC 55 75 #[(tT 54)] #[4] 0]))
 (qR [jM 57 5 4,
 jA 56 57 4]
 (.cond (tT 56) .skip
 (qR [jM 59 4 3,
 jB 60 .lss 3 (tT 59) (zI 0) 3 4,
 jM 61 60 4,
 jM 62 9 4 (jT 61),
 ⟨(some 63),.unOp .not 4 (tT 62),4,(jT 61)⟩,
 jP 64 (tT 61) (tT 63) (zB false),
 jA 58 64 4]
 (.cond (tT 58) (.seq (qR [jM 65 3 54,
 jZ 66 65 54,
 jB 67 .eql 3 (tT 66) (zI 0) 3 4,
 jM 68 67 4,
 jM 69 8 21 (jT 68),
 ⟨(some 70),.binOp .eql 21 (tT 69) (.const (.int .i32 35)) 21,4,(jT 68)⟩,
 jP 71 (tT 68) (tT 70) (zB false)]
 (.cond (tT 71) (qR [⟨(some 2),.assign (.const (.slice none 0 0)),54,.no⟩]
 .ret)
 .skip))
 (.reg [jM 72 7 3,
 jM 73 8 21,
 ⟨(some 74),.binOp .eql 21 (tT 73) (.const (.int .i32 34)) 21,4,.no⟩,
 jA 4 72 3,
 jA 5 74 4]))
 (qR [jM 76 4 3,
 jB 77 .geq 3 (tT 76) (zI 0) 3 4,
 jM 78 77 4,
 jM 79 9 4 (jT 78),
 jP 80 (tT 78) (tT 79) (zB false),
 jA 75 80 4]
 (.cond (tT 75) (qR [jM 81 3 54,
 jM 82 0 9,
 jM 83 4 3,
 jM 84 7 3,
 ⟨(some 85),.slice 9 (tT 82) (some (tT 83)) (some (tT 84)) none,9,.no⟩,
 ⟨(some 86),.buildSlice 54 1 #[(0,(tT 85))],54,.no⟩,
 ⟨(some 87),.call ⟨.builtin .append,#[(tT 81),(tT 86)],#[54,54]⟩,54,.no⟩,
 jA 3 87 54]
 (.reg [jK 4 (zI (-1)) 3]))
 .skip)))))))))))))))))))))
 (qR [jM 88 5 4,
 ⟨(some 89),.unOp .not 4 (tT 88),4,.no⟩,
 jC 90 75 #[(tT 89)] #[4] 0]
 (.seq (qR [jM 91 4 3,
 jB 92 .geq 3 (tT 91) (zI 0) 3 4]
 (.cond (tT 92) (.reg [jM 93 3 54,
 jM 94 0 9,
 jM 95 4 3,
 ⟨(some 96),.slice 9 (tT 94) (some (tT 95)) none none,9,.no⟩,
 ⟨(some 97),.buildSlice 54 1 #[(0,(tT 96))],54,.no⟩,
 ⟨(some 98),.call ⟨.builtin .append,#[(tT 93),(tT 97)],#[54,54]⟩,54,.no⟩,
 jA 3 98 54])
 .skip))
 (qR [jM 99 3 54,
 jA 2 99 54]
 .ret)))))))
theorem e72:(Tryz.f72.body.map Qa2)=some s72:=by kernel_rfl
noncomputable def s73:SCode:=(qR [jK 2 (zS []) 9]
 (qR [jM 4 0 130,
 jN 5 4,
 jF 6 132 5 0,
 jL 7 54 6,
 jZ 8 7 54,
 jB 9 .gtr 3 (tT 8) (zI 0) 3 4,
 jC 10 75 #[(tT 9)] #[4] 0]
 (qR [jM 11 0 130,
 jN 12 11,
 jF 13 132 12 0,
 jL 14 54 13,
 jI 15 54 (tT 14) (zI 0),
 jL 16 9 15,
 jA 3 16 9]
 (qR [jM 17 0 130,
 jM 18 0 130,
 jN 19 18,
 jF 20 132 19 0,
 jL 21 54 20,
 ⟨(some 22),.slice 54 (tT 21) (some (zI 1)) none none,54,.no⟩,
 jN 23 17,
 jF 24 132 23 0,
 jS 54 24 22]
 (qR [jM 25 3 9,
 jA 2 25 9]
 .ret)))))
theorem e73:(Tryz.f73.body.map Qa2)=some s73:=by kernel_rfl
noncomputable def s74:SCode:=(qR [jM 6 0 97,
 jN 7 6,
 jF 8 99 7 2,
 jL 9 4 8,
 ⟨(some 10),.unOp .not 4 (tT 9),4,.no⟩,
 jC 11 75 #[(tT 10)] #[4] 0]
 (qR [jM 12 0 97,
 jN 13 12,
 jF 14 99 13 2,
 ⟨none,.store 4 (tT 14) (zB true),0,.no⟩]
 (qR [jM 15 0 97,
 jN 16 15,
 jF 17 99 16 0,
 jA 4 17 155]
 (qR [jM 18 4 155,
 jM 19 4 155,
 jM 20 4 155,
 jM 21 1 130,
 jC 22 84 #[(tT 21)] #[130] 3,
 jM 23 1 130,
 jC 24 84 #[(tT 23)] #[130] 3,
 jM 25 1 130,
 jC 26 87 #[(tT 25)] #[130] 22,
 jN 27 18,
 jF 28 26 27 1,
 jS 3 28 22,
 jN 29 19,
 jF 30 26 29 2,
 jS 3 30 24,
 jN 31 20,
 jF 32 26 31 3,
 jS 22 32 26]
 (qR [jM 33 4 155,
 jN 34 33,
 jF 35 26 34 0,
 jA 5 35 156]
 (qR [jM 36 5 156,
 jM 37 5 156,
 jM 38 5 156,
 jM 39 1 130,
 jC 40 84 #[(tT 39)] #[130] 3,
 jM 41 1 130,
 jC 42 87 #[(tT 41)] #[130] 22,
 jM 43 1 130,
 jC 44 87 #[(tT 43)] #[130] 22,
 jN 45 36,
 jF 46 24 45 0,
 jS 3 46 40,
 jN 47 37,
 jF 48 24 47 1,
 jS 22 48 42,
 jN 49 38,
 jF 50 24 49 2,
 jS 22 50 44]
 (.reg [jM 51 5 156,
 jM 52 5 156,
 jM 53 5 156,
 jM 54 1 130,
 jC 55 84 #[(tT 54)] #[130] 3,
 jM 56 1 130,
 jC 57 84 #[(tT 56)] #[130] 3,
 jM 58 1 130,
 jC 59 84 #[(tT 58)] #[130] 3,
 jN 60 51,
 jF 61 24 60 3,
 jS 3 61 55,
 jN 62 52,
 jF 63 24 62 4,
 jS 3 63 57,
 jN 64 53,
 jF 65 24 64 5,
 jS 3 65 59])))))))
theorem e74:(Tryz.f74.body.map Qa2)=some s74:=by kernel_rfl
noncomputable def s75:SCode:=(qR [jM 2 0 4,
 ⟨(some 3),.unOp .not 4 (tT 2),4,.no⟩]
 (.cond (tT 3) (.reg [⟨(some 4),.build 128 #[],128,.no⟩,
 ⟨(some 5),.makeInterface 128 (tT 4),20,.no⟩,
 ⟨none,.panic (tT 5),0,.no⟩])
 .skip))
theorem e75:(Tryz.f75.body.map Qa2)=some s75:=by kernel_rfl
noncomputable def s82:SCode:=(qR [⟨(some 2),.assign (.const (.pointer none)),117,.no⟩]
 (qR [jM 3 0 116,
 jN 4 3,
 jF 5 36 4 2,
 jA 2 5 117]
 .ret))
theorem e82:(Tryz.f82.body.map Qa2)=some s82:=by kernel_rfl
noncomputable def s83:SCode:=(.reg [jL 5 118 2,
 jM 6 1 116,
 ⟨(some 7),.call ⟨.value (tT 5),#[(tT 6)],#[116]⟩,117,.no⟩,
 jM 8 0 130,
 jC 9 84 #[(tT 8)] #[130] 3,
 jN 10 7,
 jS 3 10 9])
theorem e83:(Tryz.f83.body.map Qa2)=some s83:=by kernel_rfl
noncomputable def s84:SCode:=(qR [jK 2 (zI 0) 3]
 (qR [jM 7 0 130,
 jC 8 73 #[(tT 7)] #[130] 9,
 jA 3 8 9]
 (.seq (qR [jM 10 3 9,
 jC 11 118 #[(tT 10),(zS [45])] #[9,9] 170,
 jM 9 11 170,
 jE 12 9 0 9,
 jE 13 9 1 4,
 jA 4 12 9,
 jA 5 13 4]
 (qR [jM 14 5 4]
 (.cond (tT 14) (qR [jM 15 4 9,
 jC 16 119 #[(tT 15),(.const (.int .u64 2147483648))] #[9,22] 22,
 jA 6 16 22]
 (qR [jM 17 6 22,
 ⟨(some 18),.binOp .gtr 22 (tT 17) (.const (.int .u64 0)) 22,4,.no⟩,
 jC 19 75 #[(tT 18)] #[4] 0]
 (qR [jM 20 6 22,
 ⟨(some 21),.convert 22 3 (tT 20),3,.no⟩,
 ⟨(some 22),.unOp .neg 3 (tT 21),3,.no⟩,
 jA 2 22 3]
 .ret)))
 .skip)))
 (qR [jM 23 3 9,
 jC 24 119 #[(tT 23),(.const (.int .u64 2147483647))] #[9,22] 22,
 ⟨(some 25),.convert 22 3 (tT 24),3,.no⟩,
 jA 2 25 3]
 .ret))))
theorem e84:(Tryz.f84.body.map Qa2)=some s84:=by kernel_rfl
noncomputable def s85:SCode:=(qR [⟨(some 4),.box 36 (tT 1),0,.no⟩]
 (.reg [jM 5 0 62,
 jL 6 118 2,
 ⟨(some 7),.call ⟨.value (tT 6),#[(tT 4)],#[116]⟩,117,.no⟩,
 jN 8 7,
 jL 9 3 8,
 jC 10 27 #[(tT 5),(tT 9)] #[62,3] 0]))
theorem e85:(Tryz.f85.body.map Qa2)=some s85:=by kernel_rfl
noncomputable def s86:SCode:=(.reg [jL 5 121 2,
 jM 6 1 116,
 ⟨(some 7),.call ⟨.value (tT 5),#[(tT 6)],#[116]⟩,120,.no⟩,
 jM 8 0 130,
 jC 9 87 #[(tT 8)] #[130] 22,
 jN 10 7,
 jS 22 10 9])
theorem e86:(Tryz.f86.body.map Qa2)=some s86:=by kernel_rfl
noncomputable def s87:SCode:=(qR [⟨(some 2),.assign (.const (.int .u64 0)),22,.no⟩]
 (qR [jM 3 0 130,
 jC 4 100 #[(tT 3),(.const (.int .u64 18446744073709551615))] #[130,22] 22,
 jA 2 4 22]
 .ret))
theorem e87:(Tryz.f87.body.map Qa2)=some s87:=by kernel_rfl
noncomputable def s88:SCode:=(qR [⟨(some 4),.box 36 (tT 1),0,.no⟩]
 (.reg [jM 5 0 62,
 jL 6 121 2,
 ⟨(some 7),.call ⟨.value (tT 6),#[(tT 4)],#[116]⟩,120,.no⟩,
 jN 8 7,
 jL 9 22 8,
 jC 10 28 #[(tT 5),(tT 9)] #[62,22] 0]))
theorem e88:(Tryz.f88.body.map Qa2)=some s88:=by kernel_rfl
noncomputable def s89:SCode:=(qR [⟨(some 2),.assign (.const (.pointer none)),120,.no⟩]
 (qR [jM 3 0 116,
 jN 4 3,
 jF 5 36 4 3,
 jA 2 5 120]
 .ret))
theorem e89:(Tryz.f89.body.map Qa2)=some s89:=by kernel_rfl
noncomputable def s90:SCode:=(.reg [jM 4 1 116,
 jM 5 0 130,
 jC 6 91 #[(tT 5)] #[130] 29,
 jN 7 4,
 jF 8 36 7 5,
 jS 29 8 6])
theorem e90:(Tryz.f90.body.map Qa2)=some s90:=by kernel_rfl
noncomputable def s91:SCode:=(qR [⟨(some 2),.assign (.const (.slice none 0 0)),29,.no⟩]
 (qR [jM 8 0 130,
 jC 9 73 #[(tT 8)] #[130] 9,
 jA 3 9 9]
 (qR [jM 10 3 9,
 jZ 11 10 9,
 jB 12 .geq 3 (tT 11) (zI 2) 3 4,
 jM 13 12 4,
 jM 14 3 9 (jT 13),
 ⟨(some 15),.index 9 (tT 14) (zI 0),5,(jT 13)⟩,
 jB 16 .eql 5 (tT 15) (zU 34) 5 4 (jT 13),
 jP 17 (tT 13) (tT 16) (zB false),
 jM 18 17 4,
 jM 19 3 9 (jT 18),
 jM 20 3 9 (jT 18),
 jZ 21 20 9 (jT 18),
 jB 22 .sub 3 (tT 21) (zI 1) 3 3 (jT 18),
 ⟨(some 23),.index 9 (tT 19) (tT 22),5,(jT 18)⟩,
 jB 24 .eql 5 (tT 23) (zU 34) 5 4 (jT 18),
 jP 25 (tT 18) (tT 24) (zB false),
 jC 26 75 #[(tT 25)] #[4] 0]
 (qR [jM 27 3 9,
 jM 28 3 9,
 jZ 29 28 9,
 jB 30 .sub 3 (tT 29) (zI 1) 3 3,
 ⟨(some 31),.slice 9 (tT 27) (some (zI 1)) (some (tT 30)) none,9,.no⟩,
 jA 4 31 9]
 (qR [⟨(some 5),.assign (.const (.slice none 0 0)),29,.no⟩]
 (.seq (qR [jK 6 (zI 0) 3]
 (.block 0 (.loop (.seq (qR [jM 32 6 3,
 jM 33 4 9,
 jZ 34 33 9,
 jB 35 .lss 3 (tT 32) (tT 34) 3 4]
 (.cond (tT 35) .skip
 (.exit 0)))
 (.seq (.block 1 (qR [jM 38 4 9,
 jM 39 6 3,
 ⟨(some 40),.index 9 (tT 38) (tT 39),5,.no⟩,
 jA 7 40 5]
 (qR [jM 41 7 5,
 jB 42 .geq 5 (tT 41) (zU 32) 5 4,
 jM 43 42 4,
 jM 44 7 5 (jT 43),
 jB 45 .leq 5 (tT 44) (zU 126) 5 4 (jT 43),
 jP 46 (tT 43) (tT 45) (zB false),
 jM 47 46 4,
 jM 48 7 5 (jT 47),
 jB 49 .neq 5 (tT 48) (zU 34) 5 4 (jT 47),
 jP 50 (tT 47) (tT 49) (zB false),
 jC 51 75 #[(tT 50)] #[4] 0]
 (.seq (qR [jM 52 7 5,
 jB 53 .neq 5 (tT 52) (zU 92) 5 4]
 (.cond (tT 53) (qR [jM 54 5 29,
 jM 55 7 5,
 ⟨(some 56),.buildSlice 29 1 #[(0,(tT 55))],29,.no⟩,
 ⟨(some 57),.call ⟨.builtin .append,#[(tT 54),(tT 56)],#[29,29]⟩,29,.no⟩,
 jA 5 57 29]
 (.exit 1))
 .skip))
 (qR [jM 58 6 3,
 jB 59 .add 3 (tT 58) (zI 1) 3 3,
 jA 6 59 3]
 (qR [jM 60 6 3,
 jM 61 4 9,
 jZ 62 61 9,
 jB 63 .lss 3 (tT 60) (tT 62) 3 4,
 jC 64 75 #[(tT 63)] #[4] 0]
 (qR [jM 65 4 9,
 jM 66 6 3,
 ⟨(some 67),.index 9 (tT 65) (tT 66),5,.no⟩]
 (.block 2 (qR [jB 71 .eql 5 (tT 67) (zU 110) 5 4,
 jA 70 71 4]
 (.cond (tT 70) (.reg [jM 72 5 29,
 ⟨(some 73),.buildSlice 29 1 #[(0,(zU 10))],29,.no⟩,
 ⟨(some 74),.call ⟨.builtin .append,#[(tT 72),(tT 73)],#[29,29]⟩,29,.no⟩,
 jA 5 74 29])
 (qR [jB 76 .eql 5 (tT 67) (zU 116) 5 4,
 jA 75 76 4]
 (.cond (tT 75) (.reg [jM 77 5 29,
 ⟨(some 78),.buildSlice 29 1 #[(0,(zU 9))],29,.no⟩,
 ⟨(some 79),.call ⟨.builtin .append,#[(tT 77),(tT 78)],#[29,29]⟩,29,.no⟩,
 jA 5 79 29])
 (.seq (qR [jB 81 .eql 5 (tT 67) (zU 34) 5 4,
 jA 80 81 4]
 (.cond (tT 80) .skip
 (.reg [jB 82 .eql 5 (tT 67) (zU 92) 5 4,
 jA 80 82 4])))
 (.cond (tT 80) (.reg [jM 83 5 29,
 jM 84 4 9,
 jM 85 6 3,
 ⟨(some 86),.index 9 (tT 84) (tT 85),5,.no⟩,
 ⟨(some 87),.buildSlice 29 1 #[(0,(tT 86))],29,.no⟩,
 ⟨(some 88),.call ⟨.builtin .append,#[(tT 83),(tT 87)],#[29,29]⟩,29,.no⟩,
 jA 5 88 29])
 (qR [jB 90 .eql 5 (tT 67) (zU 120) 5 4,
 jA 89 90 4]
 (.cond (tT 89) (qR [jM 91 6 3,
 jB 92 .add 3 (tT 91) (zI 2) 3 3,
 jM 93 4 9,
 jZ 94 93 9,
 jB 95 .lss 3 (tT 92) (tT 94) 3 4,
 jC 96 75 #[(tT 95)] #[4] 0]
 (.seq (.drw [dM 0 97 5 29 .no [] [5],
 dM 1 98 4 9 .no [] [4],
 dM 2 99 6 3 .no [] [6],
 dB 3 100 .add 3 (tT 99) (zI 1) 3 3 .no [2] [99],
 ⟨4,(some 101),.index 9 (tT 98) (tT 100),5,.no,[1,3],[98,100]⟩,
 ⟨5,(some 102),.call ⟨.value (.func 120),#[(tT 101)],#[5]⟩,5,.no,[4],[101]⟩,
 ⟨6,(some 103),.binOp .shl 5 (tT 102) (.const (.int .u64 4)) 174,5,.no,[5],[102]⟩,
 dM 7 104 4 9 .no [] [4],
 dM 8 105 6 3 .no [] [6],
 dB 9 106 .add 3 (tT 105) (zI 2) 3 3 .no [8] [105],
 ⟨10,(some 107),.index 9 (tT 104) (tT 106),5,.no,[7,9],[104,106]⟩,
 ⟨11,(some 108),.call ⟨.value (.func 120),#[(tT 107)],#[5]⟩,5,.no,[10,5],[107]⟩,
 dB 12 109 .or 5 (tT 103) (tT 108) 5 5 .no [6,11] [103,108],
 ⟨13,(some 110),.buildSlice 29 1 #[(0,(tT 109))],29,.no,[12],[109]⟩,
 ⟨14,(some 111),.call ⟨.builtin .append,#[(tT 97),(tT 110)],#[29,29]⟩,29,.no,[0,13,11],[97,110]⟩,
 ⟨15,(some 5),.assign (tT 111),29,.no,[14,14,0,1,2,3,4,5,6,7,8,9,10,11,12,13,14],[111]⟩])
 (.reg [jM 112 6 3,
 jB 113 .add 3 (tT 112) (zI 2) 3 3,
 jA 6 113 3])))
 (.reg [⟨(some 68),.build 128 #[],128,.no⟩,
 ⟨(some 69),.makeInterface 128 (tT 68),20,.no⟩,
 ⟨none,.panic (tT 69),0,.no⟩])))))))))))))))))
 (.reg [jM 36 6 3,
 jB 37 .add 3 (tT 36) (zI 1) 3 3,
 jA 6 37 3]))))))
 (qR [jM 114 5 29,
 jA 2 114 29]
 .ret)))))))
theorem e91:(Tryz.f91.body.map Qa2)=some s91:=by kernel_rfl
noncomputable def s92:SCode:=(qR [⟨(some 3),.box 36 (tT 1),0,.no⟩]
 (.reg [jM 4 0 62,
 jF 5 36 3 5,
 jL 6 29 5,
 jC 7 93 #[(tT 6)] #[29] 9,
 jC 8 47 #[(tT 4),(tT 7)] #[62,9] 0]))
theorem e92:(Tryz.f92.body.map Qa2)=some s92:=by kernel_rfl
noncomputable def s93:SCode:=(qR [jK 2 (zS []) 9]
 (qR [jW 3 65]
 (qR [jC 6 29 #[(tT 3),(zU 34)] #[65,5] 69]
 (.seq (qR [jM 7 0 29,
 jZ 8 7 29,
 ⟨(some 9),.move (zI 0),3,.no⟩]
 (.block 0 (.loop (qR [jB 10 .lss 3 (tT 9) (tT 8) 3 0]
 (.seq (.cond (tT 10) .skip
 (.exit 0))
 (.seq (.block 1 (qR [jI 11 29 (tT 7) (tT 9),
 jL 12 5 11,
 jA 5 12 5]
 (.block 2 (.seq (.block 7 (.seq (.block 6 (.seq (.block 5 (.seq (.block 4 (.seq (.block 3 (.seq (.seq (qR [jM 14 5 5,
 jB 15 .eql 5 (tT 14) (zU 34) 5 4,
 jM 16 15 4,
 jM 17 5 5 (jG 16),
 jB 18 .eql 5 (tT 17) (zU 92) 5 4 (jG 16),
 jP 19 (tT 16) (zB true) (tT 18),
 jA 13 19 4]
 (.cond (tT 13) (.exit 3)
 .skip))
 (.seq (qR [jM 21 5 5,
 jB 22 .geq 5 (tT 21) (zU 32) 5 4,
 jM 23 22 4,
 jM 24 5 5 (jT 23),
 jB 25 .leq 5 (tT 24) (zU 126) 5 4 (jT 23),
 jP 26 (tT 23) (tT 25) (zB false),
 jA 20 26 4]
 (.cond (tT 20) (.exit 4)
 .skip))
 (.seq (qR [jM 28 5 5,
 jB 29 .eql 5 (tT 28) (zU 10) 5 4,
 jA 27 29 4]
 (.cond (tT 27) (.exit 5)
 .skip))
 (qR [jM 31 5 5,
 jB 32 .eql 5 (tT 31) (zU 9) 5 4,
 jA 30 32 4]
 (.cond (tT 30) (.exit 6)
 .skip)))))
 (.exit 7)))
 (.reg [jC 33 29 #[(tT 3),(zU 92)] #[65,5] 69])))
 (qR [jM 34 5 5,
 jC 35 29 #[(tT 3),(tT 34)] #[65,5] 69]
 (.exit 2))))
 (qR [jC 36 26 #[(tT 3),(zS [92,110])] #[65,9] 70]
 (.exit 2))))
 (qR [jC 37 26 #[(tT 3),(zS [92,116])] #[65,9] 70]
 (.exit 2))))
 (.seq (qR [jC 38 26 #[(tT 3),(zS [92,120])] #[65,9] 70]
 (qR [jM 39 5 5,
 ⟨(some 40),.binOp .shr 5 (tT 39) (.const (.int .u64 4)) 174,5,.no⟩,
 ⟨(some 41),.index 9 (zS [48,49,50,51,52,53,54,55,56,57,97,98,99,100,101,102]) (tT 40),5,.no⟩,
 jC 42 29 #[(tT 3),(tT 41)] #[65,5] 69]
 (.reg [jM 43 5 5,
 jB 44 .and 5 (tT 43) (zU 15) 5 5,
 ⟨(some 45),.index 9 (zS [48,49,50,51,52,53,54,55,56,57,97,98,99,100,101,102]) (tT 44),5,.no⟩,
 jC 46 29 #[(tT 3),(tT 45)] #[65,5] 69])))
 (.exit 2))))))
 (.reg [jB 47 .add 3 (tT 9) (zI 1) 3 3,
 jM 9 47 3])))))))
 (qR [jC 48 29 #[(tT 3),(zU 34)] #[65,5] 69]
 (qR [jC 49 33 #[(tT 3)] #[65] 9,
 jA 2 49 9]
 .ret))))))
theorem e93:(Tryz.f93.body.map Qa2)=some s93:=by kernel_rfl
noncomputable def s94:SCode:=(.reg [jM 4 1 116,
 jM 5 0 130,
 jC 6 95 #[(tT 5)] #[130] 3,
 jN 7 4,
 jF 8 36 7 8,
 jS 3 8 6])
theorem e94:(Tryz.f94.body.map Qa2)=some s94:=by kernel_rfl
noncomputable def s95:SCode:=(qR [jK 2 (zI 0) 3]
 (.seq (qR [jM 3 0 130,
 jC 4 73 #[(tT 3)] #[130] 9]
 (.block 0 (qR [jB 6 .eql 9 (tT 4) (zS [101,120,112,114,101,115,115]) 9 4,
 jA 5 6 4]
 (.cond (tT 5) (qR [jK 2 (zI 1) 3]
 .ret)
 (qR [jB 8 .eql 9 (tT 4) (zS [102,114,101,105,103,104,116]) 9 4,
 jA 7 8 4]
 (.cond (tT 7) (qR [jK 2 (zI 2) 3]
 .ret)
 .skip))))))
 (.reg [⟨(some 9),.build 128 #[],128,.no⟩,
 ⟨(some 10),.makeInterface 128 (tT 9),20,.no⟩,
 ⟨none,.panic (tT 10),0,.no⟩])))
theorem e95:(Tryz.f95.body.map Qa2)=some s95:=by kernel_rfl
noncomputable def s96:SCode:=(qR [⟨(some 3),.box 36 (tT 1),0,.no⟩]
 (.reg [jM 4 0 62,
 ⟨(some 5),.build 149 #[(1,(zS [101,120,112,114,101,115,115])),(2,(zS [102,114,101,105,103,104,116]))],149,.no⟩,
 jF 6 36 3 8,
 jL 7 3 6,
 ⟨(some 8),.index 149 (tT 5) (tT 7),9,.no⟩,
 jC 9 47 #[(tT 4),(tT 8)] #[62,9] 0]))
theorem e96:(Tryz.f96.body.map Qa2)=some s96:=by kernel_rfl
noncomputable def s97:SCode:=(qR [⟨(some 2),.assign (.const (.pointer none)),117,.no⟩]
 (qR [jM 3 0 116,
 jN 4 3,
 jF 5 36 4 9,
 jA 2 5 117]
 .ret))
theorem e97:(Tryz.f97.body.map Qa2)=some s97:=by kernel_rfl
noncomputable def s98:SCode:=(qR [⟨(some 2),.assign (.const (.pointer none)),117,.no⟩]
 (qR [jM 3 0 116,
 jN 4 3,
 jF 5 36 4 10,
 jA 2 5 117]
 .ret))
theorem e98:(Tryz.f98.body.map Qa2)=some s98:=by kernel_rfl
noncomputable def s99:SCode:=(.reg [jM 4 1 116,
 jM 5 0 130,
 jC 6 100 #[(tT 5),(.const (.int .u64 4294967295))] #[130,22] 22,
 ⟨(some 7),.convert 22 33 (tT 6),33,.no⟩,
 jN 8 4,
 jF 9 36 8 11,
 jS 33 9 7])
theorem e99:(Tryz.f99.body.map Qa2)=some s99:=by kernel_rfl
noncomputable def s100:SCode:=(qR [⟨(some 4),.assign (.const (.int .u64 0)),22,.no⟩]
 (qR [jM 5 0 130,
 jC 6 73 #[(tT 5)] #[130] 9,
 jM 7 1 22,
 jC 8 119 #[(tT 6),(tT 7)] #[9,22] 22,
 jA 4 8 22]
 .ret))
theorem e100:(Tryz.f100.body.map Qa2)=some s100:=by kernel_rfl
noncomputable def s101:SCode:=(qR [⟨(some 3),.box 36 (tT 1),0,.no⟩]
 (.reg [jM 4 0 62,
 jF 5 36 3 11,
 jL 6 33 5,
 ⟨(some 7),.convert 33 22 (tT 6),22,.no⟩,
 jC 8 28 #[(tT 4),(tT 7)] #[62,22] 0]))
theorem e101:(Tryz.f101.body.map Qa2)=some s101:=by kernel_rfl
noncomputable def s102:SCode:=(.block 0 (.loop (.seq (qR [jM 4 0 130,
 jN 5 4,
 jF 6 132 5 0,
 jL 7 54 6,
 jZ 8 7 54,
 jB 9 .gtr 3 (tT 8) (zI 0) 3 4]
 (.cond (tT 9) .skip
 (.exit 0)))
 (.block 1 (.drw [dM 0 10 1 116 .no [] [1],
 dM 1 11 1 116 .no [] [1],
 ⟨2,(some 12),.nilCheck (tT 11),0,.no,[1],[11]⟩,
 dF 3 13 36 12 13 .no [2] [12],
 dL 4 14 34 13 .no [3] [13],
 dM 5 15 0 130 .no [] [0],
 ⟨6,(some 16),.call ⟨.value (.func 84),#[(tT 15)],#[130]⟩,3,.no,[5],[15]⟩,
 ⟨7,(some 17),.buildSlice 34 1 #[(0,(tT 16))],34,.no,[6],[16]⟩,
 ⟨8,(some 18),.call ⟨.builtin .append,#[(tT 14),(tT 17)],#[34,34]⟩,34,.no,[4,7,6],[14,17]⟩,
 ⟨9,(some 19),.nilCheck (tT 10),0,.no,[0,0,1,2,3,4,5,6,7,8],[10]⟩,
 dF 10 20 36 19 13 .no [9,0,1,2,3,4,5,6,7,8] [19],
 ⟨11,none,.store 34 (tT 20) (tT 18),0,.no,[10,8,8,0,1,2,3,4,5,6,7,8],[20,18]⟩])))))
theorem e102:(Tryz.f102.body.map Qa2)=some s102:=by kernel_rfl
noncomputable def s103:SCode:=(qR [⟨(some 3),.box 36 (tT 1),0,.no⟩]
 (qR [jF 6 36 3 13,
 jL 7 34 6,
 jZ 8 7 34,
 ⟨(some 9),.move (zI 0),3,.no⟩]
 (.block 0 (.loop (qR [jB 10 .lss 3 (tT 9) (tT 8) 3 0]
 (.seq (.cond (tT 10) .skip
 (.exit 0))
 (.seq (.block 1 (qR [jI 11 34 (tT 7) (tT 9),
 jL 12 3 11,
 jA 5 12 3]
 (.reg [jM 13 0 62,
 jM 14 5 3,
 jC 15 27 #[(tT 13),(tT 14)] #[62,3] 0])))
 (.reg [jB 16 .add 3 (tT 9) (zI 1) 3 3,
 jM 9 16 3]))))))))
theorem e103:(Tryz.f103.body.map Qa2)=some s103:=by kernel_rfl
noncomputable def s104:SCode:=(qR [⟨(some 2),.assign (.const (.pointer none)),117,.no⟩]
 (qR [jM 3 0 116,
 jN 4 3,
 jF 5 36 4 14,
 jA 2 5 117]
 .ret))
theorem e104:(Tryz.f104.body.map Qa2)=some s104:=by kernel_rfl
noncomputable def s106:SCode:=(.seq (qR [jL 9 9 1,
 jZ 10 9 9,
 jB 11 .eql 3 (tT 10) (zI 0) 3 4]
 (.cond (tT 11) (.seq (.block 0 (.loop (.seq (qR [jL 12 9 2,
 jZ 13 12 9,
 jB 14 .gtr 3 (tT 13) (zI 0) 3 4]
 (.cond (tT 14) .skip
 (.exit 0)))
 (.block 1 (qR [jL 16 9 2,
 jC 17 107 #[(tT 16)] #[9] 152,
 jM 15 17 152,
 jE 18 15 0 21,
 jE 19 15 1 3,
 jA 5 18 21,
 jA 6 19 3]
 (.seq (qR [jM 20 0 52,
 jL 21 9 2,
 jM 22 6 3,
 ⟨(some 23),.slice 9 (tT 21) none (some (tT 22)) none,9,.no⟩,
 ⟨(some 24),.call ⟨.value (tT 20),#[(tT 23)],#[9]⟩,4,.no⟩,
 ⟨(some 25),.unOp .not 4 (tT 24),4,.no⟩]
 (.cond (tT 25) .ret
 .skip))
 (.reg [jL 26 9 2,
 jM 27 6 3,
 ⟨(some 28),.slice 9 (tT 26) (some (tT 27)) none none,9,.no⟩,
 jS 9 2 28])))))))
 .ret)
 .skip))
 (.seq (.block 2 (.loop (.block 3 (qR [jL 29 9 2,
 jL 30 9 1,
 jC 31 108 #[(tT 29),(tT 30)] #[9,9] 3,
 jA 7 31 3]
 (.seq (qR [jM 32 7 3,
 jB 33 .lss 3 (tT 32) (zI 0) 3 4]
 (.cond (tT 33) (.exit 2)
 .skip))
 (qR [jL 34 9 2,
 jM 35 7 3,
 jL 36 3 3,
 jB 37 .add 3 (tT 35) (tT 36) 3 3,
 ⟨(some 38),.slice 9 (tT 34) none (some (tT 37)) none,9,.no⟩,
 jA 8 38 9]
 (.seq (qR [jM 39 0 52,
 jM 40 8 9,
 ⟨(some 41),.call ⟨.value (tT 39),#[(tT 40)],#[9]⟩,4,.no⟩,
 ⟨(some 42),.unOp .not 4 (tT 41),4,.no⟩]
 (.cond (tT 42) .ret
 .skip))
 (.reg [jL 43 9 2,
 jM 44 7 3,
 jL 45 9 1,
 jZ 46 45 9,
 jB 47 .add 3 (tT 44) (tT 46) 3 3,
 ⟨(some 48),.slice 9 (tT 43) (some (tT 47)) none none,9,.no⟩,
 jS 9 2 48]))))))))
 (.reg [jM 49 0 52,
 jL 50 9 2,
 ⟨(some 51),.call ⟨.value (tT 49),#[(tT 50)],#[9]⟩,4,.no⟩])))
theorem e106:(Tryz.f106.body.map Qa2)=some s106:=by kernel_rfl
noncomputable def s119:SCode:=(qR [⟨(some 4),.assign (.const (.int .u64 0)),22,.no⟩]
 (qR [jM 7 0 9,
 jB 8 .neq 9 (tT 7) (zS []) 9 4,
 jM 9 8 4,
 jM 10 0 9 (jT 9),
 ⟨(some 11),.index 9 (tT 10) (zI 0),5,(jT 9)⟩,
 jB 12 .geq 5 (tT 11) (zU 48) 5 4 (jT 9),
 jP 13 (tT 9) (tT 12) (zB false),
 jM 14 13 4,
 jM 15 0 9 (jT 14),
 ⟨(some 16),.index 9 (tT 15) (zI 0),5,(jT 14)⟩,
 jB 17 .leq 5 (tT 16) (zU 57) 5 4 (jT 14),
 jP 18 (tT 14) (tT 17) (zB false),
 jM 19 18 4,
 jM 20 0 9 (jT 19),
 jB 21 .eql 9 (tT 20) (zS [48]) 9 4 (jT 19),
 jM 22 21 4 (jT 19),
 jM 23 0 9 (jG 22),
 ⟨(some 24),.index 9 (tT 23) (zI 0),5,(jG 22)⟩,
 jB 25 .neq 5 (tT 24) (zU 48) 5 4 (jG 22),
 jP 26 (tT 22) (zB true) (tT 25) (jT 19),
 jP 27 (tT 19) (tT 26) (zB false),
 jC 28 75 #[(tT 27)] #[4] 0]
 (qR [jM 30 0 9,
 jC 31 130 #[(tT 30),(zI 10),(zI 64)] #[9,3,3] 180,
 jM 29 31 180,
 jE 32 29 0 22,
 jE 33 29 1 69,
 jA 5 32 22,
 jA 6 33 69]
 (qR [jM 34 6 69,
 ⟨(some 35),.binOp .eql 69 (tT 34) (.const .nilIface) 69,4,.no⟩,
 jM 36 35 4,
 jM 37 5 22 (jT 36),
 jM 38 1 22 (jT 36),
 jB 39 .leq 22 (tT 37) (tT 38) 22 4 (jT 36),
 jP 40 (tT 36) (tT 39) (zB false),
 jC 41 75 #[(tT 40)] #[4] 0]
 (qR [jM 42 5 22,
 jA 4 42 22]
 .ret)))))
theorem e119:(Tryz.f119.body.map Qa2)=some s119:=by kernel_rfl
noncomputable def s120:SCode:=(qR [jK 2 (zU 0) 5]
 (qR [jM 4 0 5,
 jC 5 131 #[(zS [48,49,50,51,52,53,54,55,56,57,97,98,99,100,101,102]),(tT 4)] #[9,5] 3,
 jA 3 5 3]
 (qR [jM 6 3 3,
 jB 7 .geq 3 (tT 6) (zI 0) 3 4,
 jC 8 75 #[(tT 7)] #[4] 0]
 (qR [jM 9 3 3,
 ⟨(some 10),.convert 3 5 (tT 9),5,.no⟩,
 jA 2 10 5]
 .ret))))
theorem e120:(Tryz.f120.body.map Qa2)=some s120:=by kernel_rfl
end Go.Proofs.YtgmkbdmgifdfeaaGreatDoor

