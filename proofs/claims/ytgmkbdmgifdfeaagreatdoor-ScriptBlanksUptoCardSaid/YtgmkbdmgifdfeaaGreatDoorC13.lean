/- A part of a proof: ScriptBlanks. -/
import Derived.Test.YtgmkbdmgifdfeaaGreatDoorC12
set_option linter.unusedVariables false
set_option linter.unusedSimpArgs false
set_option maxRecDepth 10000
namespace Go.Proofs.YtgmkbdmgifdfeaaGreatDoor
open Go Go.Ev
theorem Qay {f:FuncId} {fd:Func} {s:SCode} {n:Nat} {rs:List ResultVar} {args:List Value} {m:Mem} {R:OutA→Mem→Prop} (hf:Tryz.prog.funcs[f]? = some fd) (he:fd.body.map Qa6=some s) (hn:fd.ntmps=n) (hr:fd.results.toList=rs)
  (h:wpX tb ⟨f,.normal,none⟩ s (args++List.replicate (n-args.length) undef) [] m (endX tb rs R)):Qar tb f args m R:=by
 cases hb:fd.body with
 |none=>rw [hb] at he;cases he
 |some c =>
  rw [hb] at he
  exact callsZ (fget hf) hb (Kai he) hn hr h
abbrev tT (n:Nat):Operand:=.tmp n
abbrev zI (n:Int):Operand:=.const (.int .i64 n)
abbrev zU (n:Int):Operand:=.const (.int .u8 n)
abbrev zS (l:List UInt8):Operand:=.const (.string ⟨⟨l⟩⟩)
abbrev zB (b:Bool):Operand:=.const (.bool b)
abbrev jT (n:Nat):SG:=.on n true
abbrev jG (n:Nat):SG:=.on n false
abbrev jM (d x t:Nat)(g:SG:=.no):SOp:=⟨some d,.move (.tmp x),t,g⟩
abbrev jA (d x t:Nat):SOp:=⟨some d,.assign (.tmp x),t,.no⟩
abbrev jK (d:Nat)(x:Operand)(t:Nat):SOp:=⟨some d,.assign x,t,.no⟩
abbrev jF (d t x i:Nat)(g:SG:=.no):SOp:=⟨some d,.fieldAddr t (.tmp x) i,0,g⟩
abbrev jL (d t x:Nat)(g:SG:=.no):SOp:=⟨some d,.load t (.tmp x),t,g⟩
abbrev jN (d x:Nat)(g:SG:=.no):SOp:=⟨some d,.nilCheck (.tmp x),0,g⟩
abbrev jS (t a x:Nat)(g:SG:=.no):SOp:=⟨none,.store t (.tmp a) (.tmp x),0,g⟩
abbrev jB (d:Nat)(o:BinOp)(t:Nat)(x y:Operand)(u v:Nat)(g:SG:=.no):SOp:=⟨some d,.binOp o t x y u,v,g⟩
abbrev jP (d:Nat)(c x y:Operand)(g:SG:=.no):SOp:=⟨some d,.pick c x y,4,g⟩
abbrev jI (d t:Nat)(x y:Operand)(g:SG:=.no):SOp:=⟨some d,.indexAddr t x y,0,g⟩
abbrev jE (d x i t:Nat):SOp:=⟨some d,.extract (.tmp x) i,t,.no⟩
abbrev jZ (d x t:Nat)(g:SG:=.no):SOp:=⟨some d,.call ⟨.builtin .len,#[.tmp x],#[t]⟩,3,g⟩
abbrev jC (d:Nat)(f:Nat)(a:Array Operand)(t:Array TypeId)(u:Nat)(g:SG:=.no):SOp:=⟨some d,.call ⟨.value (.func f),a,t⟩,u,g⟩
abbrev jW (d t:Nat)(g:SG:=.no):SOp:=⟨some d,.alloc t,0,g⟩
abbrev qR (l:List SOp)(s:SCode):SCode:=.seq (.reg l) s
abbrev dM (i d x t:Nat)(g:SG)(e n:List Nat):DOp:=⟨i,some d,.move (.tmp x),t,g,e,n⟩
abbrev dL (i d t x:Nat)(g:SG)(e n:List Nat):DOp:=⟨i,some d,.load t (.tmp x),t,g,e,n⟩
abbrev dF (i d t x k:Nat)(g:SG)(e n:List Nat):DOp:=⟨i,some d,.fieldAddr t (.tmp x) k,0,g,e,n⟩
abbrev dI (i d t:Nat)(x y:Operand)(g:SG)(e n:List Nat):DOp:=⟨i,some d,.indexAddr t x y,0,g,e,n⟩
abbrev dB (i d:Nat)(o:BinOp)(t:Nat)(x y:Operand)(u v:Nat)(g:SG)(e n:List Nat):DOp:=⟨i,some d,.binOp o t x y u,v,g,e,n⟩
noncomputable def s8:SCode:=(qR [jK 6 (zB false) 4]
 (qR [jK 7 (zI 0) 3]
 (.seq (qR [jM 22 0 9,
 jZ 23 22 9,
 jB 24 .gtr 3 (tT 23) (zI 0) 3 4]
 (.cond (tT 24) (.reg [jM 25 1 3,
 jM 26 0 9,
 jZ 27 26 9,
 jB 28 .rem 3 (tT 25) (tT 27) 3 3,
 jM 29 0 9,
 jZ 30 29 9,
 jB 31 .add 3 (tT 28) (tT 30) 3 3,
 jM 32 0 9,
 jZ 33 32 9,
 jB 34 .rem 3 (tT 31) (tT 33) 3 3,
 jA 7 34 3])
 .skip))
 (.seq (.block 0 (.loop (.seq (qR [jM 35 7 3,
 jM 36 0 9,
 jZ 37 36 9,
 jB 38 .lss 3 (tT 35) (tT 37) 3 4,
 jM 39 38 4,
 jM 40 0 9 (jT 39),
 jM 41 7 3 (jT 39),
 ⟨(some 42),.index 9 (tT 40) (tT 41),5,(jT 39)⟩,
 jB 43 .neq 5 (tT 42) (zU 10) 5 4 (jT 39),
 jP 44 (tT 39) (tT 43) (zB false)]
 (.cond (tT 44) .skip
 (.exit 0)))
 (.block 1 (.reg [jM 45 7 3,
 jB 46 .add 3 (tT 45) (zI 1) 3 3,
 jA 7 46 3])))))
 (qR [⟨(some 47),.buildSlice 54 5 #[(0,(zS [32])),(1,(zS [9,32,9])),(2,(zS [10])),(3,(zS [10,35,32,115,97,105,100,32,34,98,121,32,110,111,98,111,100,121])),(4,(zS [10,32,9]))],54,.no⟩,
 jA 8 47 54]
 (qR [jM 48 8 54,
 jM 49 2 3,
 jB 50 .rem 3 (tT 49) (zI 5) 3 3,
 jB 51 .add 3 (tT 50) (zI 5) 3 3,
 jB 52 .rem 3 (tT 51) (zI 5) 3 3,
 jI 53 54 (tT 48) (tT 52),
 jL 54 9 53,
 jA 9 54 9]
 (.seq (qR [jM 55 0 9,
 jZ 56 55 9,
 jM 57 9 9,
 jZ 58 57 9,
 jB 59 .add 3 (tT 56) (tT 58) 3 3,
 jB 60 .gtr 3 (tT 59) (zI 1048576) 3 4]
 (.cond (tT 60) (qR [jK 6 (zB true) 4]
 .ret)
 .skip))
 (qR [jM 62 0 9,
 jC 63 19 #[(tT 62)] #[9] 48,
 jM 61 63 48,
 jE 64 61 0 26,
 jE 65 61 1 27,
 jE 66 61 2 3,
 jE 67 61 3 38,
 jW 10 26,
 jS 26 10 64,
 jA 11 65 27,
 jA 12 66 3,
 jA 13 67 38]
 (.seq (.drw [dM 0 69 0 9 .no [] [0],
 dM 1 70 7 3 .no [] [7],
 ⟨2,(some 71),.slice 9 (tT 69) none (some (tT 70)) none,9,.no,[0,1],[69,70]⟩,
 dM 3 72 9 9 .no [] [9],
 dB 4 73 .add 9 (tT 71) (tT 72) 9 9 .no [2,3] [71,72],
 dM 5 74 0 9 .no [] [0],
 dM 6 75 7 3 .no [] [7],
 ⟨7,(some 76),.slice 9 (tT 74) (some (tT 75)) none none,9,.no,[5,6],[74,75]⟩,
 dB 8 77 .add 9 (tT 73) (tT 76) 9 9 .no [4,7] [73,76],
 ⟨9,(some 78),.call ⟨.value (.func 19),#[(tT 77)],#[9]⟩,48,.no,[8],[77]⟩,
 dM 10 68 78 48 .no [9] [78],
 ⟨11,(some 79),.extract (tT 68) 0,26,.no,[10],[68]⟩,
 ⟨12,(some 80),.extract (tT 68) 1,27,.no,[10],[68]⟩,
 ⟨13,(some 81),.extract (tT 68) 2,3,.no,[10],[68]⟩,
 ⟨14,(some 82),.extract (tT 68) 3,38,.no,[10],[68]⟩,
 ⟨15,(some 14),.alloc 26,0,.no,[],[]⟩,
 ⟨16,none,.store 26 (tT 14) (tT 79),0,.no,[15,11,9,0,1,2,3,4,5,6,7,8,9,10,11,15],[14,79]⟩,
 ⟨17,(some 15),.assign (tT 80),27,.no,[12,16,0,1,2,3,4,5,6,7,8,9,10,11,12,15,16],[80]⟩,
 ⟨18,(some 16),.assign (tT 81),3,.no,[13,17,0,1,2,3,4,5,6,7,8,9,10,11,12,13,15,16,17],[81]⟩,
 ⟨19,(some 17),.assign (tT 82),38,.no,[14,18,0,1,2,3,4,5,6,7,8,9,10,11,12,13,14,15,16,17,18],[82]⟩])
 (.seq (qR [jM 83 13 38,
 jC 84 15 #[(tT 83)] #[38] 3,
 jM 85 17 38,
 jC 86 15 #[(tT 85)] #[38] 3,
 jB 87 .neq 3 (tT 84) (tT 86) 3 4,
 jM 88 87 4,
 jL 89 26 10 (jG 88),
 jL 90 26 14 (jG 88),
 jB 91 .neq 26 (tT 89) (tT 90) 26 4 (jG 88),
 jP 92 (tT 88) (zB true) (tT 91),
 jM 93 92 4,
 jM 94 11 27 (jG 93),
 jM 95 15 27 (jG 93),
 jC 96 16 #[(tT 94),(tT 95)] #[27,27] 4 (jG 93),
 ⟨(some 97),.unOp .not 4 (tT 96),4,(jG 93)⟩,
 jP 98 (tT 93) (zB true) (tT 97),
 jM 99 98 4,
 jC 100 21 #[] #[] 4 (jG 99),
 ⟨(some 101),.unOp .not 4 (tT 100),4,(jG 99)⟩,
 jP 102 (tT 99) (zB true) (tT 101)]
 (.cond (tT 102) (qR [jK 6 (zB false) 4]
 .ret)
 .skip))
 (.seq (.drw [dM 0 104 0 9 .no [] [0],
 dM 1 105 7 3 .no [] [7],
 ⟨2,(some 106),.slice 9 (tT 104) none (some (tT 105)) none,9,.no,[0,1],[104,105]⟩,
 dM 3 107 9 9 .no [] [9],
 dB 4 108 .add 9 (tT 106) (tT 107) 9 9 .no [2,3] [106,107],
 dM 5 109 0 9 .no [] [0],
 dM 6 110 7 3 .no [] [7],
 ⟨7,(some 111),.slice 9 (tT 109) (some (tT 110)) none none,9,.no,[5,6],[109,110]⟩,
 dB 8 112 .add 9 (tT 108) (tT 111) 9 9 .no [4,7] [108,111],
 ⟨9,(some 113),.call ⟨.value (.func 20),#[(tT 112)],#[9]⟩,50,.no,[8],[112]⟩,
 dM 10 103 113 50 .no [9] [113],
 ⟨11,(some 114),.extract (tT 103) 0,26,.no,[10],[103]⟩,
 ⟨12,(some 115),.extract (tT 103) 1,27,.no,[10],[103]⟩,
 ⟨13,(some 116),.extract (tT 103) 2,3,.no,[10],[103]⟩,
 ⟨14,(some 117),.extract (tT 103) 3,3,.no,[10],[103]⟩,
 ⟨15,(some 18),.alloc 26,0,.no,[],[]⟩,
 ⟨16,none,.store 26 (tT 18) (tT 114),0,.no,[15,11,9,0,1,2,3,4,5,6,7,8,9,10,11,15],[18,114]⟩,
 ⟨17,(some 19),.assign (tT 115),27,.no,[12,16,0,1,2,3,4,5,6,7,8,9,10,11,12,15,16],[115]⟩,
 ⟨18,(some 20),.assign (tT 116),3,.no,[13,17,0,1,2,3,4,5,6,7,8,9,10,11,12,13,15,16,17],[116]⟩,
 ⟨19,(some 21),.assign (tT 117),3,.no,[14,18,0,1,2,3,4,5,6,7,8,9,10,11,12,13,14,15,16,17,18],[117]⟩])
 (qR [jM 118 16 3,
 jM 119 20 3,
 jB 120 .eql 3 (tT 118) (tT 119) 3 4,
 jM 121 120 4,
 jM 122 12 3 (jT 121),
 jB 123 .eql 3 (tT 122) (zI 0) 3 4 (jT 121),
 jM 124 16 3 (jT 121),
 jB 125 .eql 3 (tT 124) (zI 0) 3 4 (jT 121),
 jB 126 .eql 4 (tT 123) (tT 125) 4 4 (jT 121),
 jP 127 (tT 121) (tT 126) (zB false),
 jA 6 127 4]
 .ret))))))))))))
theorem e8:(Tryz.f8.body.map Qa6)=some s8:=by kernel_rfl
noncomputable def s13:SCode:=(qR [⟨(some 2),.box 26 (tT 0),0,.no⟩,
 jK 4 (zS []) 9,
 jK 5 (zI 0) 38]
 (.seq (qR [jM 15 1 27,
 jZ 16 15 27,
 ⟨(some 17),.move (zI 0),3,.no⟩]
 (.block 0 (.loop (qR [jB 18 .lss 3 (tT 17) (tT 16) 3 0]
 (.seq (.cond (tT 18) .skip
 (.exit 0))
 (.seq (.block 1 (qR [jI 19 27 (tT 15) (tT 17),
 jL 20 36 19,
 jW 7 36,
 jS 36 7 20]
 (qR [jL 21 36 7,
 jC 22 25 #[(tT 21)] #[36] 4,
 ⟨(some 23),.unOp .not 4 (tT 22),4,.no⟩]
 (.cond (tT 23) (qR [jK 4 (zS []) 9,
 jK 5 (zI 202) 38]
 .ret)
 .skip))))
 (.reg [jB 24 .add 3 (tT 17) (zI 1) 3 3,
 jM 17 24 3])))))))
 (qR [⟨(some 25),.build 67 #[],67,.no⟩,
 ⟨(some 26),.box 67 (tT 25),62,.no⟩,
 jA 8 26 62]
 (qR [jM 27 8 62,
 jN 28 27,
 jF 29 67 28 0,
 jC 30 26 #[(tT 29),(zS [119,111,114,108,100])] #[65,9] 70]
 (qR [jM 31 8 62,
 jF 32 26 2 1,
 jL 33 3 32,
 jC 34 27 #[(tT 31),(tT 33)] #[62,3] 0]
 (qR [jM 35 8 62,
 jF 36 26 2 2,
 jL 37 3 36,
 jC 38 27 #[(tT 35),(tT 37)] #[62,3] 0]
 (qR [jM 39 8 62,
 jF 40 26 2 3,
 jL 41 22 40,
 jC 42 28 #[(tT 39),(tT 41)] #[62,22] 0]
 (qR [jM 43 8 62,
 jF 44 26 2 0,
 jF 45 24 44 0,
 jL 46 3 45,
 jC 47 27 #[(tT 43),(tT 46)] #[62,3] 0]
 (qR [jM 48 8 62,
 jF 49 26 2 0,
 jF 50 24 49 1,
 jL 51 22 50,
 jC 52 28 #[(tT 48),(tT 51)] #[62,22] 0]
 (qR [jM 53 8 62,
 jF 54 26 2 0,
 jF 55 24 54 2,
 jL 56 22 55,
 jC 57 28 #[(tT 53),(tT 56)] #[62,22] 0]
 (qR [jM 58 8 62,
 jF 59 26 2 0,
 jF 60 24 59 3,
 jL 61 3 60,
 jC 62 27 #[(tT 58),(tT 61)] #[62,3] 0]
 (qR [jM 63 8 62,
 jF 64 26 2 0,
 jF 65 24 64 4,
 jL 66 3 65,
 jC 67 27 #[(tT 63),(tT 66)] #[62,3] 0]
 (qR [jM 68 8 62,
 jF 69 26 2 0,
 jF 70 24 69 5,
 jL 71 3 70,
 jC 72 27 #[(tT 68),(tT 71)] #[62,3] 0]
 (qR [jM 73 8 62,
 jN 74 73,
 jF 75 67 74 0,
 jC 76 29 #[(tT 75),(zU 10)] #[65,5] 69]
 (qR [jC 77 30 #[] #[] 75,
 jA 9 77 75]
 (.seq (qR [jM 78 1 27,
 jZ 79 78 27,
 ⟨(some 80),.move (zI 0),3,.no⟩]
 (.block 2 (.loop (qR [jB 81 .lss 3 (tT 80) (tT 79) 3 0]
 (.seq (.cond (tT 81) .skip
 (.exit 2))
 (.seq (.block 3 (qR [jI 82 27 (tT 78) (tT 80),
 jL 83 36 82,
 jW 11 36,
 jS 36 11 83]
 (.seq (qR [jF 84 36 11 0,
 jL 85 3 84,
 jB 86 .neq 3 (tT 85) (zI 1) 3 4]
 (.cond (tT 86) (.drw [dM 0 87 8 62 .no [] [8],
 ⟨1,(some 88),.nilCheck (tT 87),0,.no,[0],[87]⟩,
 dF 2 89 67 88 0 .no [1] [88],
 dF 3 90 36 11 1 .no [] [11],
 dL 4 91 3 90 .no [3] [90],
 ⟨5,(some 92),.call ⟨.value (.func 31),#[(tT 91)],#[3]⟩,9,.no,[4],[91]⟩,
 dB 6 93 .add 9 (tT 92) (zS [32]) 9 9 .no [5] [92],
 ⟨7,(some 94),.call ⟨.value (.func 26),#[(tT 89),(tT 93)],#[65,9]⟩,70,.no,[2,6,5],[89,93]⟩])
 .skip))
 (qR [jM 95 9 75,
 jF 96 36 11 0,
 jL 97 3 96,
 jI 98 75 (tT 95) (tT 97),
 jL 99 80 98,
 jW 12 80,
 jS 80 12 99]
 (.seq (.drw [dM 0 100 8 62 .no [] [8],
 ⟨1,(some 101),.nilCheck (tT 100),0,.no,[0],[100]⟩,
 dF 2 102 67 101 0 .no [1] [101],
 dF 3 103 80 12 0 .no [] [12],
 dL 4 104 9 103 .no [3] [103],
 ⟨5,(some 105),.call ⟨.value (.func 26),#[(tT 102),(tT 104)],#[65,9]⟩,70,.no,[2,4],[102,104]⟩])
 (.seq (qR [jF 106 80 12 1,
 jL 107 78 106,
 jZ 108 107 78,
 ⟨(some 109),.move (zI 0),3,.no⟩]
 (.block 4 (.loop (qR [jB 110 .lss 3 (tT 109) (tT 108) 3 0]
 (.seq (.cond (tT 110) .skip
 (.exit 4))
 (.seq (.block 5 (qR [jI 111 78 (tT 107) (tT 109),
 jL 112 84 111,
 jW 14 84,
 jS 84 14 112]
 (.reg [jF 113 84 14 1,
 jL 114 82 113,
 jM 115 8 62,
 jL 116 36 11,
 ⟨(some 117),.call ⟨.value (tT 114),#[(tT 115),(tT 116)],#[62,36]⟩,0,.no⟩])))
 (.reg [jB 118 .add 3 (tT 109) (zI 1) 3 3,
 jM 109 118 3])))))))
 (.reg [jM 119 8 62,
 jN 120 119,
 jF 121 67 120 0,
 jC 122 29 #[(tT 121),(zU 10)] #[65,5] 69])))))))
 (.reg [jB 123 .add 3 (tT 80) (zI 1) 3 3,
 jM 80 123 3])))))))
 (.seq (.block 6 (qR [jM 125 8 62,
 jN 126 125,
 jF 127 67 126 1,
 jL 128 4 127,
 jA 124 128 4]
 (.cond (tT 124) (qR [jK 4 (zS []) 9,
 jK 5 (zI 12) 38]
 .ret)
 (qR [jM 130 8 62,
 jN 131 130,
 jF 132 67 131 0,
 jC 133 32 #[(tT 132)] #[65] 3,
 jB 134 .gtr 3 (tT 133) (zI 1048576) 3 4,
 jA 129 134 4]
 (.cond (tT 129) (qR [jK 4 (zS []) 9,
 jK 5 (zI 81) 38]
 .ret)
 .skip)))))
 (qR [jM 135 8 62,
 jN 136 135,
 jF 137 67 136 0,
 jC 138 33 #[(tT 137)] #[65] 9,
 jA 4 138 9,
 jK 5 (zI 0) 38]
 .ret))))))))))))))))))
theorem e13:(Tryz.f13.body.map Qa6)=some s13:=by kernel_rfl
noncomputable def s15:SCode:=(qR [jK 2 (zI 0) 3]
 (qR [jM 3 0 38,
 jA 2 3 3]
 .ret))
theorem e15:(Tryz.f15.body.map Qa6)=some s15:=by kernel_rfl
noncomputable def s16:SCode:=(qR [jK 4 (zB false) 4]
 (.seq (qR [jM 6 0 27,
 jZ 7 6 27,
 jM 8 1 27,
 jZ 9 8 27,
 jB 10 .neq 3 (tT 7) (tT 9) 3 4]
 (.cond (tT 10) (qR [jK 4 (zB false) 4]
 .ret)
 .skip))
 (.seq (qR [jK 5 (zI 0) 3]
 (.block 0 (.loop (.seq (qR [jM 11 5 3,
 jM 12 0 27,
 jZ 13 12 27,
 jB 14 .lss 3 (tT 11) (tT 13) 3 4]
 (.cond (tT 14) .skip
 (.exit 0)))
 (.seq (.block 1 (.seq (.drw [dM 0 17 0 27 .no [] [0],
 dM 1 18 5 3 .no [] [5],
 dI 2 19 27 (tT 17) (tT 18) .no [0,1] [17,18],
 dL 3 20 36 19 .no [2] [19],
 dM 4 21 1 27 .no [] [1],
 dM 5 22 5 3 .no [] [5],
 dI 6 23 27 (tT 21) (tT 22) .no [4,5] [21,22],
 dL 7 24 36 23 .no [6] [23],
 ⟨8,(some 25),.call ⟨.value (.func 38),#[(tT 20),(tT 24)],#[36,36]⟩,4,.no,[3,7],[20,24]⟩,
 ⟨9,(some 26),.unOp .not 4 (tT 25),4,.no,[8],[25]⟩])
 (.cond (tT 26) (qR [jK 4 (zB false) 4]
 .ret)
 .skip)))
 (.reg [jM 15 5 3,
 jB 16 .add 3 (tT 15) (zI 1) 3 3,
 jA 5 16 3]))))))
 (qR [jK 4 (zB true) 4]
 .ret))))
theorem e16:(Tryz.f16.body.map Qa6)=some s16:=by kernel_rfl
noncomputable def s20:SCode:=(qR [jW 2 26,
 ⟨(some 3),.assign (.const (.slice none 0 0)),27,.no⟩,
 jK 4 (zI 0) 3,
 jK 5 (zI 0) 3]
 (.seq (qR [jM 13 0 9,
 jZ 14 13 9,
 jB 15 .gtr 3 (tT 14) (zI 1048576) 3 4]
 (.cond (tT 15) (qR [⟨(some 16),.build 26 #[],26,.no⟩,
 jS 26 2 16,
 ⟨(some 3),.assign (.const (.slice none 0 0)),27,.no⟩,
 jK 4 (zI 0) 3,
 jK 5 (zI 81) 3]
 .ret)
 .skip))
 (qR [jW 6 26]
 (qR [⟨(some 7),.assign (.const (.slice none 0 0)),27,.no⟩]
 (qR [jK 8 (zB false) 4]
 (qR [jM 17 0 9,
 jC 18 41 #[(tT 17)] #[9] 54,
 jA 9 18 54]
 (.seq (qR [jK 10 (zI 0) 3]
 (.block 0 (.loop (.seq (qR [jM 19 10 3,
 jM 20 9 54,
 jZ 21 20 54,
 jB 22 .lss 3 (tT 19) (tT 21) 3 4]
 (.cond (tT 22) .skip
 (.exit 0)))
 (.seq (.block 1 (qR [jM 26 9 54,
 jM 27 10 3,
 jI 28 54 (tT 26) (tT 27),
 jL 29 9 28,
 jC 30 42 #[(tT 29)] #[9] 106,
 jM 25 30 106,
 jE 31 25 0 105,
 jE 32 25 1 4,
 jW 11 105,
 jS 105 11 31,
 jA 12 32 4]
 (.seq (qR [jM 33 12 4,
 ⟨(some 34),.unOp .not 4 (tT 33),4,.no⟩,
 jM 35 34 4,
 jF 36 105 11 0 (jG 35),
 jL 37 4 36 (jG 35),
 jM 38 37 4 (jG 35),
 jF 39 105 11 1 (jT 38),
 jL 40 4 39 (jT 38),
 jM 41 8 4 (jT 38),
 jB 42 .eql 4 (tT 40) (tT 41) 4 4 (jT 38),
 jP 43 (tT 38) (tT 42) (zB false) (jG 35),
 jP 44 (tT 35) (zB true) (tT 43)]
 (.cond (tT 44) (qR [⟨(some 45),.build 26 #[],26,.no⟩,
 jM 46 10 3,
 jB 47 .add 3 (tT 46) (zI 1) 3 3,
 jS 26 2 45,
 ⟨(some 3),.assign (.const (.slice none 0 0)),27,.no⟩,
 jA 4 47 3,
 jK 5 (zI 210) 3]
 .ret)
 .skip))
 (.seq (qR [jF 48 105 11 0,
 jL 49 4 48,
 ⟨(some 50),.unOp .not 4 (tT 49),4,.no⟩]
 (.cond (tT 50) (.exit 1)
 .skip))
 (qR [jF 51 105 11 1,
 jL 52 4 51]
 (.cond (tT 52) (qR [jF 53 105 11 2,
 jL 54 26 53,
 jS 26 6 54]
 (.reg [jK 8 (zB true) 4]))
 (.reg [jM 55 7 27,
 jF 56 105 11 3,
 jL 57 36 56,
 ⟨(some 58),.buildSlice 27 1 #[(0,(tT 57))],27,.no⟩,
 ⟨(some 59),.call ⟨.builtin .append,#[(tT 55),(tT 58)],#[27,27]⟩,27,.no⟩,
 jA 7 59 27])))))))
 (.reg [jM 23 10 3,
 jB 24 .add 3 (tT 23) (zI 1) 3 3,
 jA 10 24 3]))))))
 (.seq (qR [jM 60 8 4,
 ⟨(some 61),.unOp .not 4 (tT 60),4,.no⟩]
 (.cond (tT 61) (qR [⟨(some 62),.build 26 #[],26,.no⟩,
 jS 26 2 62,
 ⟨(some 3),.assign (.const (.slice none 0 0)),27,.no⟩,
 jK 4 (zI 1) 3,
 jK 5 (zI 210) 3]
 .ret)
 .skip))
 (qR [jL 63 26 6,
 jM 64 7 27,
 jS 26 2 63,
 jA 3 64 27,
 jK 4 (zI 0) 3,
 jK 5 (zI 0) 3]
 .ret)))))))))
theorem e20:(Tryz.f20.body.map Qa6)=some s20:=by kernel_rfl
noncomputable def s21:SCode:=(qR [jK 0 (zB false) 4]
 (qR [jC 7 19 #[(zS [119,111,114,108,100,32,50,53,54,32,49,54,32,49,48,48,32,54,52,32,49,48,32,50,48,32,50,32,50,32,52,10,10,49,32,99,114,97,115,104,32,49,32,45,50,10,35,32,101,110,100])] #[9] 48,
 jM 6 7 48,
 jE 8 6 0 26,
 jE 9 6 1 27,
 jE 10 6 2 3,
 jE 11 6 3 38,
 jW 1 26,
 jS 26 1 8,
 jA 2 9 27,
 jA 3 10 3,
 jA 4 11 38]
 (.seq (qR [jM 12 4 38,
 jC 13 15 #[(tT 12)] #[38] 3,
 jB 14 .neq 3 (tT 13) (zI 0) 3 4,
 jM 15 14 4,
 jM 16 3 3 (jG 15),
 jB 17 .neq 3 (tT 16) (zI 0) 3 4 (jG 15),
 jP 18 (tT 15) (zB true) (tT 17),
 jM 19 18 4,
 jF 20 26 1 1 (jG 19),
 jL 21 3 20 (jG 19),
 jB 22 .neq 3 (tT 21) (zI 256) 3 4 (jG 19),
 jP 23 (tT 19) (zB true) (tT 22),
 jM 24 23 4,
 jF 25 26 1 0 (jG 24),
 jF 26 24 25 5 (jG 24),
 jL 27 3 26 (jG 24),
 jB 28 .neq 3 (tT 27) (zI 4) 3 4 (jG 24),
 jP 29 (tT 24) (zB true) (tT 28),
 jM 30 29 4,
 jM 31 2 27 (jG 30),
 jZ 32 31 27 (jG 30),
 jB 33 .neq 3 (tT 32) (zI 1) 3 4 (jG 30),
 jP 34 (tT 30) (zB true) (tT 33),
 jM 35 34 4,
 jM 36 2 27 (jG 35),
 jI 37 27 (tT 36) (zI 0) (jG 35),
 jF 38 36 37 0 (jG 35),
 jL 39 3 38 (jG 35),
 jB 40 .neq 3 (tT 39) (zI 14) 3 4 (jG 35),
 jP 41 (tT 35) (zB true) (tT 40),
 jM 42 41 4,
 jM 43 2 27 (jG 42),
 jI 44 27 (tT 43) (zI 0) (jG 42),
 jF 45 36 44 13 (jG 42),
 jL 46 34 45 (jG 42),
 jZ 47 46 34 (jG 42),
 jB 48 .neq 3 (tT 47) (zI 2) 3 4 (jG 42),
 jP 49 (tT 42) (zB true) (tT 48),
 jM 50 49 4,
 jM 51 2 27 (jG 50),
 jI 52 27 (tT 51) (zI 0) (jG 50),
 jF 53 36 52 13 (jG 50),
 jL 54 34 53 (jG 50),
 jI 55 34 (tT 54) (zI 1) (jG 50),
 jL 56 3 55 (jG 50),
 jB 57 .neq 3 (tT 56) (zI (-2)) 3 4 (jG 50),
 jP 58 (tT 50) (zB true) (tT 57)]
 (.cond (tT 58) (qR [jK 0 (zB false) 4]
 .ret)
 .skip))
 (qR [jL 60 26 1,
 jM 61 2 27,
 jC 62 13 #[(tT 60),(tT 61)] #[26,27] 39,
 jM 59 62 39,
 jE 63 59 0 9,
 jE 64 59 1 38,
 jA 5 63 9,
 jA 4 64 38]
 (qR [jM 65 4 38,
 jC 66 15 #[(tT 65)] #[38] 3,
 jB 67 .eql 3 (tT 66) (zI 0) 3 4,
 jM 68 67 4,
 jM 69 5 9 (jT 68),
 jB 70 .eql 9 (tT 69) (zS [119,111,114,108,100,32,50,53,54,32,49,54,32,49,48,48,32,54,52,32,49,48,32,50,48,32,50,32,50,32,52,10,49,32,99,114,97,115,104,32,49,32,45,50,10]) 9 4 (jT 68),
 jP 71 (tT 68) (tT 70) (zB false),
 jA 0 71 4]
 .ret)))))
theorem e21:(Tryz.f21.body.map Qa6)=some s21:=by kernel_rfl
noncomputable def s25:SCode:=(qR [⟨(some 1),.box 36 (tT 0),0,.no⟩,
 jK 2 (zB false) 4]
 (.seq (qR [jF 3 36 1 0,
 jL 4 3 3,
 jB 5 .lss 3 (tT 4) (zI 1) 3 4,
 jM 6 5 4,
 jF 7 36 1 0 (jG 6),
 jL 8 3 7 (jG 6),
 jB 9 .gtr 3 (tT 8) (zI 22) 3 4 (jG 6),
 jP 10 (tT 6) (zB true) (tT 9)]
 (.cond (tT 10) (qR [jK 2 (zB false) 4]
 .ret)
 .skip))
 (.seq (qR [jF 11 36 1 0,
 jL 12 3 11,
 jB 13 .neq 3 (tT 12) (zI 1) 3 4,
 jM 14 13 4,
 jF 15 36 1 1 (jT 14),
 jL 16 3 15 (jT 14),
 jB 17 .neq 3 (tT 16) (zI 1) 3 4 (jT 14),
 jP 18 (tT 14) (tT 17) (zB false),
 jM 19 18 4,
 jF 20 36 1 1 (jT 19),
 jL 21 3 20 (jT 19),
 jB 22 .neq 3 (tT 21) (zI 2) 3 4 (jT 19),
 jP 23 (tT 19) (tT 22) (zB false)]
 (.cond (tT 23) (qR [jK 2 (zB false) 4]
 .ret)
 .skip))
 (qR [jF 24 36 1 0,
 jL 25 3 24,
 jC 26 45 #[(tT 25)] #[3] 4,
 ⟨(some 27),.unOp .not 4 (tT 26),4,.no⟩,
 jM 28 27 4,
 jF 29 36 1 8 (jG 28),
 jL 30 3 29 (jG 28),
 jB 31 .eql 3 (tT 30) (zI 1) 3 4 (jG 28),
 jP 32 (tT 28) (zB true) (tT 31),
 jM 33 32 4,
 jF 34 36 1 8 (jG 33),
 jL 35 3 34 (jG 33),
 jB 36 .eql 3 (tT 35) (zI 2) 3 4 (jG 33),
 jP 37 (tT 33) (zB true) (tT 36),
 jA 2 37 4]
 .ret))))
theorem e25:(Tryz.f25.body.map Qa6)=some s25:=by kernel_rfl
noncomputable def s26:SCode:=(qR [jK 4 (zI 0) 3,
 ⟨(some 5),.assign (.const .nilIface),69,.no⟩]
 (qR [jM 6 0 63,
 jC 7 46 #[(tT 6)] #[63] 0]
 (qR [jM 8 0 63,
 jM 9 0 63,
 jN 10 9,
 jF 11 65 10 1,
 jL 12 29 11,
 jM 13 1 9,
 ⟨(some 14),.call ⟨.builtin .append,#[(tT 12),(tT 13)],#[29,9]⟩,29,.no⟩,
 jN 15 8,
 jF 16 65 15 1,
 jS 29 16 14]
 (qR [jM 17 1 9,
 jZ 18 17 9,
 jA 4 18 3,
 ⟨(some 5),.assign (.const .nilIface),69,.no⟩]
 .ret))))
theorem e26:(Tryz.f26.body.map Qa6)=some s26:=by kernel_rfl
noncomputable def s27:SCode:=(qR [jM 4 0 62,
 jM 5 0 62,
 jN 6 5,
 jF 7 67 6 1,
 jL 8 4 7,
 jM 9 8 4,
 jM 10 1 3 (jG 9),
 jB 11 .gtr 3 (tT 10) (zI 2147483647) 3 4 (jG 9),
 jP 12 (tT 9) (zB true) (tT 11),
 jM 13 12 4,
 jM 14 1 3 (jG 13),
 jB 15 .lss 3 (tT 14) (zI (-2147483648)) 3 4 (jG 13),
 jP 16 (tT 13) (zB true) (tT 15),
 jN 17 4,
 jF 18 67 17 1,
 jS 4 18 16]
 (.reg [jM 19 0 62,
 jM 20 1 3,
 jC 21 31 #[(tT 20)] #[3] 9,
 jC 22 47 #[(tT 19),(tT 21)] #[62,9] 0]))
theorem e27:(Tryz.f27.body.map Qa6)=some s27:=by kernel_rfl
noncomputable def s28:SCode:=(.reg [jM 4 0 62,
 jM 5 1 22,
 jC 6 48 #[(tT 5),(zI 10)] #[22,3] 9,
 jC 7 47 #[(tT 4),(tT 6)] #[62,9] 0])
theorem e28:(Tryz.f28.body.map Qa6)=some s28:=by kernel_rfl
noncomputable def s29:SCode:=(qR [⟨(some 4),.assign (.const .nilIface),69,.no⟩]
 (qR [jM 5 0 63,
 jC 6 46 #[(tT 5)] #[63] 0]
 (qR [jM 7 0 63,
 jM 8 0 63,
 jN 9 8,
 jF 10 65 9 1,
 jL 11 29 10,
 jM 12 1 5,
 ⟨(some 13),.buildSlice 29 1 #[(0,(tT 12))],29,.no⟩,
 ⟨(some 14),.call ⟨.builtin .append,#[(tT 11),(tT 13)],#[29,29]⟩,29,.no⟩,
 jN 15 7,
 jF 16 65 15 1,
 jS 29 16 14]
 (qR [⟨(some 4),.assign (.const .nilIface),69,.no⟩]
 .ret))))
theorem e29:(Tryz.f29.body.map Qa6)=some s29:=by kernel_rfl
noncomputable def s32:SCode:=(qR [jK 2 (zI 0) 3]
 (qR [jM 3 0 63,
 jN 4 3,
 jF 5 65 4 1,
 jL 6 29 5,
 jZ 7 6 29,
 jA 2 7 3]
 .ret))
theorem e32:(Tryz.f32.body.map Qa6)=some s32:=by kernel_rfl
noncomputable def s33:SCode:=(qR [jK 2 (zS []) 9]
 (.seq (.drw [dM 0 3 0 63 .no [] [0],
 ⟨1,(some 4),.nilCheck (tT 3),0,.no,[0],[3]⟩,
 dF 2 5 65 4 1 .no [1] [4],
 dL 3 6 29 5 .no [2] [5],
 ⟨4,(some 7),.call ⟨.builtin .unsafeSliceData,#[(tT 6)],#[29]⟩,122,.no,[3],[6]⟩,
 dM 5 8 0 63 .no [] [0],
 ⟨6,(some 9),.nilCheck (tT 8),0,.no,[5],[8]⟩,
 dF 7 10 65 9 1 .no [6] [9],
 dL 8 11 29 10 .no [7] [10],
 ⟨9,(some 12),.call ⟨.builtin .len,#[(tT 11)],#[29]⟩,3,.no,[8],[11]⟩,
 ⟨10,(some 13),.call ⟨.builtin .unsafeString,#[(tT 7),(tT 12)],#[122,3]⟩,9,.no,[4,9],[7,12]⟩,
 ⟨11,(some 2),.assign (tT 13),9,.no,[10,0,1,2,3,4,5,6,7,8,9,10],[13]⟩])
 .ret))
theorem e33:(Tryz.f33.body.map Qa6)=some s33:=by kernel_rfl
noncomputable def s38:SCode:=(qR [⟨(some 2),.box 36 (tT 0),0,.no⟩,
 ⟨(some 3),.box 36 (tT 1),0,.no⟩,
 jK 4 (zB false) 4]
 (.seq (qR [jF 6 36 2 0,
 jL 7 3 6,
 jF 8 36 3 0,
 jL 9 3 8,
 jB 10 .neq 3 (tT 7) (tT 9) 3 4,
 jM 11 10 4,
 jF 12 36 2 1 (jG 11),
 jL 13 3 12 (jG 11),
 jF 14 36 3 1 (jG 11),
 jL 15 3 14 (jG 11),
 jB 16 .neq 3 (tT 13) (tT 15) 3 4 (jG 11),
 jP 17 (tT 11) (zB true) (tT 16),
 jM 18 17 4,
 jF 19 36 2 2 (jG 18),
 jL 20 3 19 (jG 18),
 jF 21 36 3 2 (jG 18),
 jL 22 3 21 (jG 18),
 jB 23 .neq 3 (tT 20) (tT 22) 3 4 (jG 18),
 jP 24 (tT 18) (zB true) (tT 23),
 jM 25 24 4,
 jF 26 36 2 3 (jG 25),
 jL 27 22 26 (jG 25),
 jF 28 36 3 3 (jG 25),
 jL 29 22 28 (jG 25),
 jB 30 .neq 22 (tT 27) (tT 29) 22 4 (jG 25),
 jP 31 (tT 25) (zB true) (tT 30),
 jM 32 31 4,
 jF 33 36 2 4 (jG 32),
 jL 34 22 33 (jG 32),
 jF 35 36 3 4 (jG 32),
 jL 36 22 35 (jG 32),
 jB 37 .neq 22 (tT 34) (tT 36) 22 4 (jG 32),
 jP 38 (tT 32) (zB true) (tT 37),
 jM 39 38 4,
 jF 40 36 2 5 (jG 39),
 jL 41 29 40 (jG 39),
 ⟨(some 42),.convert 29 9 (tT 41),9,(jG 39)⟩,
 jF 43 36 3 5 (jG 39),
 jL 44 29 43 (jG 39),
 ⟨(some 45),.convert 29 9 (tT 44),9,(jG 39)⟩,
 jB 46 .neq 9 (tT 42) (tT 45) 9 4 (jG 39),
 jP 47 (tT 39) (zB true) (tT 46),
 jM 48 47 4,
 jF 49 36 2 6 (jG 48),
 jL 50 22 49 (jG 48),
 jF 51 36 3 6 (jG 48),
 jL 52 22 51 (jG 48),
 jB 53 .neq 22 (tT 50) (tT 52) 22 4 (jG 48),
 jP 54 (tT 48) (zB true) (tT 53),
 jM 55 54 4,
 jF 56 36 2 7 (jG 55),
 jL 57 32 56 (jG 55),
 jF 58 36 3 7 (jG 55),
 jL 59 32 58 (jG 55),
 jB 60 .neq 32 (tT 57) (tT 59) 32 4 (jG 55),
 jP 61 (tT 55) (zB true) (tT 60)]
 (.cond (tT 61) (qR [jK 4 (zB false) 4]
 .ret)
 .skip))
 (.seq (qR [jF 62 36 2 8,
 jL 63 3 62,
 jF 64 36 3 8,
 jL 65 3 64,
 jB 66 .neq 3 (tT 63) (tT 65) 3 4,
 jM 67 66 4,
 jF 68 36 2 9 (jG 67),
 jL 69 3 68 (jG 67),
 jF 70 36 3 9 (jG 67),
 jL 71 3 70 (jG 67),
 jB 72 .neq 3 (tT 69) (tT 71) 3 4 (jG 67),
 jP 73 (tT 67) (zB true) (tT 72),
 jM 74 73 4,
 jF 75 36 2 10 (jG 74),
 jL 76 3 75 (jG 74),
 jF 77 36 3 10 (jG 74),
 jL 78 3 77 (jG 74),
 jB 79 .neq 3 (tT 76) (tT 78) 3 4 (jG 74),
 jP 80 (tT 74) (zB true) (tT 79),
 jM 81 80 4,
 jF 82 36 2 11 (jG 81),
 jL 83 33 82 (jG 81),
 jF 84 36 3 11 (jG 81),
 jL 85 33 84 (jG 81),
 jB 86 .neq 33 (tT 83) (tT 85) 33 4 (jG 81),
 jP 87 (tT 81) (zB true) (tT 86),
 jM 88 87 4,
 jF 89 36 2 12 (jG 88),
 jL 90 22 89 (jG 88),
 jF 91 36 3 12 (jG 88),
 jL 92 22 91 (jG 88),
 jB 93 .neq 22 (tT 90) (tT 92) 22 4 (jG 88),
 jP 94 (tT 88) (zB true) (tT 93),
 jM 95 94 4,
 jF 96 36 2 14 (jG 95),
 jL 97 3 96 (jG 95),
 jF 98 36 3 14 (jG 95),
 jL 99 3 98 (jG 95),
 jB 100 .neq 3 (tT 97) (tT 99) 3 4 (jG 95),
 jP 101 (tT 95) (zB true) (tT 100),
 jM 102 101 4,
 jF 103 36 2 15 (jG 102),
 jL 104 22 103 (jG 102),
 jF 105 36 3 15 (jG 102),
 jL 106 22 105 (jG 102),
 jB 107 .neq 22 (tT 104) (tT 106) 22 4 (jG 102),
 jP 108 (tT 102) (zB true) (tT 107),
 jM 109 108 4,
 jF 110 36 2 13 (jG 109),
 jL 111 34 110 (jG 109),
 jZ 112 111 34 (jG 109),
 jF 113 36 3 13 (jG 109),
 jL 114 34 113 (jG 109),
 jZ 115 114 34 (jG 109),
 jB 116 .neq 3 (tT 112) (tT 115) 3 4 (jG 109),
 jP 117 (tT 109) (zB true) (tT 116)]
 (.cond (tT 117) (qR [jK 4 (zB false) 4]
 .ret)
 .skip))
 (.seq (qR [jK 5 (zI 0) 3]
 (.block 0 (.loop (.seq (qR [jM 118 5 3,
 jF 119 36 2 13,
 jL 120 34 119,
 jZ 121 120 34,
 jB 122 .lss 3 (tT 118) (tT 121) 3 4]
 (.cond (tT 122) .skip
 (.exit 0)))
 (.seq (.block 1 (.seq (.drw [dF 0 125 36 2 13 .no [] [2],
 dL 1 126 34 125 .no [0] [125],
 dM 2 127 5 3 .no [] [5],
 dI 3 128 34 (tT 126) (tT 127) .no [1,2] [126,127],
 dL 4 129 3 128 .no [3] [128],
 dF 5 130 36 3 13 .no [] [3],
 dL 6 131 34 130 .no [5] [130],
 dM 7 132 5 3 .no [] [5],
 dI 8 133 34 (tT 131) (tT 132) .no [6,7] [131,132],
 dL 9 134 3 133 .no [8] [133],
 dB 10 135 .neq 3 (tT 129) (tT 134) 3 4 .no [4,9] [129,134]])
 (.cond (tT 135) (qR [jK 4 (zB false) 4]
 .ret)
 .skip)))
 (.reg [jM 123 5 3,
 jB 124 .add 3 (tT 123) (zI 1) 3 3,
 jA 5 124 3]))))))
 (qR [jK 4 (zB true) 4]
 .ret)))))
theorem e38:(Tryz.f38.body.map Qa6)=some s38:=by kernel_rfl
noncomputable def s39:SCode:=(qR [⟨(some 4),.assign (.const .nilFunc),101,.no⟩]
 (qR [jM 5 0 9,
 jM 6 1 9,
 jC 7 70 #[(tT 5),(tT 6),(zI 0)] #[9,9,3] 101,
 jA 4 7 101]
 .ret))
theorem e39:(Tryz.f39.body.map Qa6)=some s39:=by kernel_rfl
noncomputable def s40:SCode:=(qR [jW 4 4]
 (qR [⟨(some 12),.makeFunc (.func 71) #[] #[(tT 4)],1,.no⟩,
 ⟨none,.defer ⟨.value (tT 12),#[],#[]⟩,0,.no⟩]
 (qR [jM 13 1 9,
 jC 14 72 #[(tT 13)] #[9] 54,
 ⟨(some 15),.build 132 #[(0,(tT 14))],132,.no⟩,
 ⟨(some 16),.box 132 (tT 15),130,.no⟩,
 jA 5 16 130]
 (.seq (qR [jM 17 5 130,
 jN 18 17,
 jF 19 132 18 0,
 jL 20 54 19,
 jZ 21 20 54,
 jB 22 .eql 3 (tT 21) (zI 0) 3 4]
 (.cond (tT 22) (qR [⟨none,.store 4 (tT 4) (zB true),0,.no⟩]
 .ret)
 .skip))
 (qR [jM 23 5 130,
 jC 24 73 #[(tT 23)] #[130] 9,
 jA 6 24 9]
 (.seq (qR [jM 25 6 9,
 jB 26 .eql 9 (tT 25) (zS [119,111,114,108,100]) 9 4]
 (.cond (tT 26) (qR [jM 27 0 97,
 jM 28 5 130,
 jC 29 74 #[(tT 27),(tT 28)] #[97,130] 0]
 (qR [jM 30 5 130,
 jN 31 30,
 jF 32 132 31 0,
 jL 33 54 32,
 jZ 34 33 54,
 jB 35 .eql 3 (tT 34) (zI 0) 3 4,
 jC 36 75 #[(tT 35)] #[4] 0]
 (qR [⟨none,.store 4 (tT 4) (zB true),0,.no⟩]
 .ret)))
 .skip))
 (qR [jM 37 0 97,
 jN 38 37,
 jF 39 99 38 2,
 jL 40 4 39,
 jC 41 75 #[(tT 40)] #[4] 0]
 (qR [⟨(some 42),.build 36 #[],36,.no⟩,
 jW 7 36,
 jS 36 7 42]
 (.seq (qR [jM 43 6 9,
 jB 44 .eql 9 (tT 43) (zS [49]) 9 4,
 jM 45 44 4,
 jM 46 6 9 (jG 45),
 jB 47 .eql 9 (tT 46) (zS [50]) 9 4 (jG 45),
 jP 48 (tT 45) (zB true) (tT 47)]
 (.cond (tT 48) (qR [jM 49 6 9,
 ⟨(some 50),.index 9 (tT 49) (zI 0),5,.no⟩,
 jB 51 .sub 5 (tT 50) (zU 48) 5 5,
 ⟨(some 52),.convert 5 3 (tT 51),3,.no⟩,
 jF 53 36 7 1,
 jS 3 53 52]
 (.reg [jM 54 5 130,
 jC 55 73 #[(tT 54)] #[130] 9,
 jA 6 55 9]))
 .skip))
 (.seq (qR [jC 56 30 #[] #[] 75,
 jZ 57 56 75,
 ⟨(some 58),.move (zI 0),3,.no⟩]
 (.block 0 (.loop (qR [jB 59 .lss 3 (tT 58) (tT 57) 3 0]
 (.seq (.cond (tT 59) .skip
 (.exit 0))
 (.seq (.block 1 (qR [jM 60 58 3,
 jI 61 75 (tT 56) (tT 58),
 jL 62 80 61,
 jW 9 80,
 jA 8 60 3,
 jS 80 9 62]
 (.seq (qR [jF 63 80 9 0,
 jL 64 9 63,
 jB 65 .eql 9 (tT 64) (zS []) 9 4,
 jM 66 65 4,
 jF 67 80 9 0 (jG 66),
 jL 68 9 67 (jG 66),
 jM 69 6 9 (jG 66),
 jB 70 .neq 9 (tT 68) (tT 69) 9 4 (jG 66),
 jP 71 (tT 66) (zB true) (tT 70),
 jM 72 71 4,
 jM 73 8 3 (jG 72),
 jB 74 .neq 3 (tT 73) (zI 1) 3 4 (jG 72),
 jF 75 36 7 1 (jG 72),
 jL 76 3 75 (jG 72),
 jB 77 .gtr 3 (tT 76) (zI 0) 3 4 (jG 72),
 jB 78 .neq 4 (tT 74) (tT 77) 4 4 (jG 72),
 jP 79 (tT 72) (zB true) (tT 78)]
 (.cond (tT 79) (.exit 1)
 .skip))
 (qR [jM 80 8 3,
 jF 81 36 7 0,
 jS 3 81 80]
 (.seq (qR [jF 82 80 9 1,
 jL 83 78 82,
 jZ 84 83 78,
 ⟨(some 85),.move (zI 0),3,.no⟩]
 (.block 2 (.loop (qR [jB 86 .lss 3 (tT 85) (tT 84) 3 0]
 (.seq (.cond (tT 86) .skip
 (.exit 2))
 (.seq (.block 3 (qR [jI 87 78 (tT 83) (tT 85),
 jL 88 84 87,
 jW 11 84,
 jS 84 11 88]
 (.reg [jF 89 84 11 0,
 jL 90 81 89,
 jM 91 5 130,
 ⟨(some 92),.call ⟨.value (tT 90),#[(tT 91),(tT 7)],#[130,116]⟩,0,.no⟩])))
 (.reg [jB 93 .add 3 (tT 85) (zI 1) 3 3,
 jM 85 93 3])))))))
 (qR [jM 94 5 130,
 jN 95 94,
 jF 96 132 95 0,
 jL 97 54 96,
 jZ 98 97 54,
 jB 99 .eql 3 (tT 98) (zI 0) 3 4,
 jC 100 75 #[(tT 99)] #[4] 0]
 (.seq (.drw [dM 0 101 0 97 .no [] [0],
 dM 1 102 0 97 .no [] [0],
 ⟨2,(some 103),.nilCheck (tT 102),0,.no,[1],[102]⟩,
 dF 3 104 99 103 1 .no [2] [103],
 dL 4 105 27 104 .no [3] [104],
 dL 5 106 36 7 .no [] [7],
 ⟨6,(some 107),.buildSlice 27 1 #[(0,(tT 106))],27,.no,[5],[106]⟩,
 ⟨7,(some 108),.call ⟨.builtin .append,#[(tT 105),(tT 107)],#[27,27]⟩,27,.no,[4,6],[105,107]⟩,
 ⟨8,(some 109),.nilCheck (tT 101),0,.no,[0,0,1,2,3,4,5,6,7],[101]⟩,
 dF 9 110 99 109 1 .no [8,0,1,2,3,4,5,6,7] [109],
 ⟨10,none,.store 27 (tT 110) (tT 108),0,.no,[9,7,7,0,1,2,3,4,5,6,7],[110,108]⟩])
 (qR [⟨none,.store 4 (tT 4) (zB true),0,.no⟩]
 .ret))))))))
 (.reg [jB 111 .add 3 (tT 58) (zI 1) 3 3,
 jM 58 111 3])))))))
 (qR [⟨none,.store 4 (tT 4) (zB false),0,.no⟩]
 .ret)))))))))))
theorem e40:(Tryz.f40.body.map Qa6)=some s40:=by kernel_rfl
noncomputable def s41:SCode:=(qR [⟨(some 2),.assign (.const (.slice none 0 0)),54,.no⟩]
 (qR [⟨(some 3),.assign (.const (.slice none 0 0)),54,.no⟩]
 (qR [jK 4 (zI 0) 3]
 (.seq (qR [jK 5 (zI 0) 3]
 (.block 0 (.loop (.seq (qR [jM 6 5 3,
 jM 7 0 9,
 jZ 8 7 9,
 jB 9 .lss 3 (tT 6) (tT 8) 3 4]
 (.cond (tT 9) .skip
 (.exit 0)))
 (.seq (.block 1 (qR [jM 12 0 9,
 jM 13 5 3,
 ⟨(some 14),.index 9 (tT 12) (tT 13),5,.no⟩,
 jB 15 .eql 5 (tT 14) (zU 10) 5 4]
 (.cond (tT 15) (qR [jM 16 3 54,
 jM 17 0 9,
 jM 18 4 3,
 jM 19 5 3,
 ⟨(some 20),.slice 9 (tT 17) (some (tT 18)) (some (tT 19)) none,9,.no⟩,
 ⟨(some 21),.buildSlice 54 1 #[(0,(tT 20))],54,.no⟩,
 ⟨(some 22),.call ⟨.builtin .append,#[(tT 16),(tT 21)],#[54,54]⟩,54,.no⟩,
 jA 3 22 54]
 (.reg [jM 23 5 3,
 jB 24 .add 3 (tT 23) (zI 1) 3 3,
 jA 4 24 3]))
 .skip)))
 (.reg [jM 10 5 3,
 jB 11 .add 3 (tT 10) (zI 1) 3 3,
 jA 5 11 3]))))))
 (qR [jM 25 3 54,
 jM 26 0 9,
 jM 27 4 3,
 ⟨(some 28),.slice 9 (tT 26) (some (tT 27)) none none,9,.no⟩,
 ⟨(some 29),.buildSlice 54 1 #[(0,(tT 28))],54,.no⟩,
 ⟨(some 30),.call ⟨.builtin .append,#[(tT 25),(tT 29)],#[54,54]⟩,54,.no⟩,
 jA 2 30 54]
 .ret)))))
theorem e41:(Tryz.f41.body.map Qa6)=some s41:=by kernel_rfl
noncomputable def s42:SCode:=(qR [jW 2 105,
 jK 3 (zB false) 4]
 (qR [jM 14 0 9,
 jC 15 76 #[(tT 14)] #[9] 135,
 jM 13 15 135,
 jE 16 13 0 54,
 jE 17 13 1 4,
 jA 4 16 54,
 jA 5 17 4]
 (.seq (qR [jM 18 4 54,
 jZ 19 18 54,
 jB 20 .gtr 3 (tT 19) (zI 0) 3 4,
 jM 21 20 4,
 jM 22 4 54 (jT 21),
 jI 23 54 (tT 22) (zI 0) (jT 21),
 jL 24 9 23 (jT 21),
 ⟨(some 25),.index 9 (tT 24) (zI 0),5,(jT 21)⟩,
 jB 26 .eql 5 (tT 25) (zU 35) 5 4 (jT 21),
 jP 27 (tT 21) (tT 26) (zB false),
 jM 28 27 4,
 jM 29 4 54 (jG 28),
 jZ 30 29 54 (jG 28),
 jB 31 .eql 3 (tT 30) (zI 0) 3 4 (jG 28),
 jM 32 31 4 (jG 28),
 jM 33 5 4 (jT 32),
 jP 34 (tT 32) (tT 33) (zB false) (jG 28),
 jP 35 (tT 28) (zB true) (tT 34)]
 (.cond (tT 35) (qR [⟨(some 36),.build 105 #[],105,.no⟩,
 jS 105 2 36,
 jK 3 (zB true) 4]
 .ret)
 .skip))
 (.seq (qR [jM 37 5 4,
 ⟨(some 38),.unOp .not 4 (tT 37),4,.no⟩]
 (.cond (tT 38) (qR [⟨(some 39),.build 105 #[(0,(zB true))],105,.no⟩,
 jS 105 2 39,
 jK 3 (zB false) 4]
 .ret)
 .skip))
 (.seq (qR [jM 40 4 54,
 jI 41 54 (tT 40) (zI 0),
 jL 42 9 41,
 jB 43 .eql 9 (tT 42) (zS [119,111,114,108,100]) 9 4]
 (.cond (tT 43) (qR [jM 45 4 54,
 ⟨(some 46),.slice 54 (tT 45) (some (zI 1)) none none,54,.no⟩,
 jC 47 77 #[(tT 46)] #[54] 137,
 jM 44 47 137,
 jE 48 44 0 26,
 jE 49 44 1 4,
 jW 6 26,
 jS 26 6 48,
 jA 7 49 4]
 (qR [jL 50 26 6,
 ⟨(some 51),.build 105 #[(0,(zB true)),(1,(zB true)),(2,(tT 50))],105,.no⟩,
 jM 52 7 4,
 jS 105 2 51,
 jA 3 52 4]
 .ret))
 .skip))
 (qR [jK 8 (zI 0) 3]
 (.seq (qR [jM 53 4 54,
 jI 54 54 (tT 53) (zI 0),
 jL 55 9 54,
 jB 56 .eql 9 (tT 55) (zS [49]) 9 4,
 jM 57 56 4,
 jM 58 4 54 (jG 57),
 jI 59 54 (tT 58) (zI 0) (jG 57),
 jL 60 9 59 (jG 57),
 jB 61 .eql 9 (tT 60) (zS [50]) 9 4 (jG 57),
 jP 62 (tT 57) (zB true) (tT 61)]
 (.cond (tT 62) (qR [jM 63 4 54,
 jI 64 54 (tT 63) (zI 0),
 jL 65 9 64,
 ⟨(some 66),.index 9 (tT 65) (zI 0),5,.no⟩,
 jB 67 .sub 5 (tT 66) (zU 48) 5 5,
 ⟨(some 68),.convert 5 3 (tT 67),3,.no⟩,
 jA 8 68 3]
 (.reg [jM 69 4 54,
 ⟨(some 70),.slice 54 (tT 69) (some (zI 1)) none none,54,.no⟩,
 jA 4 70 54]))
 .skip))
 (qR [jC 71 67 #[] #[] 123,
 jA 9 71 123]
 (.seq (qR [jK 10 (zI 0) 3]
 (.block 0 (.loop (.seq (qR [jM 72 4 54,
 jZ 73 72 54,
 jB 74 .gtr 3 (tT 73) (zI 0) 3 4,
 jM 75 74 4,
 jM 76 10 3 (jT 75),
 jM 77 9 123 (jT 75),
 jZ 78 77 123 (jT 75),
 jB 79 .lss 3 (tT 76) (tT 78) 3 4 (jT 75),
 jP 80 (tT 75) (tT 79) (zB false)]
 (.cond (tT 80) .skip
 (.exit 0)))
 (.seq (.block 1 (.seq (.drw [dM 0 83 9 123 .no [] [9],
 dM 1 84 10 3 .no [] [10],
 dI 2 85 123 (tT 83) (tT 84) .no [0,1] [83,84],
 dF 3 86 88 85 0 .no [2] [85],
 dL 4 87 9 86 .no [3] [86],
 dM 5 88 4 54 .no [] [4],
 dI 6 89 54 (tT 88) (zI 0) .no [5] [88],
 dL 7 90 9 89 .no [6] [89],
 dB 8 91 .eql 9 (tT 87) (tT 90) 9 4 .no [4,7] [87,90],
 dM 9 92 91 4 .no [8] [91],
 dM 10 93 9 123 (jT 92) [9] [92,9],
 dM 11 94 10 3 (jT 92) [9] [92,10],
 dI 12 95 123 (tT 93) (tT 94) (jT 92) [10,11,9] [92,93,94],
 dF 13 96 88 95 1 (jT 92) [12,9] [92,95],
 dL 14 97 4 96 (jT 92) [13,9] [92,96],
 dM 15 98 8 3 (jT 92) [9] [92,8],
 dB 16 99 .gtr 3 (tT 98) (zI 0) 3 4 (jT 92) [15,9] [92,98],
 dB 17 100 .eql 4 (tT 97) (tT 99) 4 4 (jT 92) [14,16,9] [92,97,99],
 ⟨18,(some 101),.pick (tT 92) (tT 100) (zB false),4,.no,[9,17],[92,100]⟩])
 (.cond (tT 101) (.seq (.drw [dM 0 103 9 123 .no [] [9],
 dM 1 104 10 3 .no [] [10],
 dI 2 105 123 (tT 103) (tT 104) .no [0,1] [103,104],
 dF 3 106 88 105 3 .no [2] [105],
 dL 4 107 9 106 .no [3] [106],
 dM 5 108 4 54 .no [] [4],
 ⟨6,(some 109),.slice 54 (tT 108) (some (zI 1)) none none,54,.no,[5],[108]⟩,
 ⟨7,(some 110),.call ⟨.value (.func 78),#[(tT 107),(tT 109)],#[9,54]⟩,142,.no,[4,6],[107,109]⟩,
 dM 8 102 110 142 .no [7] [110],
 ⟨9,(some 111),.extract (tT 102) 0,141,.no,[8],[102]⟩,
 ⟨10,(some 112),.extract (tT 102) 1,4,.no,[8],[102]⟩,
 ⟨11,(some 11),.alloc 141,0,.no,[],[]⟩,
 ⟨12,none,.store 141 (tT 11) (tT 111),0,.no,[11,9,7,0,1,2,3,4,5,6,7,8,9,11],[11,111]⟩,
 ⟨13,(some 12),.assign (tT 112),4,.no,[10,12,0,1,2,3,4,5,6,7,8,9,10,11,12],[112]⟩])
 (.seq (qR [jM 113 12 4,
 ⟨(some 114),.unOp .not 4 (tT 113),4,.no⟩]
 (.cond (tT 114) (qR [⟨(some 115),.build 105 #[(0,(zB true))],105,.no⟩,
 jS 105 2 115,
 jK 3 (zB false) 4]
 .ret)
 .skip))
 (.seq (.drw [dM 0 116 9 123 .no [] [9],
 dM 1 117 10 3 .no [] [10],
 dI 2 118 123 (tT 116) (tT 117) .no [0,1] [116,117],
 dL 3 119 88 118 .no [2] [118],
 dM 4 120 8 3 .no [] [8],
 dL 5 121 141 11 .no [] [11],
 ⟨6,(some 122),.call ⟨.value (.func 79),#[(tT 119),(tT 120),(tT 121)],#[88,3,141]⟩,36,.no,[3,4,5],[119,120,121]⟩,
 ⟨7,(some 123),.build 105 #[(0,(zB true)),(3,(tT 122))],105,.no,[6],[122]⟩,
 ⟨8,none,.store 105 (tT 2) (tT 123),0,.no,[7,6,0,1,2,3,4,5,6,7],[2,123]⟩,
 ⟨9,(some 3),.assign (zB true),4,.no,[8,0,1,2,3,4,5,6,7,8],[]⟩])
 .ret)))
 .skip)))
 (.reg [jM 81 10 3,
 jB 82 .add 3 (tT 81) (zI 1) 3 3,
 jA 10 82 3]))))))
 (qR [⟨(some 124),.build 105 #[(0,(zB true))],105,.no⟩,
 jS 105 2 124,
 jK 3 (zB false) 4]
 .ret))))))))))
theorem e42:(Tryz.f42.body.map Qa6)=some s42:=by kernel_rfl
noncomputable def s45:SCode:=(qR [jK 2 (zB false) 4]
 (qR [jM 3 0 3,
 jB 4 .geq 3 (tT 3) (zI 9) 3 4,
 jM 5 4 4,
 jM 6 0 3 (jT 5),
 jB 7 .leq 3 (tT 6) (zI 12) 3 4 (jT 5),
 jP 8 (tT 5) (tT 7) (zB false),
 jA 2 8 4]
 .ret))
theorem e45:(Tryz.f45.body.map Qa6)=some s45:=by kernel_rfl
noncomputable def s46:SCode:=(qR [jM 2 0 63,
 jN 3 2,
 jF 4 65 3 0,
 jL 5 63 4,
 ⟨(some 6),.binOp .eql 63 (tT 5) (.const (.pointer none)) 63,4,.no⟩]
 (.cond (tT 6) (.reg [jM 7 0 63,
 jM 8 0 63,
 ⟨(some 9),.convert 63 145 (tT 8),145,.no⟩,
 jC 10 80 #[(tT 9)] #[145] 145,
 ⟨(some 11),.convert 145 63 (tT 10),63,.no⟩,
 jN 12 7,
 jF 13 65 12 0,
 jS 63 13 11])
 (qR [jM 14 0 63,
 jN 15 14,
 jF 16 65 15 0,
 jL 17 63 16,
 jM 18 0 63,
 jB 19 .neq 63 (tT 17) (tT 18) 63 4]
 (.cond (tT 19) (.other (.refuse "(*strings.Builder).copyCheck builder.go:41: unsupported: a written strings.Builder's value in another place: whether the library's copy check passes hangs on where the compiler lays the two"))
 .skip))))
theorem e46:(Tryz.f46.body.map Qa6)=some s46:=by kernel_rfl
noncomputable def s47:SCode:=(qR [jM 4 0 62,
 jN 5 4,
 jF 6 67 5 0,
 jC 7 29 #[(tT 6),(zU 32)] #[65,5] 69]
 (.reg [jM 8 0 62,
 jN 9 8,
 jF 10 67 9 0,
 jM 11 1 9,
 jC 12 26 #[(tT 10),(tT 11)] #[65,9] 70]))
theorem e47:(Tryz.f47.body.map Qa6)=some s47:=by kernel_rfl
noncomputable def s51:SCode:=(qR [⟨(some 2),.assign (.const (.pointer none)),117,.no⟩]
 (qR [jM 3 0 116,
 jN 4 3,
 jF 5 36 4 7,
 jF 6 32 5 0,
 jA 2 6 117]
 .ret))
theorem e51:(Tryz.f51.body.map Qa6)=some s51:=by kernel_rfl
noncomputable def s52:SCode:=(qR [⟨(some 2),.assign (.const (.pointer none)),117,.no⟩]
 (qR [jM 3 0 116,
 jN 4 3,
 jF 5 36 4 7,
 jF 6 32 5 1,
 jA 2 6 117]
 .ret))
theorem e52:(Tryz.f52.body.map Qa6)=some s52:=by kernel_rfl
noncomputable def s54:SCode:=(qR [⟨(some 2),.assign (.const (.pointer none)),120,.no⟩]
 (qR [jM 3 0 116,
 jN 4 3,
 jF 5 36 4 6,
 jA 2 5 120]
 .ret))
theorem e54:(Tryz.f54.body.map Qa6)=some s54:=by kernel_rfl
noncomputable def s55:SCode:=(qR [⟨(some 2),.assign (.const (.pointer none)),120,.no⟩]
 (qR [jM 3 0 116,
 jN 4 3,
 jF 5 36 4 4,
 jA 2 5 120]
 .ret))
theorem e55:(Tryz.f55.body.map Qa6)=some s55:=by kernel_rfl
noncomputable def s56:SCode:=(qR [⟨(some 2),.assign (.const (.pointer none)),120,.no⟩]
 (qR [jM 3 0 116,
 jN 4 3,
 jF 5 36 4 15,
 jA 2 5 120]
 .ret))
theorem e56:(Tryz.f56.body.map Qa6)=some s56:=by kernel_rfl
noncomputable def s57:SCode:=(qR [⟨(some 2),.assign (.const (.pointer none)),120,.no⟩]
 (qR [jM 3 0 116,
 jN 4 3,
 jF 5 36 4 12,
 jA 2 5 120]
 .ret))
theorem e57:(Tryz.f57.body.map Qa6)=some s57:=by kernel_rfl
noncomputable def s70:SCode:=(qR [⟨(some 3),.box 9 (tT 0),0,.no⟩,
 ⟨(some 4),.box 9 (tT 1),0,.no⟩,
 ⟨(some 5),.box 3 (tT 2),0,.no⟩,
 ⟨(some 6),.assign (.const .nilFunc),101,.no⟩]
 (qR [⟨(some 7),.makeFunc (.func 106) #[] #[(tT 4),(tT 3),(tT 5)],100,.no⟩,
 jA 6 7 101]
 .ret))
theorem e70:(Tryz.f70.body.map Qa6)=some s70:=by kernel_rfl
noncomputable def s71:SCode:=(qR [⟨(some 4),.call ⟨.builtin .recover,#[],#[]⟩,20,.no⟩,
 jA 1 4 20]
 (qR [jM 5 1 20,
 ⟨(some 6),.binOp .neq 20 (tT 5) (.const .nilIface) 20,4,.no⟩]
 (.cond (tT 6) (.seq (qR [jM 8 1 20,
 ⟨(some 9),.typeAssert (tT 8) 20 128 true,129,.no⟩,
 jM 7 9 129,
 jE 10 7 0 128,
 jE 11 7 1 4,
 jW 2 128,
 jS 128 2 10,
 jA 3 11 4]
 (qR [jM 12 3 4,
 ⟨(some 13),.unOp .not 4 (tT 12),4,.no⟩]
 (.cond (tT 13) (.reg [jM 14 1 20,
 ⟨none,.panic (tT 14),0,.no⟩])
 .skip)))
 (.reg [⟨none,.store 4 (tT 0) (zB false),0,.no⟩]))
 .skip)))
theorem e71:(Tryz.f71.body.map Qa6)=some s71:=by kernel_rfl
noncomputable def s72:SCode:=(qR [⟨(some 2),.assign (.const (.slice none 0 0)),54,.no⟩]
 (qR [⟨(some 3),.assign (.const (.slice none 0 0)),54,.no⟩]
 (qR [jK 4 (zI (-1)) 3,
 jK 5 (zB false) 4,
 jK 6 (zB false) 4]
 (.seq (qR [jM 10 0 9,
 ⟨(some 11),.range 9 (tT 10),0,.no⟩]
 (.block 0 (.loop (qR [⟨(some 12),.next (tT 11) true,0,.no⟩,
 jE 13 12 0 4]
 (.seq (.cond (tT 13) .skip
 (.exit 0))
 (.block 1 (qR [jE 14 12 1 3,
 jE 15 12 2 21,
 jA 7 14 3,
 jA 8 15 21]
 (qR [jM 16 8 21,
 ⟨(some 17),.binOp .eql 21 (tT 16) (.const (.int .i32 32)) 21,4,.no⟩,
 jM 18 17 4,
 jM 19 8 21 (jG 18),
 ⟨(some 20),.binOp .eql 21 (tT 19) (.const (.int .i32 9)) 21,4,(jG 18)⟩,
 jP 21 (tT 18) (zB true) (tT 20),
 jA 9 21 4]
 (.block 2 (qR [jM 23 6 4,
 jA 22 23 4]
 (.cond (tT 22) (.reg [jK 6 (zB false) 4])
 (qR [jM 25 5 4,
 jM 26 25 4,
 jM 27 8 21 (jT 26),
 ⟨(some 28),.binOp .eql 21 (tT 27) (.const (.int .i32 92)) 21,4,(jT 26)⟩,
 jP 29 (tT 26) (tT 28) (zB false),
 jA 24 29 4]
 (.cond (tT 24) (.reg [jK 6 (zB true) 4])
 (qR [jM 31 5 4,
 jM 32 31 4,
 jM 33 8 21 (jT 32),
 ⟨(some 34),.binOp .eql 21 (tT 33) (.const (.int .i32 34)) 21,4,(jT 32)⟩,
 jP 35 (tT 32) (tT 34) (zB false),
 jA 30 35 4]
 (.cond (tT 30) (qR [jK 5 (zB false) 4]
 (.reg [jM 36 7 3,
 jB 37 .add 3 (tT 36) (zI 1) 3 3,
 jM 38 0 9,
 jZ 39 38 9,
 jB 40 .eql 3 (tT 37) (tT 39) 3 4,
 jM 41 40 4,
 jM 42 0 9 (jG 41),
 jM 43 7 3 (jG 41),
 jB 44 .add 3 (tT 43) (zI 1) 3 3 (jG 41),
 ⟨(some 45),.index 9 (tT 42) (tT 44),5,(jG 41)⟩,
 jB 46 .eql 5 (tT 45) (zU 32) 5 4 (jG 41),
 jP 47 (tT 41) (zB true) (tT 46),
 jM 48 47 4,
 jM 49 0 9 (jG 48),
 jM 50 7 3 (jG 48),
 jB 51 .add 3 (tT 50) (zI 1) 3 3 (jG 48),
 ⟨(some 52),.index 9 (tT 49) (tT 51),5,(jG 48)⟩,
 jB 53 .eql 5 (tT 52) (zU 9) 5 4 (jG 48),
 jP 54 (tT 48) (zB true) (tT 53),
 jC 55 75 #[(tT 54)] #[4] 0]))
 (qR [jM 57 5 4,
 jA 56 57 4]
 (.cond (tT 56) .skip
 (qR [jM 59 4 3,
 jB 60 .lss 3 (tT 59) (zI 0) 3 4,
 jM 61 60 4,
 jM 62 9 4 (jT 61),
 ⟨(some 63),.unOp .not 4 (tT 62),4,(jT 61)⟩,
 jP 64 (tT 61) (tT 63) (zB false),
 jA 58 64 4]
 (.cond (tT 58) (.seq (qR [jM 65 3 54,
 jZ 66 65 54,
 jB 67 .eql 3 (tT 66) (zI 0) 3 4,
 jM 68 67 4,
 jM 69 8 21 (jT 68),
 ⟨(some 70),.binOp .eql 21 (tT 69) (.const (.int .i32 35)) 21,4,(jT 68)⟩,
 jP 71 (tT 68) (tT 70) (zB false)]
 (.cond (tT 71) (qR [⟨(some 2),.assign (.const (.slice none 0 0)),54,.no⟩]
 .ret)
 .skip))
 (.reg [jM 72 7 3,
 jM 73 8 21,
 ⟨(some 74),.binOp .eql 21 (tT 73) (.const (.int .i32 34)) 21,4,.no⟩,
 jA 4 72 3,
 jA 5 74 4]))
 (qR [jM 76 4 3,
 jB 77 .geq 3 (tT 76) (zI 0) 3 4,
 jM 78 77 4,
 jM 79 9 4 (jT 78),
 jP 80 (tT 78) (tT 79) (zB false),
 jA 75 80 4]
 (.cond (tT 75) (qR [jM 81 3 54,
 jM 82 0 9,
 jM 83 4 3,
 jM 84 7 3,
 ⟨(some 85),.slice 9 (tT 82) (some (tT 83)) (some (tT 84)) none,9,.no⟩,
 ⟨(some 86),.buildSlice 54 1 #[(0,(tT 85))],54,.no⟩,
 ⟨(some 87),.call ⟨.builtin .append,#[(tT 81),(tT 86)],#[54,54]⟩,54,.no⟩,
 jA 3 87 54]
 (.reg [jK 4 (zI (-1)) 3]))
 .skip)))))))))))))))))))))
 (qR [jM 88 5 4,
 ⟨(some 89),.unOp .not 4 (tT 88),4,.no⟩,
 jC 90 75 #[(tT 89)] #[4] 0]
 (.seq (qR [jM 91 4 3,
 jB 92 .geq 3 (tT 91) (zI 0) 3 4]
 (.cond (tT 92) (.reg [jM 93 3 54,
 jM 94 0 9,
 jM 95 4 3,
 ⟨(some 96),.slice 9 (tT 94) (some (tT 95)) none none,9,.no⟩,
 ⟨(some 97),.buildSlice 54 1 #[(0,(tT 96))],54,.no⟩,
 ⟨(some 98),.call ⟨.builtin .append,#[(tT 93),(tT 97)],#[54,54]⟩,54,.no⟩,
 jA 3 98 54])
 .skip))
 (qR [jM 99 3 54,
 jA 2 99 54]
 .ret)))))))
theorem e72:(Tryz.f72.body.map Qa6)=some s72:=by kernel_rfl
noncomputable def s73:SCode:=(qR [jK 2 (zS []) 9]
 (qR [jM 4 0 130,
 jN 5 4,
 jF 6 132 5 0,
 jL 7 54 6,
 jZ 8 7 54,
 jB 9 .gtr 3 (tT 8) (zI 0) 3 4,
 jC 10 75 #[(tT 9)] #[4] 0]
 (qR [jM 11 0 130,
 jN 12 11,
 jF 13 132 12 0,
 jL 14 54 13,
 jI 15 54 (tT 14) (zI 0),
 jL 16 9 15,
 jA 3 16 9]
 (qR [jM 17 0 130,
 jM 18 0 130,
 jN 19 18,
 jF 20 132 19 0,
 jL 21 54 20,
 ⟨(some 22),.slice 54 (tT 21) (some (zI 1)) none none,54,.no⟩,
 jN 23 17,
 jF 24 132 23 0,
 jS 54 24 22]
 (qR [jM 25 3 9,
 jA 2 25 9]
 .ret)))))
theorem e73:(Tryz.f73.body.map Qa6)=some s73:=by kernel_rfl
noncomputable def s74:SCode:=(qR [jM 6 0 97,
 jN 7 6,
 jF 8 99 7 2,
 jL 9 4 8,
 ⟨(some 10),.unOp .not 4 (tT 9),4,.no⟩,
 jC 11 75 #[(tT 10)] #[4] 0]
 (qR [jM 12 0 97,
 jN 13 12,
 jF 14 99 13 2,
 ⟨none,.store 4 (tT 14) (zB true),0,.no⟩]
 (qR [jM 15 0 97,
 jN 16 15,
 jF 17 99 16 0,
 jA 4 17 155]
 (qR [jM 18 4 155,
 jM 19 4 155,
 jM 20 4 155,
 jM 21 1 130,
 jC 22 84 #[(tT 21)] #[130] 3,
 jM 23 1 130,
 jC 24 84 #[(tT 23)] #[130] 3,
 jM 25 1 130,
 jC 26 87 #[(tT 25)] #[130] 22,
 jN 27 18,
 jF 28 26 27 1,
 jS 3 28 22,
 jN 29 19,
 jF 30 26 29 2,
 jS 3 30 24,
 jN 31 20,
 jF 32 26 31 3,
 jS 22 32 26]
 (qR [jM 33 4 155,
 jN 34 33,
 jF 35 26 34 0,
 jA 5 35 156]
 (qR [jM 36 5 156,
 jM 37 5 156,
 jM 38 5 156,
 jM 39 1 130,
 jC 40 84 #[(tT 39)] #[130] 3,
 jM 41 1 130,
 jC 42 87 #[(tT 41)] #[130] 22,
 jM 43 1 130,
 jC 44 87 #[(tT 43)] #[130] 22,
 jN 45 36,
 jF 46 24 45 0,
 jS 3 46 40,
 jN 47 37,
 jF 48 24 47 1,
 jS 22 48 42,
 jN 49 38,
 jF 50 24 49 2,
 jS 22 50 44]
 (.reg [jM 51 5 156,
 jM 52 5 156,
 jM 53 5 156,
 jM 54 1 130,
 jC 55 84 #[(tT 54)] #[130] 3,
 jM 56 1 130,
 jC 57 84 #[(tT 56)] #[130] 3,
 jM 58 1 130,
 jC 59 84 #[(tT 58)] #[130] 3,
 jN 60 51,
 jF 61 24 60 3,
 jS 3 61 55,
 jN 62 52,
 jF 63 24 62 4,
 jS 3 63 57,
 jN 64 53,
 jF 65 24 64 5,
 jS 3 65 59])))))))
theorem e74:(Tryz.f74.body.map Qa6)=some s74:=by kernel_rfl
noncomputable def s75:SCode:=(qR [jM 2 0 4,
 ⟨(some 3),.unOp .not 4 (tT 2),4,.no⟩]
 (.cond (tT 3) (.reg [⟨(some 4),.build 128 #[],128,.no⟩,
 ⟨(some 5),.makeInterface 128 (tT 4),20,.no⟩,
 ⟨none,.panic (tT 5),0,.no⟩])
 .skip))
theorem e75:(Tryz.f75.body.map Qa6)=some s75:=by kernel_rfl
noncomputable def s76:SCode:=(qR [⟨(some 2),.assign (.const (.slice none 0 0)),54,.no⟩,
 jK 3 (zB false) 4]
 (qR [⟨(some 4),.assign (.const (.slice none 0 0)),54,.no⟩]
 (qR [jK 5 (zI 0) 3]
 (.seq (.block 0 (.loop (.seq (qR [jM 7 5 3,
 jM 8 0 9,
 jZ 9 8 9,
 jB 10 .lss 3 (tT 7) (tT 9) 3 4]
 (.cond (tT 10) .skip
 (.exit 0)))
 (.block 1 (.seq (qR [jM 11 0 9,
 jM 12 5 3,
 ⟨(some 13),.index 9 (tT 11) (tT 12),5,.no⟩,
 jC 14 109 #[(tT 13)] #[5] 4]
 (.cond (tT 14) (qR [jM 15 5 3,
 jB 16 .add 3 (tT 15) (zI 1) 3 3,
 jA 5 16 3]
 (.exit 1))
 .skip))
 (qR [jM 17 5 3,
 jA 6 17 3]
 (.seq (qR [jM 18 0 9,
 jM 19 5 3,
 ⟨(some 20),.index 9 (tT 18) (tT 19),5,.no⟩,
 jB 21 .eql 5 (tT 20) (zU 34) 5 4]
 (.cond (tT 21) (qR [jM 22 0 9,
 jM 23 5 3,
 jC 24 110 #[(tT 22),(tT 23)] #[9,3] 3,
 jA 6 24 3]
 (qR [jM 25 6 3,
 jB 26 .lss 3 (tT 25) (zI 0) 3 4,
 jM 27 26 4,
 jM 28 6 3 (jG 27),
 jM 29 0 9 (jG 27),
 jZ 30 29 9 (jG 27),
 jB 31 .lss 3 (tT 28) (tT 30) 3 4 (jG 27),
 jM 32 31 4 (jG 27),
 jM 33 0 9 (jT 32),
 jM 34 6 3 (jT 32),
 ⟨(some 35),.index 9 (tT 33) (tT 34),5,(jT 32)⟩,
 jC 36 109 #[(tT 35)] #[5] 4 (jT 32),
 ⟨(some 37),.unOp .not 4 (tT 36),4,(jT 32)⟩,
 jP 38 (tT 32) (tT 37) (zB false) (jG 27),
 jP 39 (tT 27) (zB true) (tT 38)]
 (.cond (tT 39) (qR [jM 40 4 54,
 jA 2 40 54,
 jK 3 (zB false) 4]
 .ret)
 .skip)))
 (.block 2 (.loop (.seq (qR [jM 41 6 3,
 jM 42 0 9,
 jZ 43 42 9,
 jB 44 .lss 3 (tT 41) (tT 43) 3 4,
 jM 45 44 4,
 jM 46 0 9 (jT 45),
 jM 47 6 3 (jT 45),
 ⟨(some 48),.index 9 (tT 46) (tT 47),5,(jT 45)⟩,
 jC 49 109 #[(tT 48)] #[5] 4 (jT 45),
 ⟨(some 50),.unOp .not 4 (tT 49),4,(jT 45)⟩,
 jP 51 (tT 45) (tT 50) (zB false)]
 (.cond (tT 51) .skip
 (.exit 2)))
 (.block 3 (.reg [jM 52 6 3,
 jB 53 .add 3 (tT 52) (zI 1) 3 3,
 jA 6 53 3])))))))
 (qR [jM 54 4 54,
 jM 55 0 9,
 jM 56 5 3,
 jM 57 6 3,
 ⟨(some 58),.slice 9 (tT 55) (some (tT 56)) (some (tT 57)) none,9,.no⟩,
 ⟨(some 59),.buildSlice 54 1 #[(0,(tT 58))],54,.no⟩,
 ⟨(some 60),.call ⟨.builtin .append,#[(tT 54),(tT 59)],#[54,54]⟩,54,.no⟩,
 jA 4 60 54]
 (.reg [jM 61 6 3,
 jA 5 61 3])))))))))
 (qR [jM 62 4 54,
 jA 2 62 54,
 jK 3 (zB true) 4]
 .ret)))))
theorem e76:(Tryz.f76.body.map Qa6)=some s76:=by kernel_rfl
noncomputable def s77:SCode:=(qR [jW 2 26,
 jK 3 (zB false) 4]
 (qR [jM 8 0 54,
 jC 9 78 #[(zS [105,105,110,105,110,110,105,105,105]),(tT 8)] #[9,54] 142,
 jM 7 9 142,
 jE 10 7 0 141,
 jE 11 7 1 4,
 jW 4 141,
 jS 141 4 10,
 jA 5 11 4]
 (.seq (qR [jM 12 5 4,
 ⟨(some 13),.unOp .not 4 (tT 12),4,.no⟩]
 (.cond (tT 13) (qR [⟨(some 14),.build 26 #[],26,.no⟩,
 jS 26 2 14,
 jK 3 (zB false) 4]
 .ret)
 .skip))
 (.seq (.drw [dF 0 15 141 4 0 .no [] [4],
 dL 1 16 34 15 .no [0] [15],
 dI 2 17 34 (tT 16) (zI 2) .no [1] [16],
 dL 3 18 3 17 .no [2] [17],
 dF 4 19 141 4 1 .no [] [4],
 dL 5 20 139 19 .no [4] [19],
 dI 6 21 139 (tT 20) (zI 1) .no [5] [20],
 dL 7 22 22 21 .no [6] [21],
 dF 8 23 141 4 1 .no [] [4],
 dL 9 24 139 23 .no [8] [23],
 dI 10 25 139 (tT 24) (zI 2) .no [9] [24],
 dL 11 26 22 25 .no [10] [25],
 dF 12 27 141 4 0 .no [] [4],
 dL 13 28 34 27 .no [12] [27],
 dI 14 29 34 (tT 28) (zI 3) .no [13] [28],
 dL 15 30 3 29 .no [14] [29],
 dF 16 31 141 4 0 .no [] [4],
 dL 17 32 34 31 .no [16] [31],
 dI 18 33 34 (tT 32) (zI 4) .no [17] [32],
 dL 19 34 3 33 .no [18] [33],
 dF 20 35 141 4 0 .no [] [4],
 dL 21 36 34 35 .no [20] [35],
 dI 22 37 34 (tT 36) (zI 5) .no [21] [36],
 dL 23 38 3 37 .no [22] [37],
 ⟨24,(some 39),.build 24 #[(0,(tT 18)),(1,(tT 22)),(2,(tT 26)),(3,(tT 30)),(4,(tT 34)),(5,(tT 38))],24,.no,[3,7,11,15,19,23],[18,22,26,30,34,38]⟩,
 ⟨25,(some 6),.alloc 24,0,.no,[],[]⟩,
 ⟨26,none,.store 24 (tT 6) (tT 39),0,.no,[25,24,0,1,2,3,4,5,6,7,8,9,10,11,12,13,14,15,16,17,18,19,20,21,22,23,24,25],[6,39]⟩])
 (.seq (.drw [dL 0 40 24 6 .no [] [6],
 dF 1 41 141 4 0 .no [] [4],
 dL 2 42 34 41 .no [1] [41],
 dI 3 43 34 (tT 42) (zI 0) .no [2] [42],
 dL 4 44 3 43 .no [3] [43],
 dF 5 45 141 4 0 .no [] [4],
 dL 6 46 34 45 .no [5] [45],
 dI 7 47 34 (tT 46) (zI 1) .no [6] [46],
 dL 8 48 3 47 .no [7] [47],
 dF 9 49 141 4 1 .no [] [4],
 dL 10 50 139 49 .no [9] [49],
 dI 11 51 139 (tT 50) (zI 0) .no [10] [50],
 dL 12 52 22 51 .no [11] [51],
 ⟨13,(some 53),.build 26 #[(0,(tT 40)),(1,(tT 44)),(2,(tT 48)),(3,(tT 52))],26,.no,[0,4,8,12],[40,44,48,52]⟩,
 ⟨14,none,.store 26 (tT 2) (tT 53),0,.no,[13,0,1,2,3,4,5,6,7,8,9,10,11,12,13],[2,53]⟩,
 ⟨15,(some 3),.assign (zB true),4,.no,[14,0,1,2,3,4,5,6,7,8,9,10,11,12,13,14],[]⟩])
 .ret)))))
theorem e77:(Tryz.f77.body.map Qa6)=some s77:=by kernel_rfl
noncomputable def s78:SCode:=(qR [jW 4 141,
 jK 5 (zB false) 4]
 (qR [⟨(some 17),.build 141 #[],141,.no⟩,
 jW 6 141,
 jS 141 6 17]
 (.seq (qR [jM 18 0 9,
 jB 19 .eql 9 (tT 18) (zS [99]) 9 4]
 (.cond (tT 19) (.seq (qR [jK 7 (zI 0) 3]
 (.block 0 (.loop (.seq (qR [jM 20 7 3,
 jM 21 1 54,
 jZ 22 21 54,
 jB 23 .lss 3 (tT 20) (tT 22) 3 4]
 (.cond (tT 23) .skip
 (.exit 0)))
 (.seq (.block 1 (qR [jM 27 1 54,
 jM 28 7 3,
 jI 29 54 (tT 27) (tT 28),
 jL 30 9 29,
 jC 31 111 #[(tT 30)] #[9] 159,
 jM 26 31 159,
 jE 32 26 0 3,
 jE 33 26 1 4,
 jA 8 32 3,
 jA 9 33 4]
 (.seq (qR [jM 34 9 4,
 ⟨(some 35),.unOp .not 4 (tT 34),4,.no⟩]
 (.cond (tT 35) (qR [jL 36 141 6,
 jS 141 4 36,
 jK 5 (zB false) 4]
 .ret)
 .skip))
 (.reg [jF 37 141 6 0,
 jL 38 34 37,
 jM 39 8 3,
 ⟨(some 40),.buildSlice 34 1 #[(0,(tT 39))],34,.no⟩,
 ⟨(some 41),.call ⟨.builtin .append,#[(tT 38),(tT 40)],#[34,34]⟩,34,.no⟩,
 jF 42 141 6 0,
 jS 34 42 41]))))
 (.reg [jM 24 7 3,
 jB 25 .add 3 (tT 24) (zI 1) 3 3,
 jA 7 25 3]))))))
 (qR [jL 43 141 6,
 jS 141 4 43,
 jK 5 (zB true) 4]
 .ret))
 .skip))
 (.seq (qR [jM 44 1 54,
 jZ 45 44 54,
 jM 46 0 9,
 jZ 47 46 9,
 jB 48 .neq 3 (tT 45) (tT 47) 3 4]
 (.cond (tT 48) (qR [jL 49 141 6,
 jS 141 4 49,
 jK 5 (zB false) 4]
 .ret)
 .skip))
 (.seq (qR [jK 10 (zI 0) 3]
 (.block 2 (.loop (.seq (qR [jM 50 10 3,
 jM 51 1 54,
 jZ 52 51 54,
 jB 53 .lss 3 (tT 50) (tT 52) 3 4]
 (.cond (tT 53) .skip
 (.exit 2)))
 (.seq (.block 3 (qR [jK 11 (zB false) 4]
 (.seq (qR [jM 56 0 9,
 jM 57 10 3,
 ⟨(some 58),.index 9 (tT 56) (tT 57),5,.no⟩]
 (.block 4 (qR [jB 60 .eql 5 (tT 58) (zU 105) 5 4,
 jA 59 60 4]
 (.cond (tT 59) (qR [jK 12 (zI 0) 3]
 (qR [jM 62 1 54,
 jM 63 10 3,
 jI 64 54 (tT 62) (tT 63),
 jL 65 9 64,
 jC 66 111 #[(tT 65)] #[9] 159,
 jM 61 66 159,
 jE 67 61 0 3,
 jE 68 61 1 4,
 jA 12 67 3,
 jA 11 68 4]
 (.reg [jF 69 141 6 0,
 jL 70 34 69,
 jM 71 12 3,
 ⟨(some 72),.buildSlice 34 1 #[(0,(tT 71))],34,.no⟩,
 ⟨(some 73),.call ⟨.builtin .append,#[(tT 70),(tT 72)],#[34,34]⟩,34,.no⟩,
 jF 74 141 6 0,
 jS 34 74 73])))
 (qR [jB 76 .eql 5 (tT 58) (zU 110) 5 4,
 jA 75 76 4]
 (.cond (tT 75) (qR [⟨(some 13),.assign (.const (.int .u64 0)),22,.no⟩]
 (qR [jM 78 1 54,
 jM 79 10 3,
 jI 80 54 (tT 78) (tT 79),
 jL 81 9 80,
 jC 82 112 #[(tT 81),(.const (.int .u64 18446744073709551615))] #[9,22] 161,
 jM 77 82 161,
 jE 83 77 0 22,
 jE 84 77 1 4,
 jA 13 83 22,
 jA 11 84 4]
 (.reg [jF 85 141 6 1,
 jL 86 139 85,
 jM 87 13 22,
 ⟨(some 88),.buildSlice 139 1 #[(0,(tT 87))],139,.no⟩,
 ⟨(some 89),.call ⟨.builtin .append,#[(tT 86),(tT 88)],#[139,139]⟩,139,.no⟩,
 jF 90 141 6 1,
 jS 139 90 89])))
 (qR [jB 92 .eql 5 (tT 58) (zU 109) 5 4,
 jA 91 92 4]
 (.cond (tT 91) (qR [⟨(some 14),.assign (.const (.int .u64 0)),22,.no⟩]
 (qR [jM 94 1 54,
 jM 95 10 3,
 jI 96 54 (tT 94) (tT 95),
 jL 97 9 96,
 jC 98 112 #[(tT 97),(.const (.int .u64 4294967295))] #[9,22] 161,
 jM 93 98 161,
 jE 99 93 0 22,
 jE 100 93 1 4,
 jA 14 99 22,
 jA 11 100 4]
 (.reg [jF 101 141 6 1,
 jL 102 139 101,
 jM 103 14 22,
 ⟨(some 104),.buildSlice 139 1 #[(0,(tT 103))],139,.no⟩,
 ⟨(some 105),.call ⟨.builtin .append,#[(tT 102),(tT 104)],#[139,139]⟩,139,.no⟩,
 jF 106 141 6 1,
 jS 139 106 105])))
 (qR [jB 108 .eql 5 (tT 58) (zU 119) 5 4,
 jA 107 108 4]
 (.cond (tT 107) (qR [jM 109 1 54,
 jM 110 10 3,
 jI 111 54 (tT 109) (tT 110),
 jL 112 9 111,
 jB 113 .eql 9 (tT 112) (zS [101,120,112,114,101,115,115]) 9 4,
 jM 114 113 4,
 jM 115 1 54 (jG 114),
 jM 116 10 3 (jG 114),
 jI 117 54 (tT 115) (tT 116) (jG 114),
 jL 118 9 117 (jG 114),
 jB 119 .eql 9 (tT 118) (zS [102,114,101,105,103,104,116]) 9 4 (jG 114),
 jP 120 (tT 114) (zB true) (tT 119),
 jA 11 120 4]
 (qR [jF 121 141 6 2,
 ⟨none,.store 3 (tT 121) (zI 1),0,.no⟩]
 (qR [jM 122 1 54,
 jM 123 10 3,
 jI 124 54 (tT 122) (tT 123),
 jL 125 9 124,
 jB 126 .eql 9 (tT 125) (zS [102,114,101,105,103,104,116]) 9 4]
 (.cond (tT 126) (.reg [jF 127 141 6 2,
 ⟨none,.store 3 (tT 127) (zI 2),0,.no⟩])
 .skip))))
 (qR [jB 129 .eql 5 (tT 58) (zU 116) 5 4,
 jA 128 129 4]
 (.cond (tT 128) (qR [jM 131 1 54,
 jM 132 10 3,
 jI 133 54 (tT 131) (tT 132),
 jL 134 9 133,
 jC 135 113 #[(tT 134)] #[9] 163,
 jM 130 135 163,
 jE 136 130 0 29,
 jE 137 130 1 4,
 jA 15 136 29,
 jA 16 137 4]
 (qR [jM 138 15 29,
 jF 139 141 6 3,
 jS 29 139 138]
 (.reg [jM 140 16 4,
 jA 11 140 4])))
 .skip))))))))))))
 (qR [jM 141 11 4,
 ⟨(some 142),.unOp .not 4 (tT 141),4,.no⟩]
 (.cond (tT 142) (qR [jL 143 141 6,
 jS 141 4 143,
 jK 5 (zB false) 4]
 .ret)
 .skip)))))
 (.reg [jM 54 10 3,
 jB 55 .add 3 (tT 54) (zI 1) 3 3,
 jA 10 55 3]))))))
 (qR [jL 144 141 6,
 jS 141 4 144,
 jK 5 (zB true) 4]
 .ret))))))
theorem e78:(Tryz.f78.body.map Qa6)=some s78:=by kernel_rfl
noncomputable def s79:SCode:=(qR [⟨(some 3),.box 88 (tT 0),0,.no⟩,
 ⟨(some 5),.box 141 (tT 2),0,.no⟩,
 jW 6 36]
 (qR [jF 8 88 3 2,
 jL 9 3 8,
 jM 10 1 3,
 ⟨(some 11),.build 36 #[(0,(tT 9)),(1,(tT 10))],36,.no⟩,
 jW 7 36,
 jS 36 7 11]
 (.seq (qR [jF 12 88 3 0,
 jL 13 9 12]
 (.block 0 (qR [jB 15 .eql 9 (tT 13) (zS [116,105,99,107]) 9 4,
 jA 14 15 4]
 (.cond (tT 14) (.reg [jF 16 141 5 1,
 jL 17 139 16,
 jI 18 139 (tT 17) (zI 0),
 jL 19 22 18,
 jF 20 36 7 12,
 jS 22 20 19])
 (qR [jB 22 .eql 9 (tT 13) (zS [108,105,115,116,101,110]) 9 4,
 jA 21 22 4]
 (.cond (tT 21) (qR [jF 23 141 5 0,
 jL 24 34 23,
 jI 25 34 (tT 24) (zI 0),
 jL 26 3 25,
 jF 27 36 7 2,
 jS 3 27 26]
 (.drw [dF 0 28 141 5 0 .no [] [5],
 dL 1 29 34 28 .no [0] [28],
 dI 2 30 34 (tT 29) (zI 1) .no [1] [29],
 dL 3 31 3 30 .no [2] [30],
 dF 4 32 141 5 0 .no [] [5],
 dL 5 33 34 32 .no [4] [32],
 dI 6 34 34 (tT 33) (zI 2) .no [5] [33],
 dL 7 35 3 34 .no [6] [34],
 ⟨8,(some 36),.build 32 #[(0,(tT 31)),(1,(tT 35))],32,.no,[3,7],[31,35]⟩,
 dF 9 37 36 7 7 .no [0,1,2,3,4,5,6,7,8] [7],
 ⟨10,none,.store 32 (tT 37) (tT 36),0,.no,[9,8,0,1,2,3,4,5,6,7,8],[37,36]⟩]))
 (.seq (qR [jB 39 .eql 9 (tT 13) (zS [117,110,108,105,115,116,101,110]) 9 4,
 jA 38 39 4]
 (.cond (tT 38) .skip
 (qR [jB 40 .eql 9 (tT 13) (zS [98,101,103,105,110]) 9 4,
 jA 38 40 4]
 (.cond (tT 38) .skip
 (qR [jB 41 .eql 9 (tT 13) (zS [99,101,97,115,101]) 9 4,
 jA 38 41 4]
 (.cond (tT 38) .skip
 (.reg [jB 42 .eql 9 (tT 13) (zS [99,117,114,115,111,114]) 9 4,
 jA 38 42 4])))))))
 (.cond (tT 38) (.reg [jF 43 141 5 0,
 jL 44 34 43,
 jI 45 34 (tT 44) (zI 0),
 jL 46 3 45,
 jF 47 36 7 2,
 jS 3 47 46])
 (qR [jB 49 .eql 9 (tT 13) (zS [115,101,110,100]) 9 4,
 jA 48 49 4]
 (.cond (tT 48) (qR [jF 50 141 5 0,
 jL 51 34 50,
 jI 52 34 (tT 51) (zI 0),
 jL 53 3 52,
 jF 54 36 7 2,
 jS 3 54 53]
 (qR [jF 55 141 5 1,
 jL 56 139 55,
 jI 57 139 (tT 56) (zI 0),
 jL 58 22 57,
 jF 59 36 7 3,
 jS 22 59 58]
 (qR [jF 60 141 5 1,
 jL 61 139 60,
 jI 62 139 (tT 61) (zI 1),
 jL 63 22 62,
 jF 64 36 7 4,
 jS 22 64 63]
 (.reg [jF 65 141 5 3,
 jL 66 29 65,
 jF 67 36 7 5,
 jS 29 67 66]))))
 (qR [jB 69 .eql 9 (tT 13) (zS [99,97,110,99,101,108]) 9 4,
 jA 68 69 4]
 (.cond (tT 68) (qR [jF 70 141 5 0,
 jL 71 34 70,
 jI 72 34 (tT 71) (zI 0),
 jL 73 3 72,
 jF 74 36 7 2,
 jS 3 74 73]
 (.reg [jF 75 141 5 1,
 jL 76 139 75,
 jI 77 139 (tT 76) (zI 0),
 jL 78 22 77,
 jF 79 36 7 6,
 jS 22 79 78]))
 (.seq (qR [jB 81 .eql 9 (tT 13) (zS [100,101,108,105,118,101,114]) 9 4,
 jA 80 81 4]
 (.cond (tT 80) .skip
 (qR [jB 82 .eql 9 (tT 13) (zS [100,114,111,112]) 9 4,
 jA 80 82 4]
 (.cond (tT 80) .skip
 (.reg [jB 83 .eql 9 (tT 13) (zS [100,111,117,98,108,101]) 9 4,
 jA 80 83 4])))))
 (.cond (tT 80) (qR [jF 84 141 5 2,
 jL 85 3 84,
 jF 86 36 7 8,
 jS 3 86 85]
 (.reg [jF 87 141 5 0,
 jL 88 34 87,
 jI 89 34 (tT 88) (zI 0),
 jL 90 3 89,
 jF 91 36 7 9,
 jS 3 91 90]))
 (qR [jB 93 .eql 9 (tT 13) (zS [116,117,114,110]) 9 4,
 jA 92 93 4]
 (.cond (tT 92) (qR [jF 94 141 5 2,
 jL 95 3 94,
 jF 96 36 7 8,
 jS 3 96 95]
 (qR [jF 97 141 5 0,
 jL 98 34 97,
 jI 99 34 (tT 98) (zI 0),
 jL 100 3 99,
 jF 101 36 7 9,
 jS 3 101 100]
 (qR [jF 102 141 5 0,
 jL 103 34 102,
 jI 104 34 (tT 103) (zI 1),
 jL 105 3 104,
 jF 106 36 7 10,
 jS 3 106 105]
 (.reg [jF 107 141 5 1,
 jL 108 139 107,
 jI 109 139 (tT 108) (zI 0),
 jL 110 22 109,
 ⟨(some 111),.convert 22 33 (tT 110),33,.no⟩,
 jF 112 36 7 11,
 jS 33 112 111]))))
 (qR [jB 114 .eql 9 (tT 13) (zS [99,117,116]) 9 4,
 jA 113 114 4]
 (.cond (tT 113) (.reg [jF 115 141 5 0,
 jL 116 34 115,
 jI 117 34 (tT 116) (zI 0),
 jL 118 3 117,
 jF 119 36 7 10,
 jS 3 119 118])
 (qR [jB 121 .eql 9 (tT 13) (zS [99,114,97,115,104]) 9 4,
 jA 120 121 4]
 (.cond (tT 120) (.reg [jF 122 141 5 0,
 jL 123 34 122,
 jF 124 36 7 13,
 jS 34 124 123])
 (.seq (qR [jB 126 .eql 9 (tT 13) (zS [99,108,111,115,101]) 9 4,
 jA 125 126 4]
 (.cond (tT 125) .skip
 (qR [jB 127 .eql 9 (tT 13) (zS [110,101,120,116]) 9 4,
 jA 125 127 4]
 (.cond (tT 125) .skip
 (qR [jB 128 .eql 9 (tT 13) (zS [112,114,101,118]) 9 4,
 jA 125 128 4]
 (.cond (tT 125) .skip
 (.reg [jB 129 .eql 9 (tT 13) (zS [114,101,119,105,110,100]) 9 4,
 jA 125 129 4])))))))
 (.cond (tT 125) (.reg [jF 130 141 5 0,
 jL 131 34 130,
 jI 132 34 (tT 131) (zI 0),
 jL 133 3 132,
 jF 134 36 7 14,
 jS 3 134 133])
 (qR [jB 136 .eql 9 (tT 13) (zS [115,101,101,107]) 9 4,
 jA 135 136 4]
 (.cond (tT 135) (qR [jF 137 141 5 0,
 jL 138 34 137,
 jI 139 34 (tT 138) (zI 0),
 jL 140 3 139,
 jF 141 36 7 14,
 jS 3 141 140]
 (.reg [jF 142 141 5 1,
 jL 143 139 142,
 jI 144 139 (tT 143) (zI 0),
 jL 145 22 144,
 jF 146 36 7 3,
 jS 22 146 145]))
 (qR [jB 148 .eql 9 (tT 13) (zS [103,97,112,115]) 9 4,
 jA 147 148 4]
 (.cond (tT 147) (qR [jF 149 141 5 0,
 jL 150 34 149,
 jI 151 34 (tT 150) (zI 0),
 jL 152 3 151,
 jF 153 36 7 2,
 jS 3 153 152]
 (qR [jF 154 141 5 1,
 jL 155 139 154,
 jI 156 139 (tT 155) (zI 0),
 jL 157 22 156,
 jF 158 36 7 3,
 jS 22 158 157]
 (.reg [jF 159 141 5 1,
 jL 160 139 159,
 jI 161 139 (tT 160) (zI 1),
 jL 162 22 161,
 jF 163 36 7 15,
 jS 22 163 162])))
 .skip))))))))))))))))))))))))))
 (qR [jL 164 36 7,
 jS 36 6 164]
 .ret))))
theorem e79:(Tryz.f79.body.map Qa6)=some s79:=by kernel_rfl
noncomputable def s82:SCode:=(qR [⟨(some 2),.assign (.const (.pointer none)),117,.no⟩]
 (qR [jM 3 0 116,
 jN 4 3,
 jF 5 36 4 2,
 jA 2 5 117]
 .ret))
theorem e82:(Tryz.f82.body.map Qa6)=some s82:=by kernel_rfl
noncomputable def s83:SCode:=(.reg [jL 5 118 2,
 jM 6 1 116,
 ⟨(some 7),.call ⟨.value (tT 5),#[(tT 6)],#[116]⟩,117,.no⟩,
 jM 8 0 130,
 jC 9 84 #[(tT 8)] #[130] 3,
 jN 10 7,
 jS 3 10 9])
theorem e83:(Tryz.f83.body.map Qa6)=some s83:=by kernel_rfl
noncomputable def s84:SCode:=(qR [jK 2 (zI 0) 3]
 (qR [jM 7 0 130,
 jC 8 73 #[(tT 7)] #[130] 9,
 jA 3 8 9]
 (.seq (qR [jM 10 3 9,
 jC 11 118 #[(tT 10),(zS [45])] #[9,9] 170,
 jM 9 11 170,
 jE 12 9 0 9,
 jE 13 9 1 4,
 jA 4 12 9,
 jA 5 13 4]
 (qR [jM 14 5 4]
 (.cond (tT 14) (qR [jM 15 4 9,
 jC 16 119 #[(tT 15),(.const (.int .u64 2147483648))] #[9,22] 22,
 jA 6 16 22]
 (qR [jM 17 6 22,
 ⟨(some 18),.binOp .gtr 22 (tT 17) (.const (.int .u64 0)) 22,4,.no⟩,
 jC 19 75 #[(tT 18)] #[4] 0]
 (qR [jM 20 6 22,
 ⟨(some 21),.convert 22 3 (tT 20),3,.no⟩,
 ⟨(some 22),.unOp .neg 3 (tT 21),3,.no⟩,
 jA 2 22 3]
 .ret)))
 .skip)))
 (qR [jM 23 3 9,
 jC 24 119 #[(tT 23),(.const (.int .u64 2147483647))] #[9,22] 22,
 ⟨(some 25),.convert 22 3 (tT 24),3,.no⟩,
 jA 2 25 3]
 .ret))))
theorem e84:(Tryz.f84.body.map Qa6)=some s84:=by kernel_rfl
noncomputable def s85:SCode:=(qR [⟨(some 4),.box 36 (tT 1),0,.no⟩]
 (.reg [jM 5 0 62,
 jL 6 118 2,
 ⟨(some 7),.call ⟨.value (tT 6),#[(tT 4)],#[116]⟩,117,.no⟩,
 jN 8 7,
 jL 9 3 8,
 jC 10 27 #[(tT 5),(tT 9)] #[62,3] 0]))
theorem e85:(Tryz.f85.body.map Qa6)=some s85:=by kernel_rfl
noncomputable def s86:SCode:=(.reg [jL 5 121 2,
 jM 6 1 116,
 ⟨(some 7),.call ⟨.value (tT 5),#[(tT 6)],#[116]⟩,120,.no⟩,
 jM 8 0 130,
 jC 9 87 #[(tT 8)] #[130] 22,
 jN 10 7,
 jS 22 10 9])
theorem e86:(Tryz.f86.body.map Qa6)=some s86:=by kernel_rfl
noncomputable def s87:SCode:=(qR [⟨(some 2),.assign (.const (.int .u64 0)),22,.no⟩]
 (qR [jM 3 0 130,
 jC 4 100 #[(tT 3),(.const (.int .u64 18446744073709551615))] #[130,22] 22,
 jA 2 4 22]
 .ret))
theorem e87:(Tryz.f87.body.map Qa6)=some s87:=by kernel_rfl
noncomputable def s88:SCode:=(qR [⟨(some 4),.box 36 (tT 1),0,.no⟩]
 (.reg [jM 5 0 62,
 jL 6 121 2,
 ⟨(some 7),.call ⟨.value (tT 6),#[(tT 4)],#[116]⟩,120,.no⟩,
 jN 8 7,
 jL 9 22 8,
 jC 10 28 #[(tT 5),(tT 9)] #[62,22] 0]))
theorem e88:(Tryz.f88.body.map Qa6)=some s88:=by kernel_rfl
noncomputable def s89:SCode:=(qR [⟨(some 2),.assign (.const (.pointer none)),120,.no⟩]
 (qR [jM 3 0 116,
 jN 4 3,
 jF 5 36 4 3,
 jA 2 5 120]
 .ret))
theorem e89:(Tryz.f89.body.map Qa6)=some s89:=by kernel_rfl
noncomputable def s90:SCode:=(.reg [jM 4 1 116,
 jM 5 0 130,
 jC 6 91 #[(tT 5)] #[130] 29,
 jN 7 4,
 jF 8 36 7 5,
 jS 29 8 6])
theorem e90:(Tryz.f90.body.map Qa6)=some s90:=by kernel_rfl
noncomputable def s91:SCode:=(qR [⟨(some 2),.assign (.const (.slice none 0 0)),29,.no⟩]
 (qR [jM 8 0 130,
 jC 9 73 #[(tT 8)] #[130] 9,
 jA 3 9 9]
 (qR [jM 10 3 9,
 jZ 11 10 9,
 jB 12 .geq 3 (tT 11) (zI 2) 3 4,
 jM 13 12 4,
 jM 14 3 9 (jT 13),
 ⟨(some 15),.index 9 (tT 14) (zI 0),5,(jT 13)⟩,
 jB 16 .eql 5 (tT 15) (zU 34) 5 4 (jT 13),
 jP 17 (tT 13) (tT 16) (zB false),
 jM 18 17 4,
 jM 19 3 9 (jT 18),
 jM 20 3 9 (jT 18),
 jZ 21 20 9 (jT 18),
 jB 22 .sub 3 (tT 21) (zI 1) 3 3 (jT 18),
 ⟨(some 23),.index 9 (tT 19) (tT 22),5,(jT 18)⟩,
 jB 24 .eql 5 (tT 23) (zU 34) 5 4 (jT 18),
 jP 25 (tT 18) (tT 24) (zB false),
 jC 26 75 #[(tT 25)] #[4] 0]
 (qR [jM 27 3 9,
 jM 28 3 9,
 jZ 29 28 9,
 jB 30 .sub 3 (tT 29) (zI 1) 3 3,
 ⟨(some 31),.slice 9 (tT 27) (some (zI 1)) (some (tT 30)) none,9,.no⟩,
 jA 4 31 9]
 (qR [⟨(some 5),.assign (.const (.slice none 0 0)),29,.no⟩]
 (.seq (qR [jK 6 (zI 0) 3]
 (.block 0 (.loop (.seq (qR [jM 32 6 3,
 jM 33 4 9,
 jZ 34 33 9,
 jB 35 .lss 3 (tT 32) (tT 34) 3 4]
 (.cond (tT 35) .skip
 (.exit 0)))
 (.seq (.block 1 (qR [jM 38 4 9,
 jM 39 6 3,
 ⟨(some 40),.index 9 (tT 38) (tT 39),5,.no⟩,
 jA 7 40 5]
 (qR [jM 41 7 5,
 jB 42 .geq 5 (tT 41) (zU 32) 5 4,
 jM 43 42 4,
 jM 44 7 5 (jT 43),
 jB 45 .leq 5 (tT 44) (zU 126) 5 4 (jT 43),
 jP 46 (tT 43) (tT 45) (zB false),
 jM 47 46 4,
 jM 48 7 5 (jT 47),
 jB 49 .neq 5 (tT 48) (zU 34) 5 4 (jT 47),
 jP 50 (tT 47) (tT 49) (zB false),
 jC 51 75 #[(tT 50)] #[4] 0]
 (.seq (qR [jM 52 7 5,
 jB 53 .neq 5 (tT 52) (zU 92) 5 4]
 (.cond (tT 53) (qR [jM 54 5 29,
 jM 55 7 5,
 ⟨(some 56),.buildSlice 29 1 #[(0,(tT 55))],29,.no⟩,
 ⟨(some 57),.call ⟨.builtin .append,#[(tT 54),(tT 56)],#[29,29]⟩,29,.no⟩,
 jA 5 57 29]
 (.exit 1))
 .skip))
 (qR [jM 58 6 3,
 jB 59 .add 3 (tT 58) (zI 1) 3 3,
 jA 6 59 3]
 (qR [jM 60 6 3,
 jM 61 4 9,
 jZ 62 61 9,
 jB 63 .lss 3 (tT 60) (tT 62) 3 4,
 jC 64 75 #[(tT 63)] #[4] 0]
 (qR [jM 65 4 9,
 jM 66 6 3,
 ⟨(some 67),.index 9 (tT 65) (tT 66),5,.no⟩]
 (.block 2 (qR [jB 71 .eql 5 (tT 67) (zU 110) 5 4,
 jA 70 71 4]
 (.cond (tT 70) (.reg [jM 72 5 29,
 ⟨(some 73),.buildSlice 29 1 #[(0,(zU 10))],29,.no⟩,
 ⟨(some 74),.call ⟨.builtin .append,#[(tT 72),(tT 73)],#[29,29]⟩,29,.no⟩,
 jA 5 74 29])
 (qR [jB 76 .eql 5 (tT 67) (zU 116) 5 4,
 jA 75 76 4]
 (.cond (tT 75) (.reg [jM 77 5 29,
 ⟨(some 78),.buildSlice 29 1 #[(0,(zU 9))],29,.no⟩,
 ⟨(some 79),.call ⟨.builtin .append,#[(tT 77),(tT 78)],#[29,29]⟩,29,.no⟩,
 jA 5 79 29])
 (.seq (qR [jB 81 .eql 5 (tT 67) (zU 34) 5 4,
 jA 80 81 4]
 (.cond (tT 80) .skip
 (.reg [jB 82 .eql 5 (tT 67) (zU 92) 5 4,
 jA 80 82 4])))
 (.cond (tT 80) (.reg [jM 83 5 29,
 jM 84 4 9,
 jM 85 6 3,
 ⟨(some 86),.index 9 (tT 84) (tT 85),5,.no⟩,
 ⟨(some 87),.buildSlice 29 1 #[(0,(tT 86))],29,.no⟩,
 ⟨(some 88),.call ⟨.builtin .append,#[(tT 83),(tT 87)],#[29,29]⟩,29,.no⟩,
 jA 5 88 29])
 (qR [jB 90 .eql 5 (tT 67) (zU 120) 5 4,
 jA 89 90 4]
 (.cond (tT 89) (qR [jM 91 6 3,
 jB 92 .add 3 (tT 91) (zI 2) 3 3,
 jM 93 4 9,
 jZ 94 93 9,
 jB 95 .lss 3 (tT 92) (tT 94) 3 4,
 jC 96 75 #[(tT 95)] #[4] 0]
 (.seq (.drw [dM 0 97 5 29 .no [] [5],
 dM 1 98 4 9 .no [] [4],
 dM 2 99 6 3 .no [] [6],
 dB 3 100 .add 3 (tT 99) (zI 1) 3 3 .no [2] [99],
 ⟨4,(some 101),.index 9 (tT 98) (tT 100),5,.no,[1,3],[98,100]⟩,
 ⟨5,(some 102),.call ⟨.value (.func 120),#[(tT 101)],#[5]⟩,5,.no,[4],[101]⟩,
 ⟨6,(some 103),.binOp .shl 5 (tT 102) (.const (.int .u64 4)) 174,5,.no,[5],[102]⟩,
 dM 7 104 4 9 .no [] [4],
 dM 8 105 6 3 .no [] [6],
 dB 9 106 .add 3 (tT 105) (zI 2) 3 3 .no [8] [105],
 ⟨10,(some 107),.index 9 (tT 104) (tT 106),5,.no,[7,9],[104,106]⟩,
 ⟨11,(some 108),.call ⟨.value (.func 120),#[(tT 107)],#[5]⟩,5,.no,[10,5],[107]⟩,
 dB 12 109 .or 5 (tT 103) (tT 108) 5 5 .no [6,11] [103,108],
 ⟨13,(some 110),.buildSlice 29 1 #[(0,(tT 109))],29,.no,[12],[109]⟩,
 ⟨14,(some 111),.call ⟨.builtin .append,#[(tT 97),(tT 110)],#[29,29]⟩,29,.no,[0,13,11],[97,110]⟩,
 ⟨15,(some 5),.assign (tT 111),29,.no,[14,14,0,1,2,3,4,5,6,7,8,9,10,11,12,13,14],[111]⟩])
 (.reg [jM 112 6 3,
 jB 113 .add 3 (tT 112) (zI 2) 3 3,
 jA 6 113 3])))
 (.reg [⟨(some 68),.build 128 #[],128,.no⟩,
 ⟨(some 69),.makeInterface 128 (tT 68),20,.no⟩,
 ⟨none,.panic (tT 69),0,.no⟩])))))))))))))))))
 (.reg [jM 36 6 3,
 jB 37 .add 3 (tT 36) (zI 1) 3 3,
 jA 6 37 3]))))))
 (qR [jM 114 5 29,
 jA 2 114 29]
 .ret)))))))
theorem e91:(Tryz.f91.body.map Qa6)=some s91:=by kernel_rfl
noncomputable def s92:SCode:=(qR [⟨(some 3),.box 36 (tT 1),0,.no⟩]
 (.reg [jM 4 0 62,
 jF 5 36 3 5,
 jL 6 29 5,
 jC 7 93 #[(tT 6)] #[29] 9,
 jC 8 47 #[(tT 4),(tT 7)] #[62,9] 0]))
theorem e92:(Tryz.f92.body.map Qa6)=some s92:=by kernel_rfl
noncomputable def s93:SCode:=(qR [jK 2 (zS []) 9]
 (qR [jW 3 65]
 (qR [jC 6 29 #[(tT 3),(zU 34)] #[65,5] 69]
 (.seq (qR [jM 7 0 29,
 jZ 8 7 29,
 ⟨(some 9),.move (zI 0),3,.no⟩]
 (.block 0 (.loop (qR [jB 10 .lss 3 (tT 9) (tT 8) 3 0]
 (.seq (.cond (tT 10) .skip
 (.exit 0))
 (.seq (.block 1 (qR [jI 11 29 (tT 7) (tT 9),
 jL 12 5 11,
 jA 5 12 5]
 (.block 2 (.seq (.block 7 (.seq (.block 6 (.seq (.block 5 (.seq (.block 4 (.seq (.block 3 (.seq (.seq (qR [jM 14 5 5,
 jB 15 .eql 5 (tT 14) (zU 34) 5 4,
 jM 16 15 4,
 jM 17 5 5 (jG 16),
 jB 18 .eql 5 (tT 17) (zU 92) 5 4 (jG 16),
 jP 19 (tT 16) (zB true) (tT 18),
 jA 13 19 4]
 (.cond (tT 13) (.exit 3)
 .skip))
 (.seq (qR [jM 21 5 5,
 jB 22 .geq 5 (tT 21) (zU 32) 5 4,
 jM 23 22 4,
 jM 24 5 5 (jT 23),
 jB 25 .leq 5 (tT 24) (zU 126) 5 4 (jT 23),
 jP 26 (tT 23) (tT 25) (zB false),
 jA 20 26 4]
 (.cond (tT 20) (.exit 4)
 .skip))
 (.seq (qR [jM 28 5 5,
 jB 29 .eql 5 (tT 28) (zU 10) 5 4,
 jA 27 29 4]
 (.cond (tT 27) (.exit 5)
 .skip))
 (qR [jM 31 5 5,
 jB 32 .eql 5 (tT 31) (zU 9) 5 4,
 jA 30 32 4]
 (.cond (tT 30) (.exit 6)
 .skip)))))
 (.exit 7)))
 (.reg [jC 33 29 #[(tT 3),(zU 92)] #[65,5] 69])))
 (qR [jM 34 5 5,
 jC 35 29 #[(tT 3),(tT 34)] #[65,5] 69]
 (.exit 2))))
 (qR [jC 36 26 #[(tT 3),(zS [92,110])] #[65,9] 70]
 (.exit 2))))
 (qR [jC 37 26 #[(tT 3),(zS [92,116])] #[65,9] 70]
 (.exit 2))))
 (.seq (qR [jC 38 26 #[(tT 3),(zS [92,120])] #[65,9] 70]
 (qR [jM 39 5 5,
 ⟨(some 40),.binOp .shr 5 (tT 39) (.const (.int .u64 4)) 174,5,.no⟩,
 ⟨(some 41),.index 9 (zS [48,49,50,51,52,53,54,55,56,57,97,98,99,100,101,102]) (tT 40),5,.no⟩,
 jC 42 29 #[(tT 3),(tT 41)] #[65,5] 69]
 (.reg [jM 43 5 5,
 jB 44 .and 5 (tT 43) (zU 15) 5 5,
 ⟨(some 45),.index 9 (zS [48,49,50,51,52,53,54,55,56,57,97,98,99,100,101,102]) (tT 44),5,.no⟩,
 jC 46 29 #[(tT 3),(tT 45)] #[65,5] 69])))
 (.exit 2))))))
 (.reg [jB 47 .add 3 (tT 9) (zI 1) 3 3,
 jM 9 47 3])))))))
 (qR [jC 48 29 #[(tT 3),(zU 34)] #[65,5] 69]
 (qR [jC 49 33 #[(tT 3)] #[65] 9,
 jA 2 49 9]
 .ret))))))
theorem e93:(Tryz.f93.body.map Qa6)=some s93:=by kernel_rfl
noncomputable def s94:SCode:=(.reg [jM 4 1 116,
 jM 5 0 130,
 jC 6 95 #[(tT 5)] #[130] 3,
 jN 7 4,
 jF 8 36 7 8,
 jS 3 8 6])
theorem e94:(Tryz.f94.body.map Qa6)=some s94:=by kernel_rfl
noncomputable def s95:SCode:=(qR [jK 2 (zI 0) 3]
 (.seq (qR [jM 3 0 130,
 jC 4 73 #[(tT 3)] #[130] 9]
 (.block 0 (qR [jB 6 .eql 9 (tT 4) (zS [101,120,112,114,101,115,115]) 9 4,
 jA 5 6 4]
 (.cond (tT 5) (qR [jK 2 (zI 1) 3]
 .ret)
 (qR [jB 8 .eql 9 (tT 4) (zS [102,114,101,105,103,104,116]) 9 4,
 jA 7 8 4]
 (.cond (tT 7) (qR [jK 2 (zI 2) 3]
 .ret)
 .skip))))))
 (.reg [⟨(some 9),.build 128 #[],128,.no⟩,
 ⟨(some 10),.makeInterface 128 (tT 9),20,.no⟩,
 ⟨none,.panic (tT 10),0,.no⟩])))
theorem e95:(Tryz.f95.body.map Qa6)=some s95:=by kernel_rfl
noncomputable def s96:SCode:=(qR [⟨(some 3),.box 36 (tT 1),0,.no⟩]
 (.reg [jM 4 0 62,
 ⟨(some 5),.build 149 #[(1,(zS [101,120,112,114,101,115,115])),(2,(zS [102,114,101,105,103,104,116]))],149,.no⟩,
 jF 6 36 3 8,
 jL 7 3 6,
 ⟨(some 8),.index 149 (tT 5) (tT 7),9,.no⟩,
 jC 9 47 #[(tT 4),(tT 8)] #[62,9] 0]))
theorem e96:(Tryz.f96.body.map Qa6)=some s96:=by kernel_rfl
noncomputable def s97:SCode:=(qR [⟨(some 2),.assign (.const (.pointer none)),117,.no⟩]
 (qR [jM 3 0 116,
 jN 4 3,
 jF 5 36 4 9,
 jA 2 5 117]
 .ret))
theorem e97:(Tryz.f97.body.map Qa6)=some s97:=by kernel_rfl
noncomputable def s98:SCode:=(qR [⟨(some 2),.assign (.const (.pointer none)),117,.no⟩]
 (qR [jM 3 0 116,
 jN 4 3,
 jF 5 36 4 10,
 jA 2 5 117]
 .ret))
theorem e98:(Tryz.f98.body.map Qa6)=some s98:=by kernel_rfl
noncomputable def s99:SCode:=(.reg [jM 4 1 116,
 jM 5 0 130,
 jC 6 100 #[(tT 5),(.const (.int .u64 4294967295))] #[130,22] 22,
 ⟨(some 7),.convert 22 33 (tT 6),33,.no⟩,
 jN 8 4,
 jF 9 36 8 11,
 jS 33 9 7])
theorem e99:(Tryz.f99.body.map Qa6)=some s99:=by kernel_rfl
noncomputable def s100:SCode:=(qR [⟨(some 4),.assign (.const (.int .u64 0)),22,.no⟩]
 (qR [jM 5 0 130,
 jC 6 73 #[(tT 5)] #[130] 9,
 jM 7 1 22,
 jC 8 119 #[(tT 6),(tT 7)] #[9,22] 22,
 jA 4 8 22]
 .ret))
theorem e100:(Tryz.f100.body.map Qa6)=some s100:=by kernel_rfl
noncomputable def s101:SCode:=(qR [⟨(some 3),.box 36 (tT 1),0,.no⟩]
 (.reg [jM 4 0 62,
 jF 5 36 3 11,
 jL 6 33 5,
 ⟨(some 7),.convert 33 22 (tT 6),22,.no⟩,
 jC 8 28 #[(tT 4),(tT 7)] #[62,22] 0]))
theorem e101:(Tryz.f101.body.map Qa6)=some s101:=by kernel_rfl
noncomputable def s102:SCode:=(.block 0 (.loop (.seq (qR [jM 4 0 130,
 jN 5 4,
 jF 6 132 5 0,
 jL 7 54 6,
 jZ 8 7 54,
 jB 9 .gtr 3 (tT 8) (zI 0) 3 4]
 (.cond (tT 9) .skip
 (.exit 0)))
 (.block 1 (.drw [dM 0 10 1 116 .no [] [1],
 dM 1 11 1 116 .no [] [1],
 ⟨2,(some 12),.nilCheck (tT 11),0,.no,[1],[11]⟩,
 dF 3 13 36 12 13 .no [2] [12],
 dL 4 14 34 13 .no [3] [13],
 dM 5 15 0 130 .no [] [0],
 ⟨6,(some 16),.call ⟨.value (.func 84),#[(tT 15)],#[130]⟩,3,.no,[5],[15]⟩,
 ⟨7,(some 17),.buildSlice 34 1 #[(0,(tT 16))],34,.no,[6],[16]⟩,
 ⟨8,(some 18),.call ⟨.builtin .append,#[(tT 14),(tT 17)],#[34,34]⟩,34,.no,[4,7,6],[14,17]⟩,
 ⟨9,(some 19),.nilCheck (tT 10),0,.no,[0,0,1,2,3,4,5,6,7,8],[10]⟩,
 dF 10 20 36 19 13 .no [9,0,1,2,3,4,5,6,7,8] [19],
 ⟨11,none,.store 34 (tT 20) (tT 18),0,.no,[10,8,8,0,1,2,3,4,5,6,7,8],[20,18]⟩])))))
theorem e102:(Tryz.f102.body.map Qa6)=some s102:=by kernel_rfl
noncomputable def s103:SCode:=(qR [⟨(some 3),.box 36 (tT 1),0,.no⟩]
 (qR [jF 6 36 3 13,
 jL 7 34 6,
 jZ 8 7 34,
 ⟨(some 9),.move (zI 0),3,.no⟩]
 (.block 0 (.loop (qR [jB 10 .lss 3 (tT 9) (tT 8) 3 0]
 (.seq (.cond (tT 10) .skip
 (.exit 0))
 (.seq (.block 1 (qR [jI 11 34 (tT 7) (tT 9),
 jL 12 3 11,
 jA 5 12 3]
 (.reg [jM 13 0 62,
 jM 14 5 3,
 jC 15 27 #[(tT 13),(tT 14)] #[62,3] 0])))
 (.reg [jB 16 .add 3 (tT 9) (zI 1) 3 3,
 jM 9 16 3]))))))))
theorem e103:(Tryz.f103.body.map Qa6)=some s103:=by kernel_rfl
noncomputable def s104:SCode:=(qR [⟨(some 2),.assign (.const (.pointer none)),117,.no⟩]
 (qR [jM 3 0 116,
 jN 4 3,
 jF 5 36 4 14,
 jA 2 5 117]
 .ret))
theorem e104:(Tryz.f104.body.map Qa6)=some s104:=by kernel_rfl
noncomputable def s106:SCode:=(.seq (qR [jL 9 9 1,
 jZ 10 9 9,
 jB 11 .eql 3 (tT 10) (zI 0) 3 4]
 (.cond (tT 11) (.seq (.block 0 (.loop (.seq (qR [jL 12 9 2,
 jZ 13 12 9,
 jB 14 .gtr 3 (tT 13) (zI 0) 3 4]
 (.cond (tT 14) .skip
 (.exit 0)))
 (.block 1 (qR [jL 16 9 2,
 jC 17 107 #[(tT 16)] #[9] 152,
 jM 15 17 152,
 jE 18 15 0 21,
 jE 19 15 1 3,
 jA 5 18 21,
 jA 6 19 3]
 (.seq (qR [jM 20 0 52,
 jL 21 9 2,
 jM 22 6 3,
 ⟨(some 23),.slice 9 (tT 21) none (some (tT 22)) none,9,.no⟩,
 ⟨(some 24),.call ⟨.value (tT 20),#[(tT 23)],#[9]⟩,4,.no⟩,
 ⟨(some 25),.unOp .not 4 (tT 24),4,.no⟩]
 (.cond (tT 25) .ret
 .skip))
 (.reg [jL 26 9 2,
 jM 27 6 3,
 ⟨(some 28),.slice 9 (tT 26) (some (tT 27)) none none,9,.no⟩,
 jS 9 2 28])))))))
 .ret)
 .skip))
 (.seq (.block 2 (.loop (.block 3 (qR [jL 29 9 2,
 jL 30 9 1,
 jC 31 108 #[(tT 29),(tT 30)] #[9,9] 3,
 jA 7 31 3]
 (.seq (qR [jM 32 7 3,
 jB 33 .lss 3 (tT 32) (zI 0) 3 4]
 (.cond (tT 33) (.exit 2)
 .skip))
 (qR [jL 34 9 2,
 jM 35 7 3,
 jL 36 3 3,
 jB 37 .add 3 (tT 35) (tT 36) 3 3,
 ⟨(some 38),.slice 9 (tT 34) none (some (tT 37)) none,9,.no⟩,
 jA 8 38 9]
 (.seq (qR [jM 39 0 52,
 jM 40 8 9,
 ⟨(some 41),.call ⟨.value (tT 39),#[(tT 40)],#[9]⟩,4,.no⟩,
 ⟨(some 42),.unOp .not 4 (tT 41),4,.no⟩]
 (.cond (tT 42) .ret
 .skip))
 (.reg [jL 43 9 2,
 jM 44 7 3,
 jL 45 9 1,
 jZ 46 45 9,
 jB 47 .add 3 (tT 44) (tT 46) 3 3,
 ⟨(some 48),.slice 9 (tT 43) (some (tT 47)) none none,9,.no⟩,
 jS 9 2 48]))))))))
 (.reg [jM 49 0 52,
 jL 50 9 2,
 ⟨(some 51),.call ⟨.value (tT 49),#[(tT 50)],#[9]⟩,4,.no⟩])))
theorem e106:(Tryz.f106.body.map Qa6)=some s106:=by kernel_rfl
noncomputable def s109:SCode:=(qR [jK 2 (zB false) 4]
 (qR [jM 3 0 5,
 jB 4 .eql 5 (tT 3) (zU 32) 5 4,
 jM 5 4 4,
 jM 6 0 5 (jG 5),
 jB 7 .eql 5 (tT 6) (zU 9) 5 4 (jG 5),
 jP 8 (tT 5) (zB true) (tT 7),
 jA 2 8 4]
 .ret))
theorem e109:(Tryz.f109.body.map Qa6)=some s109:=by kernel_rfl
noncomputable def s110:SCode:=(qR [jK 4 (zI 0) 3]
 (qR [jM 6 1 3,
 jB 7 .add 3 (tT 6) (zI 1) 3 3,
 jA 5 7 3]
 (.seq (.block 0 (.loop (.seq (qR [jM 8 5 3,
 jM 9 0 9,
 jZ 10 9 9,
 jB 11 .lss 3 (tT 8) (tT 10) 3 4]
 (.cond (tT 11) .skip
 (.exit 0)))
 (.block 1 (qR [jM 12 0 9,
 jM 13 5 3,
 ⟨(some 14),.index 9 (tT 12) (tT 13),5,.no⟩]
 (.block 2 (qR [jB 18 .eql 5 (tT 14) (zU 92) 5 4,
 jA 17 18 4]
 (.cond (tT 17) (.reg [jM 19 5 3,
 jB 20 .add 3 (tT 19) (zI 2) 3 3,
 jA 5 20 3])
 (qR [jB 22 .eql 5 (tT 14) (zU 34) 5 4,
 jA 21 22 4]
 (.cond (tT 21) (qR [jM 23 5 3,
 jB 24 .add 3 (tT 23) (zI 1) 3 3,
 jA 4 24 3]
 .ret)
 (.reg [jM 15 5 3,
 jB 16 .add 3 (tT 15) (zI 1) 3 3,
 jA 5 16 3])))))))))))
 (qR [jK 4 (zI (-1)) 3]
 .ret))))
theorem e110:(Tryz.f110.body.map Qa6)=some s110:=by kernel_rfl
noncomputable def s111:SCode:=(qR [jK 2 (zI 0) 3,
 jK 3 (zB false) 4]
 (.seq (qR [jM 8 0 9,
 jZ 9 8 9,
 jB 10 .gtr 3 (tT 9) (zI 1) 3 4,
 jM 11 10 4,
 jM 12 0 9 (jT 11),
 ⟨(some 13),.index 9 (tT 12) (zI 0),5,(jT 11)⟩,
 jB 14 .eql 5 (tT 13) (zU 45) 5 4 (jT 11),
 jP 15 (tT 11) (tT 14) (zB false)]
 (.cond (tT 15) (qR [jM 17 0 9,
 ⟨(some 18),.slice 9 (tT 17) (some (zI 1)) none none,9,.no⟩,
 jC 19 112 #[(tT 18),(.const (.int .u64 2147483648))] #[9,22] 161,
 jM 16 19 161,
 jE 20 16 0 22,
 jE 21 16 1 4,
 jA 4 20 22,
 jA 5 21 4]
 (qR [jM 22 4 22,
 ⟨(some 23),.convert 22 3 (tT 22),3,.no⟩,
 ⟨(some 24),.unOp .neg 3 (tT 23),3,.no⟩,
 jM 25 5 4,
 jM 26 25 4,
 jM 27 4 22 (jT 26),
 ⟨(some 28),.binOp .gtr 22 (tT 27) (.const (.int .u64 0)) 22,4,(jT 26)⟩,
 jP 29 (tT 26) (tT 28) (zB false),
 jA 2 24 3,
 jA 3 29 4]
 .ret))
 .skip))
 (qR [jM 31 0 9,
 jC 32 112 #[(tT 31),(.const (.int .u64 2147483647))] #[9,22] 161,
 jM 30 32 161,
 jE 33 30 0 22,
 jE 34 30 1 4,
 jA 6 33 22,
 jA 7 34 4]
 (qR [jM 35 6 22,
 ⟨(some 36),.convert 22 3 (tT 35),3,.no⟩,
 jM 37 7 4,
 jA 2 36 3,
 jA 3 37 4]
 .ret))))
theorem e111:(Tryz.f111.body.map Qa6)=some s111:=by kernel_rfl
noncomputable def s112:SCode:=(qR [⟨(some 4),.assign (.const (.int .u64 0)),22,.no⟩,
 jK 5 (zB false) 4]
 (.seq (qR [jM 9 0 9,
 jB 10 .eql 9 (tT 9) (zS []) 9 4,
 jM 11 10 4,
 jM 12 0 9 (jG 11),
 ⟨(some 13),.index 9 (tT 12) (zI 0),5,(jG 11)⟩,
 jB 14 .eql 5 (tT 13) (zU 48) 5 4 (jG 11),
 jM 15 14 4 (jG 11),
 jM 16 0 9 (jT 15),
 jZ 17 16 9 (jT 15),
 jB 18 .gtr 3 (tT 17) (zI 1) 3 4 (jT 15),
 jP 19 (tT 15) (tT 18) (zB false) (jG 11),
 jP 20 (tT 11) (zB true) (tT 19)]
 (.cond (tT 20) (qR [⟨(some 4),.assign (.const (.int .u64 0)),22,.no⟩,
 jK 5 (zB false) 4]
 .ret)
 .skip))
 (qR [⟨(some 6),.assign (.const (.int .u64 0)),22,.no⟩]
 (.seq (qR [jK 7 (zI 0) 3]
 (.block 0 (.loop (.seq (qR [jM 21 7 3,
 jM 22 0 9,
 jZ 23 22 9,
 jB 24 .lss 3 (tT 21) (tT 23) 3 4]
 (.cond (tT 24) .skip
 (.exit 0)))
 (.seq (.block 1 (.seq (qR [jM 27 0 9,
 jM 28 7 3,
 ⟨(some 29),.index 9 (tT 27) (tT 28),5,.no⟩,
 jB 30 .lss 5 (tT 29) (zU 48) 5 4,
 jM 31 30 4,
 jM 32 0 9 (jG 31),
 jM 33 7 3 (jG 31),
 ⟨(some 34),.index 9 (tT 32) (tT 33),5,(jG 31)⟩,
 jB 35 .gtr 5 (tT 34) (zU 57) 5 4 (jG 31),
 jP 36 (tT 31) (zB true) (tT 35)]
 (.cond (tT 36) (qR [⟨(some 4),.assign (.const (.int .u64 0)),22,.no⟩,
 jK 5 (zB false) 4]
 .ret)
 .skip))
 (qR [jM 37 0 9,
 jM 38 7 3,
 ⟨(some 39),.index 9 (tT 37) (tT 38),5,.no⟩,
 jB 40 .sub 5 (tT 39) (zU 48) 5 5,
 ⟨(some 41),.convert 5 22 (tT 40),22,.no⟩,
 jA 8 41 22]
 (.seq (qR [jM 42 6 22,
 jM 43 8 22,
 ⟨(some 44),.binOp .sub 22 (.const (.int .u64 18446744073709551615)) (tT 43) 22,22,.no⟩,
 ⟨(some 45),.binOp .quo 22 (tT 44) (.const (.int .u64 10)) 22,22,.no⟩,
 jB 46 .gtr 22 (tT 42) (tT 45) 22 4]
 (.cond (tT 46) (qR [⟨(some 4),.assign (.const (.int .u64 0)),22,.no⟩,
 jK 5 (zB false) 4]
 .ret)
 .skip))
 (.reg [jM 47 6 22,
 ⟨(some 48),.binOp .mul 22 (tT 47) (.const (.int .u64 10)) 22,22,.no⟩,
 jM 49 8 22,
 jB 50 .add 22 (tT 48) (tT 49) 22 22,
 jA 6 50 22])))))
 (.reg [jM 25 7 3,
 jB 26 .add 3 (tT 25) (zI 1) 3 3,
 jA 7 26 3]))))))
 (qR [jM 51 6 22,
 jM 52 6 22,
 jM 53 1 22,
 jB 54 .leq 22 (tT 52) (tT 53) 22 4,
 jA 4 51 22,
 jA 5 54 4]
 .ret)))))
theorem e112:(Tryz.f112.body.map Qa6)=some s112:=by kernel_rfl
noncomputable def s113:SCode:=(qR [⟨(some 2),.assign (.const (.slice none 0 0)),29,.no⟩,
 jK 3 (zB false) 4]
 (qR [⟨(some 4),.assign (.const (.slice none 0 0)),29,.no⟩]
 (qR [jM 8 0 9,
 jZ 9 8 9,
 jA 5 9 3]
 (.seq (qR [jM 10 5 3,
 jB 11 .lss 3 (tT 10) (zI 2) 3 4,
 jM 12 11 4,
 jM 13 0 9 (jG 12),
 ⟨(some 14),.index 9 (tT 13) (zI 0),5,(jG 12)⟩,
 jB 15 .neq 5 (tT 14) (zU 34) 5 4 (jG 12),
 jP 16 (tT 12) (zB true) (tT 15),
 jM 17 16 4,
 jM 18 0 9 (jG 17),
 jM 19 5 3 (jG 17),
 jB 20 .sub 3 (tT 19) (zI 1) 3 3 (jG 17),
 ⟨(some 21),.index 9 (tT 18) (tT 20),5,(jG 17)⟩,
 jB 22 .neq 5 (tT 21) (zU 34) 5 4 (jG 17),
 jP 23 (tT 17) (zB true) (tT 22)]
 (.cond (tT 23) (qR [⟨(some 2),.assign (.const (.slice none 0 0)),29,.no⟩,
 jK 3 (zB false) 4]
 .ret)
 .skip))
 (qR [jK 6 (zI 1) 3]
 (.seq (.block 0 (.loop (.seq (qR [jM 24 6 3,
 jM 25 5 3,
 jB 26 .sub 3 (tT 25) (zI 1) 3 3,
 jB 27 .lss 3 (tT 24) (tT 26) 3 4]
 (.cond (tT 27) .skip
 (.exit 0)))
 (.block 1 (qR [jM 28 0 9,
 jM 29 6 3,
 ⟨(some 30),.index 9 (tT 28) (tT 29),5,.no⟩,
 jA 7 30 5]
 (.seq (qR [jM 31 7 5,
 jB 32 .lss 5 (tT 31) (zU 32) 5 4,
 jM 33 32 4,
 jM 34 7 5 (jG 33),
 jB 35 .gtr 5 (tT 34) (zU 126) 5 4 (jG 33),
 jP 36 (tT 33) (zB true) (tT 35),
 jM 37 36 4,
 jM 38 7 5 (jG 37),
 jB 39 .eql 5 (tT 38) (zU 34) 5 4 (jG 37),
 jP 40 (tT 37) (zB true) (tT 39)]
 (.cond (tT 40) (qR [⟨(some 2),.assign (.const (.slice none 0 0)),29,.no⟩,
 jK 3 (zB false) 4]
 .ret)
 .skip))
 (.seq (qR [jM 41 7 5,
 jB 42 .neq 5 (tT 41) (zU 92) 5 4]
 (.cond (tT 42) (qR [jM 43 4 29,
 jM 44 7 5,
 ⟨(some 45),.buildSlice 29 1 #[(0,(tT 44))],29,.no⟩,
 ⟨(some 46),.call ⟨.builtin .append,#[(tT 43),(tT 45)],#[29,29]⟩,29,.no⟩,
 jA 4 46 29]
 (qR [jM 47 6 3,
 jB 48 .add 3 (tT 47) (zI 1) 3 3,
 jA 6 48 3]
 (.exit 1)))
 .skip))
 (.seq (qR [jM 49 6 3,
 jB 50 .add 3 (tT 49) (zI 1) 3 3,
 jM 51 5 3,
 jB 52 .sub 3 (tT 51) (zI 1) 3 3,
 jB 53 .geq 3 (tT 50) (tT 52) 3 4]
 (.cond (tT 53) (qR [⟨(some 2),.assign (.const (.slice none 0 0)),29,.no⟩,
 jK 3 (zB false) 4]
 .ret)
 .skip))
 (.seq (qR [jM 54 0 9,
 jM 55 6 3,
 jB 56 .add 3 (tT 55) (zI 1) 3 3,
 ⟨(some 57),.index 9 (tT 54) (tT 56),5,.no⟩]
 (.block 2 (qR [jB 59 .eql 5 (tT 57) (zU 110) 5 4,
 jA 58 59 4]
 (.cond (tT 58) (.reg [jM 60 4 29,
 ⟨(some 61),.buildSlice 29 1 #[(0,(zU 10))],29,.no⟩,
 ⟨(some 62),.call ⟨.builtin .append,#[(tT 60),(tT 61)],#[29,29]⟩,29,.no⟩,
 jA 4 62 29])
 (qR [jB 64 .eql 5 (tT 57) (zU 116) 5 4,
 jA 63 64 4]
 (.cond (tT 63) (.reg [jM 65 4 29,
 ⟨(some 66),.buildSlice 29 1 #[(0,(zU 9))],29,.no⟩,
 ⟨(some 67),.call ⟨.builtin .append,#[(tT 65),(tT 66)],#[29,29]⟩,29,.no⟩,
 jA 4 67 29])
 (.seq (qR [jB 69 .eql 5 (tT 57) (zU 34) 5 4,
 jA 68 69 4]
 (.cond (tT 68) .skip
 (.reg [jB 70 .eql 5 (tT 57) (zU 92) 5 4,
 jA 68 70 4])))
 (.cond (tT 68) (.reg [jM 71 4 29,
 jM 72 0 9,
 jM 73 6 3,
 jB 74 .add 3 (tT 73) (zI 1) 3 3,
 ⟨(some 75),.index 9 (tT 72) (tT 74),5,.no⟩,
 ⟨(some 76),.buildSlice 29 1 #[(0,(tT 75))],29,.no⟩,
 ⟨(some 77),.call ⟨.builtin .append,#[(tT 71),(tT 76)],#[29,29]⟩,29,.no⟩,
 jA 4 77 29])
 (qR [jB 79 .eql 5 (tT 57) (zU 120) 5 4,
 jA 78 79 4]
 (.cond (tT 78) (.seq (qR [jM 80 6 3,
 jB 81 .add 3 (tT 80) (zI 3) 3 3,
 jM 82 5 3,
 jB 83 .sub 3 (tT 82) (zI 1) 3 3,
 jB 84 .geq 3 (tT 81) (tT 83) 3 4,
 jM 85 84 4,
 jM 86 0 9 (jG 85),
 jM 87 6 3 (jG 85),
 jB 88 .add 3 (tT 87) (zI 2) 3 3 (jG 85),
 ⟨(some 89),.index 9 (tT 86) (tT 88),5,(jG 85)⟩,
 jC 90 123 #[(tT 89)] #[5] 3 (jG 85),
 jB 91 .lss 3 (tT 90) (zI 0) 3 4 (jG 85),
 jP 92 (tT 85) (zB true) (tT 91),
 jM 93 92 4,
 jM 94 0 9 (jG 93),
 jM 95 6 3 (jG 93),
 jB 96 .add 3 (tT 95) (zI 3) 3 3 (jG 93),
 ⟨(some 97),.index 9 (tT 94) (tT 96),5,(jG 93)⟩,
 jC 98 123 #[(tT 97)] #[5] 3 (jG 93),
 jB 99 .lss 3 (tT 98) (zI 0) 3 4 (jG 93),
 jP 100 (tT 93) (zB true) (tT 99)]
 (.cond (tT 100) (qR [⟨(some 2),.assign (.const (.slice none 0 0)),29,.no⟩,
 jK 3 (zB false) 4]
 .ret)
 .skip))
 (.seq (.drw [dM 0 101 4 29 .no [] [4],
 dM 1 102 0 9 .no [] [0],
 dM 2 103 6 3 .no [] [6],
 dB 3 104 .add 3 (tT 103) (zI 2) 3 3 .no [2] [103],
 ⟨4,(some 105),.index 9 (tT 102) (tT 104),5,.no,[1,3],[102,104]⟩,
 ⟨5,(some 106),.call ⟨.value (.func 123),#[(tT 105)],#[5]⟩,3,.no,[4],[105]⟩,
 dB 6 107 .mul 3 (zI 16) (tT 106) 3 3 .no [5] [106],
 dM 7 108 0 9 .no [] [0],
 dM 8 109 6 3 .no [] [6],
 dB 9 110 .add 3 (tT 109) (zI 3) 3 3 .no [8] [109],
 ⟨10,(some 111),.index 9 (tT 108) (tT 110),5,.no,[7,9],[108,110]⟩,
 ⟨11,(some 112),.call ⟨.value (.func 123),#[(tT 111)],#[5]⟩,3,.no,[10,5],[111]⟩,
 dB 12 113 .add 3 (tT 107) (tT 112) 3 3 .no [6,11] [107,112],
 ⟨13,(some 114),.convert 3 5 (tT 113),5,.no,[12],[113]⟩,
 ⟨14,(some 115),.buildSlice 29 1 #[(0,(tT 114))],29,.no,[13],[114]⟩,
 ⟨15,(some 116),.call ⟨.builtin .append,#[(tT 101),(tT 115)],#[29,29]⟩,29,.no,[0,14,11],[101,115]⟩,
 ⟨16,(some 4),.assign (tT 116),29,.no,[15,15,0,1,2,3,4,5,6,7,8,9,10,11,12,13,14,15],[116]⟩])
 (.reg [jM 117 6 3,
 jB 118 .add 3 (tT 117) (zI 2) 3 3,
 jA 6 118 3])))
 (qR [⟨(some 2),.assign (.const (.slice none 0 0)),29,.no⟩,
 jK 3 (zB false) 4]
 .ret)))))))))))
 (.reg [jM 119 6 3,
 jB 120 .add 3 (tT 119) (zI 2) 3 3,
 jA 6 120 3]))))))))))
 (qR [jM 121 4 29,
 jA 2 121 29,
 jK 3 (zB true) 4]
 .ret)))))))
theorem e113:(Tryz.f113.body.map Qa6)=some s113:=by kernel_rfl
noncomputable def s119:SCode:=(qR [⟨(some 4),.assign (.const (.int .u64 0)),22,.no⟩]
 (qR [jM 7 0 9,
 jB 8 .neq 9 (tT 7) (zS []) 9 4,
 jM 9 8 4,
 jM 10 0 9 (jT 9),
 ⟨(some 11),.index 9 (tT 10) (zI 0),5,(jT 9)⟩,
 jB 12 .geq 5 (tT 11) (zU 48) 5 4 (jT 9),
 jP 13 (tT 9) (tT 12) (zB false),
 jM 14 13 4,
 jM 15 0 9 (jT 14),
 ⟨(some 16),.index 9 (tT 15) (zI 0),5,(jT 14)⟩,
 jB 17 .leq 5 (tT 16) (zU 57) 5 4 (jT 14),
 jP 18 (tT 14) (tT 17) (zB false),
 jM 19 18 4,
 jM 20 0 9 (jT 19),
 jB 21 .eql 9 (tT 20) (zS [48]) 9 4 (jT 19),
 jM 22 21 4 (jT 19),
 jM 23 0 9 (jG 22),
 ⟨(some 24),.index 9 (tT 23) (zI 0),5,(jG 22)⟩,
 jB 25 .neq 5 (tT 24) (zU 48) 5 4 (jG 22),
 jP 26 (tT 22) (zB true) (tT 25) (jT 19),
 jP 27 (tT 19) (tT 26) (zB false),
 jC 28 75 #[(tT 27)] #[4] 0]
 (qR [jM 30 0 9,
 jC 31 130 #[(tT 30),(zI 10),(zI 64)] #[9,3,3] 180,
 jM 29 31 180,
 jE 32 29 0 22,
 jE 33 29 1 69,
 jA 5 32 22,
 jA 6 33 69]
 (qR [jM 34 6 69,
 ⟨(some 35),.binOp .eql 69 (tT 34) (.const .nilIface) 69,4,.no⟩,
 jM 36 35 4,
 jM 37 5 22 (jT 36),
 jM 38 1 22 (jT 36),
 jB 39 .leq 22 (tT 37) (tT 38) 22 4 (jT 36),
 jP 40 (tT 36) (tT 39) (zB false),
 jC 41 75 #[(tT 40)] #[4] 0]
 (qR [jM 42 5 22,
 jA 4 42 22]
 .ret)))))
theorem e119:(Tryz.f119.body.map Qa6)=some s119:=by kernel_rfl
noncomputable def s120:SCode:=(qR [jK 2 (zU 0) 5]
 (qR [jM 4 0 5,
 jC 5 131 #[(zS [48,49,50,51,52,53,54,55,56,57,97,98,99,100,101,102]),(tT 4)] #[9,5] 3,
 jA 3 5 3]
 (qR [jM 6 3 3,
 jB 7 .geq 3 (tT 6) (zI 0) 3 4,
 jC 8 75 #[(tT 7)] #[4] 0]
 (qR [jM 9 3 3,
 ⟨(some 10),.convert 3 5 (tT 9),5,.no⟩,
 jA 2 10 5]
 .ret))))
theorem e120:(Tryz.f120.body.map Qa6)=some s120:=by kernel_rfl
noncomputable def s123:SCode:=(qR [jK 2 (zI 0) 3]
 (.seq (.block 0 (qR [jM 4 0 5,
 jB 5 .geq 5 (tT 4) (zU 48) 5 4,
 jM 6 5 4,
 jM 7 0 5 (jT 6),
 jB 8 .leq 5 (tT 7) (zU 57) 5 4 (jT 6),
 jP 9 (tT 6) (tT 8) (zB false),
 jA 3 9 4]
 (.cond (tT 3) (qR [jM 10 0 5,
 jB 11 .sub 5 (tT 10) (zU 48) 5 5,
 ⟨(some 12),.convert 5 3 (tT 11),3,.no⟩,
 jA 2 12 3]
 .ret)
 (qR [jM 14 0 5,
 jB 15 .geq 5 (tT 14) (zU 97) 5 4,
 jM 16 15 4,
 jM 17 0 5 (jT 16),
 jB 18 .leq 5 (tT 17) (zU 102) 5 4 (jT 16),
 jP 19 (tT 16) (tT 18) (zB false),
 jA 13 19 4]
 (.cond (tT 13) (qR [jM 20 0 5,
 jB 21 .sub 5 (tT 20) (zU 97) 5 5,
 ⟨(some 22),.convert 5 3 (tT 21),3,.no⟩,
 jB 23 .add 3 (tT 22) (zI 10) 3 3,
 jA 2 23 3]
 .ret)
 .skip)))))
 (qR [jK 2 (zI (-1)) 3]
 .ret)))
theorem e123:(Tryz.f123.body.map Qa6)=some s123:=by kernel_rfl
end Go.Proofs.YtgmkbdmgifdfeaaGreatDoor

