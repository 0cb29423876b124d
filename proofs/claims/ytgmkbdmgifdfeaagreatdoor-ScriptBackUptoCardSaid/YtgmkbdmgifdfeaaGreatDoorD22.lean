/- A part of a proof: ScriptBack. -/
import Derived.Test.YtgmkbdmgifdfeaaGreatDoorD21
set_option linter.unusedVariables false
set_option linter.unusedSimpArgs false
set_option maxRecDepth 8000
namespace Go.Proofs.YtgmkbdmgifdfeaaGreatDoor
open Go Go.Ev
noncomputable def Qbs:SCode:=(.block 0 (.seq (.reg [⟨(some 34),.binOp .eql 9 (.tmp 32) (.const (.string ⟨⟨[116,105,99,107]⟩⟩)) 9,4,.no⟩,
 ⟨(some 33),.assign (.tmp 34),4,.no⟩])
 (.cond (.tmp 33) (.drw [⟨0,(some 35),.move (.tmp 0),91,.no,[],[0]⟩,
 ⟨1,(some 36),.move (.tmp 0),91,.no,[],[0]⟩,
 ⟨2,(some 37),.nilCheck (.tmp 36),0,.no,[1],[36]⟩,
 ⟨3,(some 38),.fieldAddr 93 (.tmp 37) 0,0,.no,[2],[37]⟩,
 ⟨4,(some 39),.load 9 (.tmp 38),9,.no,[3],[38]⟩,
 ⟨5,(some 40),.fieldAddr 36 (.tmp 5) 12,0,.no,[],[5]⟩,
 ⟨6,(some 41),.load 22 (.tmp 40),22,.no,[5],[40]⟩,
 ⟨7,(some 42),.call ⟨.value (.func 36),#[(.tmp 41)],#[22]⟩,9,.no,[6],[41]⟩,
 ⟨8,(some 43),.binOp .add 9 (.tmp 39) (.tmp 42) 9,9,.no,[4,7],[39,42]⟩,
 ⟨9,(some 44),.nilCheck (.tmp 35),0,.no,[0,0,1,2,3,4,5,6,7,8],[35]⟩,
 ⟨10,(some 45),.fieldAddr 93 (.tmp 44) 0,0,.no,[9,0,1,2,3,4,5,6,7,8],[44]⟩,
 ⟨11,none,.store 9 (.tmp 45) (.tmp 43),0,.no,[10,8,7,0,1,2,3,4,5,6,7,8],[45,43]⟩])
 (.seq (.reg [⟨(some 47),.binOp .eql 9 (.tmp 32) (.const (.string ⟨⟨[108,105,115,116,101,110]⟩⟩)) 9,4,.no⟩,
 ⟨(some 46),.assign (.tmp 47),4,.no⟩])
 (.cond (.tmp 46) (.seq (.reg [⟨(some 48),.move (.tmp 0),91,.no⟩,
 ⟨(some 49),.fieldAddr 36 (.tmp 5) 2,0,.no⟩,
 ⟨(some 50),.load 3 (.tmp 49),3,.no⟩,
 ⟨(some 51),.call ⟨.value (.func 35),#[(.tmp 48),(.tmp 50)],#[91,3]⟩,0,.no⟩])
 (.seq (.reg [⟨(some 52),.move (.tmp 0),91,.no⟩,
 ⟨(some 53),.fieldAddr 36 (.tmp 5) 7,0,.no⟩,
 ⟨(some 54),.fieldAddr 32 (.tmp 53) 0,0,.no⟩,
 ⟨(some 55),.load 3 (.tmp 54),3,.no⟩,
 ⟨(some 56),.call ⟨.value (.func 35),#[(.tmp 52),(.tmp 55)],#[91,3]⟩,0,.no⟩])
 (.reg [⟨(some 57),.move (.tmp 0),91,.no⟩,
 ⟨(some 58),.fieldAddr 36 (.tmp 5) 7,0,.no⟩,
 ⟨(some 59),.fieldAddr 32 (.tmp 58) 1,0,.no⟩,
 ⟨(some 60),.load 3 (.tmp 59),3,.no⟩,
 ⟨(some 61),.call ⟨.value (.func 35),#[(.tmp 57),(.tmp 60)],#[91,3]⟩,0,.no⟩])))
 (.seq (.seq (.reg [⟨(some 63),.binOp .eql 9 (.tmp 32) (.const (.string ⟨⟨[117,110,108,105,115,116,101,110]⟩⟩)) 9,4,.no⟩,
 ⟨(some 62),.assign (.tmp 63),4,.no⟩])
 (.cond (.tmp 62) .skip
 (.seq (.reg [⟨(some 64),.binOp .eql 9 (.tmp 32) (.const (.string ⟨⟨[98,101,103,105,110]⟩⟩)) 9,4,.no⟩,
 ⟨(some 62),.assign (.tmp 64),4,.no⟩])
 (.cond (.tmp 62) .skip
 (.seq (.reg [⟨(some 65),.binOp .eql 9 (.tmp 32) (.const (.string ⟨⟨[99,101,97,115,101]⟩⟩)) 9,4,.no⟩,
 ⟨(some 62),.assign (.tmp 65),4,.no⟩])
 (.cond (.tmp 62) .skip
 (.reg [⟨(some 66),.binOp .eql 9 (.tmp 32) (.const (.string ⟨⟨[99,117,114,115,111,114]⟩⟩)) 9,4,.no⟩,
 ⟨(some 62),.assign (.tmp 66),4,.no⟩])))))))
 (.cond (.tmp 62) (.reg [⟨(some 67),.move (.tmp 0),91,.no⟩,
 ⟨(some 68),.fieldAddr 36 (.tmp 5) 2,0,.no⟩,
 ⟨(some 69),.load 3 (.tmp 68),3,.no⟩,
 ⟨(some 70),.call ⟨.value (.func 35),#[(.tmp 67),(.tmp 69)],#[91,3]⟩,0,.no⟩])
 (.seq (.reg [⟨(some 72),.binOp .eql 9 (.tmp 32) (.const (.string ⟨⟨[115,101,110,100]⟩⟩)) 9,4,.no⟩,
 ⟨(some 71),.assign (.tmp 72),4,.no⟩])
 (.cond (.tmp 71) (.seq (.reg [⟨(some 73),.move (.tmp 0),91,.no⟩,
 ⟨(some 74),.fieldAddr 36 (.tmp 5) 2,0,.no⟩,
 ⟨(some 75),.load 3 (.tmp 74),3,.no⟩,
 ⟨(some 76),.call ⟨.value (.func 35),#[(.tmp 73),(.tmp 75)],#[91,3]⟩,0,.no⟩])
 (.drw [⟨0,(some 77),.move (.tmp 0),91,.no,[],[0]⟩,
 ⟨1,(some 78),.move (.tmp 0),91,.no,[],[0]⟩,
 ⟨2,(some 79),.nilCheck (.tmp 78),0,.no,[1],[78]⟩,
 ⟨3,(some 80),.fieldAddr 93 (.tmp 79) 0,0,.no,[2],[79]⟩,
 ⟨4,(some 81),.load 9 (.tmp 80),9,.no,[3],[80]⟩,
 ⟨5,(some 82),.fieldAddr 36 (.tmp 5) 3,0,.no,[],[5]⟩,
 ⟨6,(some 83),.load 22 (.tmp 82),22,.no,[5],[82]⟩,
 ⟨7,(some 84),.call ⟨.value (.func 36),#[(.tmp 83)],#[22]⟩,9,.no,[6],[83]⟩,
 ⟨8,(some 85),.binOp .add 9 (.tmp 81) (.tmp 84) 9,9,.no,[4,7],[81,84]⟩,
 ⟨9,(some 86),.fieldAddr 36 (.tmp 5) 4,0,.no,[],[5]⟩,
 ⟨10,(some 87),.load 22 (.tmp 86),22,.no,[9],[86]⟩,
 ⟨11,(some 88),.call ⟨.value (.func 36),#[(.tmp 87)],#[22]⟩,9,.no,[10,7],[87]⟩,
 ⟨12,(some 89),.binOp .add 9 (.tmp 85) (.tmp 88) 9,9,.no,[8,11],[85,88]⟩,
 ⟨13,(some 90),.binOp .add 9 (.tmp 89) (.const (.string ⟨⟨[32]⟩⟩)) 9,9,.no,[12],[89]⟩,
 ⟨14,(some 91),.fieldAddr 36 (.tmp 5) 5,0,.no,[],[5]⟩,
 ⟨15,(some 92),.load 29 (.tmp 91),29,.no,[14],[91]⟩,
 ⟨16,(some 93),.call ⟨.value (.func 68),#[(.tmp 92)],#[29]⟩,9,.no,[15,11],[92]⟩,
 ⟨17,(some 94),.binOp .add 9 (.tmp 90) (.tmp 93) 9,9,.no,[13,16],[90,93]⟩,
 ⟨18,(some 95),.nilCheck (.tmp 77),0,.no,[0,0,1,2,3,4,5,6,7,8,9,10,11,12,13,14,15,16,17],[77]⟩,
 ⟨19,(some 96),.fieldAddr 93 (.tmp 95) 0,0,.no,[18,0,1,2,3,4,5,6,7,8,9,10,11,12,13,14,15,16,17],[95]⟩,
 ⟨20,none,.store 9 (.tmp 96) (.tmp 94),0,.no,[19,17,16,0,1,2,3,4,5,6,7,8,9,10,11,12,13,14,15,16,17],[96,94]⟩]))
 (.seq (.reg [⟨(some 98),.binOp .eql 9 (.tmp 32) (.const (.string ⟨⟨[99,97,110,99,101,108]⟩⟩)) 9,4,.no⟩,
 ⟨(some 97),.assign (.tmp 98),4,.no⟩])
 (.cond (.tmp 97) (.seq (.reg [⟨(some 99),.move (.tmp 0),91,.no⟩,
 ⟨(some 100),.fieldAddr 36 (.tmp 5) 2,0,.no⟩,
 ⟨(some 101),.load 3 (.tmp 100),3,.no⟩,
 ⟨(some 102),.call ⟨.value (.func 35),#[(.tmp 99),(.tmp 101)],#[91,3]⟩,0,.no⟩])
 (.drw [⟨0,(some 103),.move (.tmp 0),91,.no,[],[0]⟩,
 ⟨1,(some 104),.move (.tmp 0),91,.no,[],[0]⟩,
 ⟨2,(some 105),.nilCheck (.tmp 104),0,.no,[1],[104]⟩,
 ⟨3,(some 106),.fieldAddr 93 (.tmp 105) 0,0,.no,[2],[105]⟩,
 ⟨4,(some 107),.load 9 (.tmp 106),9,.no,[3],[106]⟩,
 ⟨5,(some 108),.fieldAddr 36 (.tmp 5) 6,0,.no,[],[5]⟩,
 ⟨6,(some 109),.load 22 (.tmp 108),22,.no,[5],[108]⟩,
 ⟨7,(some 110),.call ⟨.value (.func 36),#[(.tmp 109)],#[22]⟩,9,.no,[6],[109]⟩,
 ⟨8,(some 111),.binOp .add 9 (.tmp 107) (.tmp 110) 9,9,.no,[4,7],[107,110]⟩,
 ⟨9,(some 112),.nilCheck (.tmp 103),0,.no,[0,0,1,2,3,4,5,6,7,8],[103]⟩,
 ⟨10,(some 113),.fieldAddr 93 (.tmp 112) 0,0,.no,[9,0,1,2,3,4,5,6,7,8],[112]⟩,
 ⟨11,none,.store 9 (.tmp 113) (.tmp 111),0,.no,[10,8,7,0,1,2,3,4,5,6,7,8],[113,111]⟩]))
 (.seq (.seq (.reg [⟨(some 115),.binOp .eql 9 (.tmp 32) (.const (.string ⟨⟨[100,101,108,105,118,101,114]⟩⟩)) 9,4,.no⟩,
 ⟨(some 114),.assign (.tmp 115),4,.no⟩])
 (.cond (.tmp 114) .skip
 (.seq (.reg [⟨(some 116),.binOp .eql 9 (.tmp 32) (.const (.string ⟨⟨[100,114,111,112]⟩⟩)) 9,4,.no⟩,
 ⟨(some 114),.assign (.tmp 116),4,.no⟩])
 (.cond (.tmp 114) .skip
 (.reg [⟨(some 117),.binOp .eql 9 (.tmp 32) (.const (.string ⟨⟨[100,111,117,98,108,101]⟩⟩)) 9,4,.no⟩,
 ⟨(some 114),.assign (.tmp 117),4,.no⟩])))))
 (.cond (.tmp 114) (.seq (.reg [⟨(some 118),.move (.tmp 0),91,.no⟩,
 ⟨(some 119),.fieldAddr 36 (.tmp 5) 8,0,.no⟩,
 ⟨(some 120),.load 3 (.tmp 119),3,.no⟩,
 ⟨(some 121),.call ⟨.value (.func 69),#[(.tmp 118),(.tmp 120)],#[91,3]⟩,0,.no⟩])
 (.reg [⟨(some 122),.move (.tmp 0),91,.no⟩,
 ⟨(some 123),.fieldAddr 36 (.tmp 5) 9,0,.no⟩,
 ⟨(some 124),.load 3 (.tmp 123),3,.no⟩,
 ⟨(some 125),.call ⟨.value (.func 35),#[(.tmp 122),(.tmp 124)],#[91,3]⟩,0,.no⟩]))
 (.seq (.reg [⟨(some 127),.binOp .eql 9 (.tmp 32) (.const (.string ⟨⟨[116,117,114,110]⟩⟩)) 9,4,.no⟩,
 ⟨(some 126),.assign (.tmp 127),4,.no⟩])
 (.cond (.tmp 126) (.seq (.reg [⟨(some 128),.move (.tmp 0),91,.no⟩,
 ⟨(some 129),.fieldAddr 36 (.tmp 5) 8,0,.no⟩,
 ⟨(some 130),.load 3 (.tmp 129),3,.no⟩,
 ⟨(some 131),.call ⟨.value (.func 69),#[(.tmp 128),(.tmp 130)],#[91,3]⟩,0,.no⟩])
 (.seq (.reg [⟨(some 132),.move (.tmp 0),91,.no⟩,
 ⟨(some 133),.fieldAddr 36 (.tmp 5) 9,0,.no⟩,
 ⟨(some 134),.load 3 (.tmp 133),3,.no⟩,
 ⟨(some 135),.call ⟨.value (.func 35),#[(.tmp 132),(.tmp 134)],#[91,3]⟩,0,.no⟩])
 (.seq (.reg [⟨(some 136),.move (.tmp 0),91,.no⟩,
 ⟨(some 137),.fieldAddr 36 (.tmp 5) 10,0,.no⟩,
 ⟨(some 138),.load 3 (.tmp 137),3,.no⟩,
 ⟨(some 139),.call ⟨.value (.func 35),#[(.tmp 136),(.tmp 138)],#[91,3]⟩,0,.no⟩])
 (.drw [⟨0,(some 140),.move (.tmp 0),91,.no,[],[0]⟩,
 ⟨1,(some 141),.move (.tmp 0),91,.no,[],[0]⟩,
 ⟨2,(some 142),.nilCheck (.tmp 141),0,.no,[1],[141]⟩,
 ⟨3,(some 143),.fieldAddr 93 (.tmp 142) 0,0,.no,[2],[142]⟩,
 ⟨4,(some 144),.load 9 (.tmp 143),9,.no,[3],[143]⟩,
 ⟨5,(some 145),.fieldAddr 36 (.tmp 5) 11,0,.no,[],[5]⟩,
 ⟨6,(some 146),.load 33 (.tmp 145),33,.no,[5],[145]⟩,
 ⟨7,(some 147),.convert 33 22 (.tmp 146),22,.no,[6],[146]⟩,
 ⟨8,(some 148),.call ⟨.value (.func 36),#[(.tmp 147)],#[22]⟩,9,.no,[7],[147]⟩,
 ⟨9,(some 149),.binOp .add 9 (.tmp 144) (.tmp 148) 9,9,.no,[4,8],[144,148]⟩,
 ⟨10,(some 150),.nilCheck (.tmp 140),0,.no,[0,0,1,2,3,4,5,6,7,8,9],[140]⟩,
 ⟨11,(some 151),.fieldAddr 93 (.tmp 150) 0,0,.no,[10,0,1,2,3,4,5,6,7,8,9],[150]⟩,
 ⟨12,none,.store 9 (.tmp 151) (.tmp 149),0,.no,[11,9,8,0,1,2,3,4,5,6,7,8,9],[151,149]⟩]))))
 (.seq (.reg [⟨(some 153),.binOp .eql 9 (.tmp 32) (.const (.string ⟨⟨[99,117,116]⟩⟩)) 9,4,.no⟩,
 ⟨(some 152),.assign (.tmp 153),4,.no⟩])
 (.cond (.tmp 152) (.reg [⟨(some 154),.move (.tmp 0),91,.no⟩,
 ⟨(some 155),.fieldAddr 36 (.tmp 5) 10,0,.no⟩,
 ⟨(some 156),.load 3 (.tmp 155),3,.no⟩,
 ⟨(some 157),.call ⟨.value (.func 35),#[(.tmp 154),(.tmp 156)],#[91,3]⟩,0,.no⟩])
 (.seq (.reg [⟨(some 159),.binOp .eql 9 (.tmp 32) (.const (.string ⟨⟨[99,114,97,115,104]⟩⟩)) 9,4,.no⟩,
 ⟨(some 158),.assign (.tmp 159),4,.no⟩])
 (.cond (.tmp 158) (.seq (.reg [⟨(some 6),.assign (.const (.int .i64 0)),3,.no⟩])
 (.block 1 (.loop (.seq (.seq (.reg [⟨(some 160),.move (.tmp 6),3,.no⟩,
 ⟨(some 161),.fieldAddr 36 (.tmp 5) 13,0,.no⟩,
 ⟨(some 162),.load 34 (.tmp 161),34,.no⟩,
 ⟨(some 163),.call ⟨.builtin .len,#[(.tmp 162)],#[34]⟩,3,.no⟩,
 ⟨(some 164),.binOp .lss 3 (.tmp 160) (.tmp 163) 3,4,.no⟩])
 (.cond (.tmp 164) .skip
 (.exit 1)))
 (.seq (.block 2 (.reg [⟨(some 167),.move (.tmp 0),91,.no⟩,
 ⟨(some 168),.fieldAddr 36 (.tmp 5) 13,0,.no⟩,
 ⟨(some 169),.load 34 (.tmp 168),34,.no⟩,
 ⟨(some 170),.move (.tmp 6),3,.no⟩,
 ⟨(some 171),.indexAddr 34 (.tmp 169) (.tmp 170),0,.no⟩,
 ⟨(some 172),.load 3 (.tmp 171),3,.no⟩,
 ⟨(some 173),.call ⟨.value (.func 35),#[(.tmp 167),(.tmp 172)],#[91,3]⟩,0,.no⟩]))
 (.reg [⟨(some 165),.move (.tmp 6),3,.no⟩,
 ⟨(some 166),.binOp .add 3 (.tmp 165) (.const (.int .i64 1)) 3,3,.no⟩,
 ⟨(some 6),.assign (.tmp 166),3,.no⟩]))))))
 (.seq (.seq (.reg [⟨(some 175),.binOp .eql 9 (.tmp 32) (.const (.string ⟨⟨[99,108,111,115,101]⟩⟩)) 9,4,.no⟩,
 ⟨(some 174),.assign (.tmp 175),4,.no⟩])
 (.cond (.tmp 174) .skip
 (.seq (.reg [⟨(some 176),.binOp .eql 9 (.tmp 32) (.const (.string ⟨⟨[110,101,120,116]⟩⟩)) 9,4,.no⟩,
 ⟨(some 174),.assign (.tmp 176),4,.no⟩])
 (.cond (.tmp 174) .skip
 (.seq (.reg [⟨(some 177),.binOp .eql 9 (.tmp 32) (.const (.string ⟨⟨[112,114,101,118]⟩⟩)) 9,4,.no⟩,
 ⟨(some 174),.assign (.tmp 177),4,.no⟩])
 (.cond (.tmp 174) .skip
 (.reg [⟨(some 178),.binOp .eql 9 (.tmp 32) (.const (.string ⟨⟨[114,101,119,105,110,100]⟩⟩)) 9,4,.no⟩,
 ⟨(some 174),.assign (.tmp 178),4,.no⟩])))))))
 (.cond (.tmp 174) (.reg [⟨(some 179),.move (.tmp 0),91,.no⟩,
 ⟨(some 180),.fieldAddr 36 (.tmp 5) 14,0,.no⟩,
 ⟨(some 181),.load 3 (.tmp 180),3,.no⟩,
 ⟨(some 182),.call ⟨.value (.func 35),#[(.tmp 179),(.tmp 181)],#[91,3]⟩,0,.no⟩])
 (.seq (.reg [⟨(some 184),.binOp .eql 9 (.tmp 32) (.const (.string ⟨⟨[115,101,101,107]⟩⟩)) 9,4,.no⟩,
 ⟨(some 183),.assign (.tmp 184),4,.no⟩])
 (.cond (.tmp 183) (.seq (.reg [⟨(some 185),.move (.tmp 0),91,.no⟩,
 ⟨(some 186),.fieldAddr 36 (.tmp 5) 14,0,.no⟩,
 ⟨(some 187),.load 3 (.tmp 186),3,.no⟩,
 ⟨(some 188),.call ⟨.value (.func 35),#[(.tmp 185),(.tmp 187)],#[91,3]⟩,0,.no⟩])
 (.drw [⟨0,(some 189),.move (.tmp 0),91,.no,[],[0]⟩,
 ⟨1,(some 190),.move (.tmp 0),91,.no,[],[0]⟩,
 ⟨2,(some 191),.nilCheck (.tmp 190),0,.no,[1],[190]⟩,
 ⟨3,(some 192),.fieldAddr 93 (.tmp 191) 0,0,.no,[2],[191]⟩,
 ⟨4,(some 193),.load 9 (.tmp 192),9,.no,[3],[192]⟩,
 ⟨5,(some 194),.fieldAddr 36 (.tmp 5) 3,0,.no,[],[5]⟩,
 ⟨6,(some 195),.load 22 (.tmp 194),22,.no,[5],[194]⟩,
 ⟨7,(some 196),.call ⟨.value (.func 36),#[(.tmp 195)],#[22]⟩,9,.no,[6],[195]⟩,
 ⟨8,(some 197),.binOp .add 9 (.tmp 193) (.tmp 196) 9,9,.no,[4,7],[193,196]⟩,
 ⟨9,(some 198),.nilCheck (.tmp 189),0,.no,[0,0,1,2,3,4,5,6,7,8],[189]⟩,
 ⟨10,(some 199),.fieldAddr 93 (.tmp 198) 0,0,.no,[9,0,1,2,3,4,5,6,7,8],[198]⟩,
 ⟨11,none,.store 9 (.tmp 199) (.tmp 197),0,.no,[10,8,7,0,1,2,3,4,5,6,7,8],[199,197]⟩]))
 (.seq (.reg [⟨(some 201),.binOp .eql 9 (.tmp 32) (.const (.string ⟨⟨[103,97,112,115]⟩⟩)) 9,4,.no⟩,
 ⟨(some 200),.assign (.tmp 201),4,.no⟩])
 (.cond (.tmp 200) (.seq (.reg [⟨(some 202),.move (.tmp 0),91,.no⟩,
 ⟨(some 203),.fieldAddr 36 (.tmp 5) 2,0,.no⟩,
 ⟨(some 204),.load 3 (.tmp 203),3,.no⟩,
 ⟨(some 205),.call ⟨.value (.func 35),#[(.tmp 202),(.tmp 204)],#[91,3]⟩,0,.no⟩])
 (.drw [⟨0,(some 206),.move (.tmp 0),91,.no,[],[0]⟩,
 ⟨1,(some 207),.move (.tmp 0),91,.no,[],[0]⟩,
 ⟨2,(some 208),.nilCheck (.tmp 207),0,.no,[1],[207]⟩,
 ⟨3,(some 209),.fieldAddr 93 (.tmp 208) 0,0,.no,[2],[208]⟩,
 ⟨4,(some 210),.load 9 (.tmp 209),9,.no,[3],[209]⟩,
 ⟨5,(some 211),.fieldAddr 36 (.tmp 5) 3,0,.no,[],[5]⟩,
 ⟨6,(some 212),.load 22 (.tmp 211),22,.no,[5],[211]⟩,
 ⟨7,(some 213),.call ⟨.value (.func 36),#[(.tmp 212)],#[22]⟩,9,.no,[6],[212]⟩,
 ⟨8,(some 214),.binOp .add 9 (.tmp 210) (.tmp 213) 9,9,.no,[4,7],[210,213]⟩,
 ⟨9,(some 215),.fieldAddr 36 (.tmp 5) 15,0,.no,[],[5]⟩,
 ⟨10,(some 216),.load 22 (.tmp 215),22,.no,[9],[215]⟩,
 ⟨11,(some 217),.call ⟨.value (.func 36),#[(.tmp 216)],#[22]⟩,9,.no,[10,7],[216]⟩,
 ⟨12,(some 218),.binOp .add 9 (.tmp 214) (.tmp 217) 9,9,.no,[8,11],[214,217]⟩,
 ⟨13,(some 219),.nilCheck (.tmp 206),0,.no,[0,0,1,2,3,4,5,6,7,8,9,10,11,12],[206]⟩,
 ⟨14,(some 220),.fieldAddr 93 (.tmp 219) 0,0,.no,[13,0,1,2,3,4,5,6,7,8,9,10,11,12],[219]⟩,
 ⟨15,none,.store 9 (.tmp 220) (.tmp 218),0,.no,[14,12,11,0,1,2,3,4,5,6,7,8,9,10,11,12],[220,218]⟩]))
 .skip)))))))))))))))))))))))))
structure LI (n0 p b0 kn:Nat) (s:Stp) (d c:Value) (m0:Mem) (out:List UInt8) (g:Bool) (m:Mem):Prop where
 pr:RPr n0 m p out g
 kp:Keep (some p) m0 m
 rb:vw m b0=some ⟨true,88,false,Qaj kn⟩
 sb:vw m (b0+1)=some ⟨true,36,false,Qaa s d c⟩
 nx:b0+2≤m.next
 pb:p<b0
 hb0:b0=m0.next
theorem LI.keep {n0 p b0 kn:Nat} {s:Stp} {d c:Value} {m0 m m':Mem} {out out':List UInt8} {g g':Bool} (h:LI n0 p b0 kn s d c m0 out g m) (hP:RPr n0 m' p out' g') (hK:Keep (some p) m m'):LI n0 p b0 kn s d c m0 out' g' m' :=
 have h1:=h.pb
 have h2:=h.nx
 ⟨hP,h.kp.trans hK,by rw [hK.vw (by omega) (by intro e;cases e;omega)];exact h.rb,by rw [hK.vw (by omega) (by intro e;cases e;omega)];exact h.sb,Knt h2 hK.1,h1,h.hb0⟩
theorem LI.old {n0 p b0 kn:Nat} {s:Stp} {d c:Value} {m0 m:Mem} {out:List UInt8} {g:Bool} (h:LI n0 p b0 kn s d c m0 out g m):Old n0 m0 m:=h.kp.old h.pr.1 (by have:=h.pb;have:=h.pr.1;have:=h.hb0;omega)
theorem LI.nn {n0 p b0 kn:Nat} {s:Stp} {d c:Value} {m0 m:Mem} {out:List UInt8} {g:Bool} (h:LI n0 p b0 kn s d c m0 out g m):n0≤m.next:=by have:=h.pb;have:=h.pr.1;have:=h.nx;omega
section
variable {F:FC} {Q:Qda} {ds:List Deferred} {m:Mem} {x0 x1 x2 x3 x4 x5:Value} {ts:List Value} {a b n:Nat} {w wk:List UInt8} {t1 t2 t3 t4:TypeId} {A B:SCode}
theorem Qyf (hts:ts.length=n) (g:gx ts 26=.string ⟨⟨wk⟩⟩) (ha:a<n) (ha2:a≠26) (hb:b<n) (hb2:b≠26) (hab:a≠b) (k:∀ ts',ts'.length=n→gx ts' 26=.string ⟨⟨wk⟩⟩→gx ts' b=.bool (decide (wk=w))→Q .normal (x0::x1::x2::x3::x4::x5::ts') ds m) :
  wpX tb F (.reg [⟨some (a+6),.binOp .eql t1 (.tmp 32) (.const (.string ⟨⟨w⟩⟩)) t2,t3,.no⟩,⟨some (b+6),.assign (.tmp (a+6)),t4,.no⟩]) (x0::x1::x2::x3::x4::x5::ts) ds m Q:=by
 refine Qal fun Q' hQ=>?_
 have h1:a+6<n+6:=by omega
 have h2:b+6<n+6:=by omega
 simp [hts,g,ha,hb,ha2,hb2,hab]
 subst hQ
 exact k _ (by simp [hts]) (by rw [Qnq hb2,Qnq ha2];exact g) (by rw [Ja5 (by simp [hts,hb])])
theorem Qag (hts:ts.length=n) (g:gx ts 26=.string ⟨⟨wk⟩⟩) (ha:(decide (a<n)&&!decide (a=26)&&decide (b<n)&&!decide (b=26)&&!decide (a=b)&&!decide (wk=w))=true) (k:∀ ts',ts'.length=n→gx ts' 26=.string ⟨⟨wk⟩⟩→wpX tb F B (x0::x1::x2::x3::x4::x5::ts') ds m Q) :
  wpX tb F (.seq (.reg [⟨some (a+6),.binOp .eql t1 (.tmp 32) (.const (.string ⟨⟨w⟩⟩)) t2,t3,.no⟩,⟨some (b+6),.assign (.tmp (a+6)),t4,.no⟩]) (.cond (.tmp (b+6)) A B)) (x0::x1::x2::x3::x4::x5::ts) ds m Q:=by
 simp only [Kba,decide_eq_true_eq,Bool.not_eq_true',decide_eq_false_iff_not] at ha
 obtain⟨⟨⟨⟨⟨h1,h2⟩,h3⟩,h4⟩,h5⟩,h6⟩:=ha
 refine xseq (Qyf hts g h1 h2 h3 h4 h5 fun ts' h1 h2 h3=>?_)
 exact xif (v:=false) (by rw [Qei];simp only [gx_cs];rw [h3,decide_eq_false h6]) (fun h=>by cases h) (fun _=>k ts' h1 h2)
theorem Qex (hts:ts.length=n) (g:gx ts 26=.string ⟨⟨wk⟩⟩) (ha:(decide (a<n)&&!decide (a=26)&&decide (b<n)&&!decide (b=26)&&!decide (a=b)&&decide (wk=w))=true) (k:∀ ts',ts'.length=n→gx ts' 26=.string ⟨⟨wk⟩⟩→gx ts' b=.bool true→wpX tb F A (x0::x1::x2::x3::x4::x5::ts') ds m Q) :
  wpX tb F (.seq (.reg [⟨some (a+6),.binOp .eql t1 (.tmp 32) (.const (.string ⟨⟨w⟩⟩)) t2,t3,.no⟩,⟨some (b+6),.assign (.tmp (a+6)),t4,.no⟩]) (.cond (.tmp (b+6)) A B)) (x0::x1::x2::x3::x4::x5::ts) ds m Q:=by
 simp only [Kba,decide_eq_true_eq,Bool.not_eq_true',decide_eq_false_iff_not] at ha
 obtain⟨⟨⟨⟨⟨h1,h2⟩,h3⟩,h4⟩,h5⟩,h6⟩:=ha
 refine xseq (Qyf hts g h1 h2 h3 h4 h5 fun ts' h1 h2 h3=>?_)
 rw [decide_eq_true h6] at h3
 exact xif (v:=true) (by rw [Qei];simp only [gx_cs];exact h3) (fun _=>k ts' h1 h2 h3) (fun h=>by cases h)
theorem Qca {v:Bool} (hts:ts.length=n) (g:gx ts 26=.string ⟨⟨wk⟩⟩) (ha:(decide (a<n)&&!decide (a=26)&&decide (b<n)&&!decide (b=26)&&!decide (a=b)&&(decide (wk=w)==v))=true)
  (k:∀ ts',ts'.length=n→gx ts' 26=.string ⟨⟨wk⟩⟩→gx ts' b=.bool v→Q .normal (x0::x1::x2::x3::x4::x5::ts') ds m) :
  wpX tb F (.reg [⟨some (a+6),.binOp .eql t1 (.tmp 32) (.const (.string ⟨⟨w⟩⟩)) t2,t3,.no⟩,⟨some (b+6),.assign (.tmp (a+6)),t4,.no⟩]) (x0::x1::x2::x3::x4::x5::ts) ds m Q:=by
 simp only [Kba,decide_eq_true_eq,Bool.not_eq_true',decide_eq_false_iff_not,beq_iff_eq] at ha
 obtain⟨⟨⟨⟨⟨h1,h2⟩,h3⟩,h4⟩,h5⟩,h6⟩:=ha
 exact Qyf hts g h1 h2 h3 h4 h5 fun ts' h1 h2 h3=>k ts' h1 h2 (by rw [h3,h6])
theorem xifG {v:Bool} (g:gx ts b=.bool v) (ht:v=true→wpX tb F A (x0::x1::x2::x3::x4::x5::ts) ds m Q) (hf:v=false→wpX tb F B (x0::x1::x2::x3::x4::x5::ts) ds m Q):wpX tb F (.cond (.tmp (b+6)) A B) (x0::x1::x2::x3::x4::x5::ts) ds m Q :=
 xif (v:=v) (by rw [Qei];simp only [gx_cs];exact g) ht hf
end
theorem wayl (z:Int):(if z=1 then [32,101,120,112,114,101,115,115] else [32,102,114,101,105,103,104,116]:List UInt8).length=8:=by split<;>rfl
theorem Qrh {n0 p b0 kn:Nat} {s:Stp} {d c:Value} {m0 m:Mem} {out out':List UInt8} {g:Bool} (h:LI n0 p b0 kn s d c m0 out g m):LI n0 p b0 kn s d c m0 out' g (stM m p 0 [.string ⟨⟨out'⟩⟩]):=h.keep h.pr.out.1 h.pr.out.2
def Qao (k:Nat) (s:Stp):Bool:=(fieldsOf k).any fun f=>f.great s
theorem chain1 {n0 p b0:Nat} {s:Stp} {d c:Value} {m0 m:Mem} {out:List UInt8} {g:Bool} {ts:List Value} (hts:ts.length=223) (g32:gx ts 26=.string ⟨⟨Qay 1⟩⟩) (hL:LI n0 p b0 1 s d c m0 out g m) (hp:Qb4 m0) (hp0:0<n0) (hR:s.R)
  (hd:SlOld n0 m0 d s.data.length (u8s s.data)) (hc:SlOld n0 m0 c s.choices.length (i64s s.choices)) (hb:out.length+100*s.choices.length+20*s.data.length≤800000000) :
  wpX tb ⟨37,.normal,none⟩ Qbs ([.pointer (some ⟨p,0,none⟩),.agg ⟨Qaj 1⟩,.agg ⟨Qaa s d c⟩,undef,.pointer (some ⟨b0,0,none⟩),.pointer (some ⟨b0+1,0,none⟩)]++ts) [] m (fun e l' ds' m'=>e=.normal∧ds'=[]∧LI n0 p b0 1 s d c m0 (out++(fieldsOf 1).flatMap fun f=>f.text s) (g||Qao 1 s) m'∧Sl [.pointer (some ⟨p,0,none⟩),.agg ⟨Qaj 1⟩,.agg ⟨Qaa s d c⟩,undef,.pointer (some ⟨b0,0,none⟩),.pointer (some ⟨b0+1,0,none⟩)] 223 l'):=by
 have z0:(Qaa s d c)[0]? = some (.int .i64 s.kind):=rfl
 have z1:(Qaa s d c)[1]? = some (.int .i64 s.node):=rfl
 have z2:(Qaa s d c)[2]? = some (.int .i64 s.stream):=rfl
 have z3:(Qaa s d c)[3]? = some (.int .u64 s.time):=rfl
 have z4:(Qaa s d c)[4]? = some (.int .u64 s.life):=rfl
 have z6:(Qaa s d c)[6]? = some (.int .u64 s.seq):=rfl
 have z7:(Qaa s d c)[7]? = some (.int .i64 s.qc):=rfl
 have z8:(Qaa s d c)[8]? = some (.int .i64 s.qb):=rfl
 have z9:(Qaa s d c)[9]? = some (.int .i64 s.way):=rfl
 have z10:(Qaa s d c)[10]? = some (.int .i64 s.place):=rfl
 have z11:(Qaa s d c)[11]? = some (.int .i64 s.pos):=rfl
 have z12:(Qaa s d c)[12]? = some (.int .u32 s.mask):=rfl
 have z13:(Qaa s d c)[13]? = some (.int .u64 s.ticks):=rfl
 have z15:(Qaa s d c)[15]? = some (.int .i64 s.cursor):=rfl
 have z16:(Qaa s d c)[16]? = some (.int .u64 s.to):=rfl
 have z5:(Qaa s d c)[5]? = some d:=rfl
 have z14:(Qaa s d c)[14]? = some c:=rfl
 have hnx:=hL.nx
 unfold Qbs
 refine Qax ?_
 refine Qex hts g32 (by decide) fun ts hts g32 gT=>?_
 refine xdrw 3 fun Q' hQ=>?_
 simp [hts,hL.pr.2.2,hL.sb,z3,z4,z5,z6,z12,z13,z16]
 refine Qak (Qad (by decide)) (Qfv (z:=s.ticks) (hp.old hL.old hp0) hR.ticks) ?_ (fun ch m' h=>h.elim)
 rintro r m2 ⟨rfl,rfl⟩
 simp [hts,hL.pr.2.2,hL.sb,z3,z4,z5,z6,z12,z13,z16]
 repeat (rw [Qf7 _ _ _ _ _ (by have l1:=Qac hR.stream;have l2:=Qac hR.qc;have l3:=Qac hR.place;have l4:=Qac hR.pos;have l5:=Qac hR.cursor;have l6:=Qab hR.time;have l7:=Qab hR.life;have l8:=Qab (z:=s.mask) ⟨hR.mask.1,by have:=hR.mask.2;omega⟩;have l9:=Qa6 s.data;have l11:=Qab hR.ticks;have l12:=Qab hR.seq;have l13:=Qab hR.to;have l14:=Qac hR.qb;have l10:=wayl s.way; (try simp only [Kla,Klc,Kln]);omega)];simp [hts,hL.pr.2.2,hL.sb,z3,z4,z5,z6,z12,z13,z16])
 subst hQ
 exact⟨rfl,rfl,by simpa [fieldsOf,Fd.text,Fd.great,Qao,List.append_assoc,Bool.or_assoc] using (Qrh hL:LI n0 p b0 1 s d c m0 (out++decU s.ticks) (g) _),Sl.mk rfl (by simp [hts])⟩
theorem chain2 {n0 p b0:Nat} {s:Stp} {d c:Value} {m0 m:Mem} {out:List UInt8} {g:Bool} {ts:List Value} (hts:ts.length=223) (g32:gx ts 26=.string ⟨⟨Qay 2⟩⟩) (hL:LI n0 p b0 2 s d c m0 out g m) (hp:Qb4 m0) (hp0:0<n0) (hR:s.R)
  (hd:SlOld n0 m0 d s.data.length (u8s s.data)) (hc:SlOld n0 m0 c s.choices.length (i64s s.choices)) (hb:out.length+100*s.choices.length+20*s.data.length≤800000000) :
  wpX tb ⟨37,.normal,none⟩ Qbs ([.pointer (some ⟨p,0,none⟩),.agg ⟨Qaj 2⟩,.agg ⟨Qaa s d c⟩,undef,.pointer (some ⟨b0,0,none⟩),.pointer (some ⟨b0+1,0,none⟩)]++ts) [] m (fun e l' ds' m'=>e=.normal∧ds'=[]∧LI n0 p b0 2 s d c m0 (out++(fieldsOf 2).flatMap fun f=>f.text s) (g||Qao 2 s) m'∧Sl [.pointer (some ⟨p,0,none⟩),.agg ⟨Qaj 2⟩,.agg ⟨Qaa s d c⟩,undef,.pointer (some ⟨b0,0,none⟩),.pointer (some ⟨b0+1,0,none⟩)] 223 l'):=by
 have z0:(Qaa s d c)[0]? = some (.int .i64 s.kind):=rfl
 have z1:(Qaa s d c)[1]? = some (.int .i64 s.node):=rfl
 have z2:(Qaa s d c)[2]? = some (.int .i64 s.stream):=rfl
 have z3:(Qaa s d c)[3]? = some (.int .u64 s.time):=rfl
 have z4:(Qaa s d c)[4]? = some (.int .u64 s.life):=rfl
 have z6:(Qaa s d c)[6]? = some (.int .u64 s.seq):=rfl
 have z7:(Qaa s d c)[7]? = some (.int .i64 s.qc):=rfl
 have z8:(Qaa s d c)[8]? = some (.int .i64 s.qb):=rfl
 have z9:(Qaa s d c)[9]? = some (.int .i64 s.way):=rfl
 have z10:(Qaa s d c)[10]? = some (.int .i64 s.place):=rfl
 have z11:(Qaa s d c)[11]? = some (.int .i64 s.pos):=rfl
 have z12:(Qaa s d c)[12]? = some (.int .u32 s.mask):=rfl
 have z13:(Qaa s d c)[13]? = some (.int .u64 s.ticks):=rfl
 have z15:(Qaa s d c)[15]? = some (.int .i64 s.cursor):=rfl
 have z16:(Qaa s d c)[16]? = some (.int .u64 s.to):=rfl
 have z5:(Qaa s d c)[5]? = some d:=rfl
 have z14:(Qaa s d c)[14]? = some c:=rfl
 have hnx:=hL.nx
 unfold Qbs
 refine Qax ?_
 refine Qag hts g32 (by decide) fun ts hts g32=>?_
 refine Qex hts g32 (by decide) fun ts hts g32 gT=>?_
 refine Qb0 (PS:=fun l' ds' m'=>ds'=[]∧LI n0 p b0 2 s d c m0 (out++decI s.stream) (g||Qam s.stream) m'∧Sl [.pointer (some ⟨p,0,none⟩),.agg ⟨Qaj 2⟩,.agg ⟨Qaa s d c⟩,undef,.pointer (some ⟨b0,0,none⟩),.pointer (some ⟨b0+1,0,none⟩)] 223 l') ?_ ?_
 ·refine Qal fun Q' hQ=>?_
  simp [hts,hL.sb,z2]
  refine Qak (Qad (by decide)) (Qb5 hL.pr hL.nn (hp.old hL.old hp0) hp0 hR.stream (by have l1:=Qac hR.stream;have l2:=Qac hR.qc;have l3:=Qac hR.place;have l4:=Qac hR.pos;have l5:=Qac hR.cursor;have l6:=Qab hR.time;have l7:=Qab hR.life;have l8:=Qab (z:=s.mask) ⟨hR.mask.1,by have:=hR.mask.2;omega⟩;have l9:=Qa6 s.data;have l11:=Qab hR.ticks;have l12:=Qab hR.seq;have l13:=Qab hR.to;have l14:=Qac hR.qb;have l10:=wayl s.way; (try simp only [Kla,Klc,Kln]);omega)) ?_ (fun ch m' h=>h.elim)
  rintro r m2 ⟨hP2,hK2⟩
  subst hQ
  exact⟨rfl,rfl,hL.keep hP2 hK2,Sl.mk rfl (by simp [hts])⟩
 clear hL hts
 rintro l ds m ⟨rfl,hL,⟨ts,hts,rfl⟩⟩
 refine Qb0 (PS:=fun l' ds' m'=>ds'=[]∧LI n0 p b0 2 s d c m0 (out++decI s.stream++decI s.qc) (g||Qam s.stream||Qam s.qc) m'∧Sl [.pointer (some ⟨p,0,none⟩),.agg ⟨Qaj 2⟩,.agg ⟨Qaa s d c⟩,undef,.pointer (some ⟨b0,0,none⟩),.pointer (some ⟨b0+1,0,none⟩)] 223 l') ?_ ?_
 ·refine Qal fun Q' hQ=>?_
  simp [hts,hL.sb,z7]
  refine Qak (Qad (by decide)) (Qb5 hL.pr hL.nn (hp.old hL.old hp0) hp0 hR.qc (by have l1:=Qac hR.stream;have l2:=Qac hR.qc;have l3:=Qac hR.place;have l4:=Qac hR.pos;have l5:=Qac hR.cursor;have l6:=Qab hR.time;have l7:=Qab hR.life;have l8:=Qab (z:=s.mask) ⟨hR.mask.1,by have:=hR.mask.2;omega⟩;have l9:=Qa6 s.data;have l11:=Qab hR.ticks;have l12:=Qab hR.seq;have l13:=Qab hR.to;have l14:=Qac hR.qb;have l10:=wayl s.way; (try simp only [Kla,Klc,Kln]);omega)) ?_ (fun ch m' h=>h.elim)
  rintro r m2 ⟨hP2,hK2⟩
  subst hQ
  exact⟨rfl,rfl,hL.keep hP2 hK2,Sl.mk rfl (by simp [hts])⟩
 clear hL hts
 rintro l ds m ⟨rfl,hL,⟨ts,hts,rfl⟩⟩
 refine Qal fun Q' hQ=>?_
 simp [hts,hL.sb,z8]
 refine Qak (Qad (by decide)) (Qb5 hL.pr hL.nn (hp.old hL.old hp0) hp0 hR.qb (by have l1:=Qac hR.stream;have l2:=Qac hR.qc;have l3:=Qac hR.place;have l4:=Qac hR.pos;have l5:=Qac hR.cursor;have l6:=Qab hR.time;have l7:=Qab hR.life;have l8:=Qab (z:=s.mask) ⟨hR.mask.1,by have:=hR.mask.2;omega⟩;have l9:=Qa6 s.data;have l11:=Qab hR.ticks;have l12:=Qab hR.seq;have l13:=Qab hR.to;have l14:=Qac hR.qb;have l10:=wayl s.way; (try simp only [Kla,Klc,Kln]);omega)) ?_ (fun ch m' h=>h.elim)
 rintro r m2 ⟨hP2,hK2⟩
 subst hQ
 exact⟨rfl,rfl,by simpa [fieldsOf,Fd.text,Fd.great,Qao,List.append_assoc,Bool.or_assoc] using (hL.keep hP2 hK2:LI n0 p b0 2 s d c m0 (out++decI s.stream++decI s.qc++decI s.qb) (g||Qam s.stream||Qam s.qc||Qam s.qb) _),Sl.mk rfl (by simp [hts])⟩
theorem chain3 {n0 p b0:Nat} {s:Stp} {d c:Value} {m0 m:Mem} {out:List UInt8} {g:Bool} {ts:List Value} (hts:ts.length=223) (g32:gx ts 26=.string ⟨⟨Qay 3⟩⟩) (hL:LI n0 p b0 3 s d c m0 out g m) (hp:Qb4 m0) (hp0:0<n0) (hR:s.R)
  (hd:SlOld n0 m0 d s.data.length (u8s s.data)) (hc:SlOld n0 m0 c s.choices.length (i64s s.choices)) (hb:out.length+100*s.choices.length+20*s.data.length≤800000000) :
  wpX tb ⟨37,.normal,none⟩ Qbs ([.pointer (some ⟨p,0,none⟩),.agg ⟨Qaj 3⟩,.agg ⟨Qaa s d c⟩,undef,.pointer (some ⟨b0,0,none⟩),.pointer (some ⟨b0+1,0,none⟩)]++ts) [] m (fun e l' ds' m'=>e=.normal∧ds'=[]∧LI n0 p b0 3 s d c m0 (out++(fieldsOf 3).flatMap fun f=>f.text s) (g||Qao 3 s) m'∧Sl [.pointer (some ⟨p,0,none⟩),.agg ⟨Qaj 3⟩,.agg ⟨Qaa s d c⟩,undef,.pointer (some ⟨b0,0,none⟩),.pointer (some ⟨b0+1,0,none⟩)] 223 l'):=by
 have z0:(Qaa s d c)[0]? = some (.int .i64 s.kind):=rfl
 have z1:(Qaa s d c)[1]? = some (.int .i64 s.node):=rfl
 have z2:(Qaa s d c)[2]? = some (.int .i64 s.stream):=rfl
 have z3:(Qaa s d c)[3]? = some (.int .u64 s.time):=rfl
 have z4:(Qaa s d c)[4]? = some (.int .u64 s.life):=rfl
 have z6:(Qaa s d c)[6]? = some (.int .u64 s.seq):=rfl
 have z7:(Qaa s d c)[7]? = some (.int .i64 s.qc):=rfl
 have z8:(Qaa s d c)[8]? = some (.int .i64 s.qb):=rfl
 have z9:(Qaa s d c)[9]? = some (.int .i64 s.way):=rfl
 have z10:(Qaa s d c)[10]? = some (.int .i64 s.place):=rfl
 have z11:(Qaa s d c)[11]? = some (.int .i64 s.pos):=rfl
 have z12:(Qaa s d c)[12]? = some (.int .u32 s.mask):=rfl
 have z13:(Qaa s d c)[13]? = some (.int .u64 s.ticks):=rfl
 have z15:(Qaa s d c)[15]? = some (.int .i64 s.cursor):=rfl
 have z16:(Qaa s d c)[16]? = some (.int .u64 s.to):=rfl
 have z5:(Qaa s d c)[5]? = some d:=rfl
 have z14:(Qaa s d c)[14]? = some c:=rfl
 have hnx:=hL.nx
 unfold Qbs
 refine Qax ?_
 refine Qag hts g32 (by decide) fun ts hts g32=>?_
 refine Qag hts g32 (by decide) fun ts hts g32=>?_
 refine xseq ?_
 refine Qex hts g32 (by decide) fun ts hts g32 gT=>?_
 refine Qbd (xifG gT (fun _=>?_) fun h=>by cases h)
 refine Qal fun Q' hQ=>?_
 simp [hts,hL.sb,z2]
 refine Qak (Qad (by decide)) (Qb5 hL.pr hL.nn (hp.old hL.old hp0) hp0 hR.stream (by have l1:=Qac hR.stream;have l2:=Qac hR.qc;have l3:=Qac hR.place;have l4:=Qac hR.pos;have l5:=Qac hR.cursor;have l6:=Qab hR.time;have l7:=Qab hR.life;have l8:=Qab (z:=s.mask) ⟨hR.mask.1,by have:=hR.mask.2;omega⟩;have l9:=Qa6 s.data;have l11:=Qab hR.ticks;have l12:=Qab hR.seq;have l13:=Qab hR.to;have l14:=Qac hR.qb;have l10:=wayl s.way; (try simp only [Kla,Klc,Kln]);omega)) ?_ (fun ch m' h=>h.elim)
 rintro r m2 ⟨hP2,hK2⟩
 subst hQ
 exact⟨rfl,rfl,by simpa [fieldsOf,Fd.text,Fd.great,Qao,List.append_assoc,Bool.or_assoc] using (hL.keep hP2 hK2:LI n0 p b0 3 s d c m0 (out++decI s.stream) (g||Qam s.stream) _),Sl.mk rfl (by simp [hts])⟩
theorem chain4 {n0 p b0:Nat} {s:Stp} {d c:Value} {m0 m:Mem} {out:List UInt8} {g:Bool} {ts:List Value} (hts:ts.length=223) (g32:gx ts 26=.string ⟨⟨Qay 4⟩⟩) (hL:LI n0 p b0 4 s d c m0 out g m) (hp:Qb4 m0) (hp0:0<n0) (hR:s.R)
  (hd:SlOld n0 m0 d s.data.length (u8s s.data)) (hc:SlOld n0 m0 c s.choices.length (i64s s.choices)) (hb:out.length+100*s.choices.length+20*s.data.length≤800000000) :
  wpX tb ⟨37,.normal,none⟩ Qbs ([.pointer (some ⟨p,0,none⟩),.agg ⟨Qaj 4⟩,.agg ⟨Qaa s d c⟩,undef,.pointer (some ⟨b0,0,none⟩),.pointer (some ⟨b0+1,0,none⟩)]++ts) [] m (fun e l' ds' m'=>e=.normal∧ds'=[]∧LI n0 p b0 4 s d c m0 (out++(fieldsOf 4).flatMap fun f=>f.text s) (g||Qao 4 s) m'∧Sl [.pointer (some ⟨p,0,none⟩),.agg ⟨Qaj 4⟩,.agg ⟨Qaa s d c⟩,undef,.pointer (some ⟨b0,0,none⟩),.pointer (some ⟨b0+1,0,none⟩)] 223 l'):=by
 have z0:(Qaa s d c)[0]? = some (.int .i64 s.kind):=rfl
 have z1:(Qaa s d c)[1]? = some (.int .i64 s.node):=rfl
 have z2:(Qaa s d c)[2]? = some (.int .i64 s.stream):=rfl
 have z3:(Qaa s d c)[3]? = some (.int .u64 s.time):=rfl
 have z4:(Qaa s d c)[4]? = some (.int .u64 s.life):=rfl
 have z6:(Qaa s d c)[6]? = some (.int .u64 s.seq):=rfl
 have z7:(Qaa s d c)[7]? = some (.int .i64 s.qc):=rfl
 have z8:(Qaa s d c)[8]? = some (.int .i64 s.qb):=rfl
 have z9:(Qaa s d c)[9]? = some (.int .i64 s.way):=rfl
 have z10:(Qaa s d c)[10]? = some (.int .i64 s.place):=rfl
 have z11:(Qaa s d c)[11]? = some (.int .i64 s.pos):=rfl
 have z12:(Qaa s d c)[12]? = some (.int .u32 s.mask):=rfl
 have z13:(Qaa s d c)[13]? = some (.int .u64 s.ticks):=rfl
 have z15:(Qaa s d c)[15]? = some (.int .i64 s.cursor):=rfl
 have z16:(Qaa s d c)[16]? = some (.int .u64 s.to):=rfl
 have z5:(Qaa s d c)[5]? = some d:=rfl
 have z14:(Qaa s d c)[14]? = some c:=rfl
 have hnx:=hL.nx
 unfold Qbs
 refine Qax ?_
 refine Qag hts g32 (by decide) fun ts hts g32=>?_
 refine Qag hts g32 (by decide) fun ts hts g32=>?_
 refine xseq ?_
 refine Qag hts g32 (by decide) fun ts hts g32=>?_
 refine Qex hts g32 (by decide) fun ts hts g32 gT=>?_
 refine Qbd (xifG gT (fun _=>?_) fun h=>by cases h)
 refine Qal fun Q' hQ=>?_
 simp [hts,hL.sb,z2]
 refine Qak (Qad (by decide)) (Qb5 hL.pr hL.nn (hp.old hL.old hp0) hp0 hR.stream (by have l1:=Qac hR.stream;have l2:=Qac hR.qc;have l3:=Qac hR.place;have l4:=Qac hR.pos;have l5:=Qac hR.cursor;have l6:=Qab hR.time;have l7:=Qab hR.life;have l8:=Qab (z:=s.mask) ⟨hR.mask.1,by have:=hR.mask.2;omega⟩;have l9:=Qa6 s.data;have l11:=Qab hR.ticks;have l12:=Qab hR.seq;have l13:=Qab hR.to;have l14:=Qac hR.qb;have l10:=wayl s.way; (try simp only [Kla,Klc,Kln]);omega)) ?_ (fun ch m' h=>h.elim)
 rintro r m2 ⟨hP2,hK2⟩
 subst hQ
 exact⟨rfl,rfl,by simpa [fieldsOf,Fd.text,Fd.great,Qao,List.append_assoc,Bool.or_assoc] using (hL.keep hP2 hK2:LI n0 p b0 4 s d c m0 (out++decI s.stream) (g||Qam s.stream) _),Sl.mk rfl (by simp [hts])⟩
theorem chain5 {n0 p b0:Nat} {s:Stp} {d c:Value} {m0 m:Mem} {out:List UInt8} {g:Bool} {ts:List Value} (hts:ts.length=223) (g32:gx ts 26=.string ⟨⟨Qay 5⟩⟩) (hL:LI n0 p b0 5 s d c m0 out g m) (hp:Qb4 m0) (hp0:0<n0) (hR:s.R)
  (hd:SlOld n0 m0 d s.data.length (u8s s.data)) (hc:SlOld n0 m0 c s.choices.length (i64s s.choices)) (hb:out.length+100*s.choices.length+20*s.data.length≤800000000) :
  wpX tb ⟨37,.normal,none⟩ Qbs ([.pointer (some ⟨p,0,none⟩),.agg ⟨Qaj 5⟩,.agg ⟨Qaa s d c⟩,undef,.pointer (some ⟨b0,0,none⟩),.pointer (some ⟨b0+1,0,none⟩)]++ts) [] m (fun e l' ds' m'=>e=.normal∧ds'=[]∧LI n0 p b0 5 s d c m0 (out++(fieldsOf 5).flatMap fun f=>f.text s) (g||Qao 5 s) m'∧Sl [.pointer (some ⟨p,0,none⟩),.agg ⟨Qaj 5⟩,.agg ⟨Qaa s d c⟩,undef,.pointer (some ⟨b0,0,none⟩),.pointer (some ⟨b0+1,0,none⟩)] 223 l'):=by
 have z0:(Qaa s d c)[0]? = some (.int .i64 s.kind):=rfl
 have z1:(Qaa s d c)[1]? = some (.int .i64 s.node):=rfl
 have z2:(Qaa s d c)[2]? = some (.int .i64 s.stream):=rfl
 have z3:(Qaa s d c)[3]? = some (.int .u64 s.time):=rfl
 have z4:(Qaa s d c)[4]? = some (.int .u64 s.life):=rfl
 have z6:(Qaa s d c)[6]? = some (.int .u64 s.seq):=rfl
 have z7:(Qaa s d c)[7]? = some (.int .i64 s.qc):=rfl
 have z8:(Qaa s d c)[8]? = some (.int .i64 s.qb):=rfl
 have z9:(Qaa s d c)[9]? = some (.int .i64 s.way):=rfl
 have z10:(Qaa s d c)[10]? = some (.int .i64 s.place):=rfl
 have z11:(Qaa s d c)[11]? = some (.int .i64 s.pos):=rfl
 have z12:(Qaa s d c)[12]? = some (.int .u32 s.mask):=rfl
 have z13:(Qaa s d c)[13]? = some (.int .u64 s.ticks):=rfl
 have z15:(Qaa s d c)[15]? = some (.int .i64 s.cursor):=rfl
 have z16:(Qaa s d c)[16]? = some (.int .u64 s.to):=rfl
 have z5:(Qaa s d c)[5]? = some d:=rfl
 have z14:(Qaa s d c)[14]? = some c:=rfl
 have hnx:=hL.nx
 unfold Qbs
 refine Qax ?_
 refine Qag hts g32 (by decide) fun ts hts g32=>?_
 refine Qag hts g32 (by decide) fun ts hts g32=>?_
 refine xseq ?_
 refine Qag hts g32 (by decide) fun ts hts g32=>?_
 refine Qag hts g32 (by decide) fun ts hts g32=>?_
 refine Qex hts g32 (by decide) fun ts hts g32 gT=>?_
 refine Qbd (xifG gT (fun _=>?_) fun h=>by cases h)
 refine Qal fun Q' hQ=>?_
 simp [hts,hL.sb,z2]
 refine Qak (Qad (by decide)) (Qb5 hL.pr hL.nn (hp.old hL.old hp0) hp0 hR.stream (by have l1:=Qac hR.stream;have l2:=Qac hR.qc;have l3:=Qac hR.place;have l4:=Qac hR.pos;have l5:=Qac hR.cursor;have l6:=Qab hR.time;have l7:=Qab hR.life;have l8:=Qab (z:=s.mask) ⟨hR.mask.1,by have:=hR.mask.2;omega⟩;have l9:=Qa6 s.data;have l11:=Qab hR.ticks;have l12:=Qab hR.seq;have l13:=Qab hR.to;have l14:=Qac hR.qb;have l10:=wayl s.way; (try simp only [Kla,Klc,Kln]);omega)) ?_ (fun ch m' h=>h.elim)
 rintro r m2 ⟨hP2,hK2⟩
 subst hQ
 exact⟨rfl,rfl,by simpa [fieldsOf,Fd.text,Fd.great,Qao,List.append_assoc,Bool.or_assoc] using (hL.keep hP2 hK2:LI n0 p b0 5 s d c m0 (out++decI s.stream) (g||Qam s.stream) _),Sl.mk rfl (by simp [hts])⟩
theorem chain6 {n0 p b0:Nat} {s:Stp} {d c:Value} {m0 m:Mem} {out:List UInt8} {g:Bool} {ts:List Value} (hts:ts.length=223) (g32:gx ts 26=.string ⟨⟨Qay 6⟩⟩) (hL:LI n0 p b0 6 s d c m0 out g m) (hp:Qb4 m0) (hp0:0<n0) (hR:s.R)
  (hd:SlOld n0 m0 d s.data.length (u8s s.data)) (hc:SlOld n0 m0 c s.choices.length (i64s s.choices)) (hb:out.length+100*s.choices.length+20*s.data.length≤800000000) :
  wpX tb ⟨37,.normal,none⟩ Qbs ([.pointer (some ⟨p,0,none⟩),.agg ⟨Qaj 6⟩,.agg ⟨Qaa s d c⟩,undef,.pointer (some ⟨b0,0,none⟩),.pointer (some ⟨b0+1,0,none⟩)]++ts) [] m (fun e l' ds' m'=>e=.normal∧ds'=[]∧LI n0 p b0 6 s d c m0 (out++(fieldsOf 6).flatMap fun f=>f.text s) (g||Qao 6 s) m'∧Sl [.pointer (some ⟨p,0,none⟩),.agg ⟨Qaj 6⟩,.agg ⟨Qaa s d c⟩,undef,.pointer (some ⟨b0,0,none⟩),.pointer (some ⟨b0+1,0,none⟩)] 223 l'):=by
 have z0:(Qaa s d c)[0]? = some (.int .i64 s.kind):=rfl
 have z1:(Qaa s d c)[1]? = some (.int .i64 s.node):=rfl
 have z2:(Qaa s d c)[2]? = some (.int .i64 s.stream):=rfl
 have z3:(Qaa s d c)[3]? = some (.int .u64 s.time):=rfl
 have z4:(Qaa s d c)[4]? = some (.int .u64 s.life):=rfl
 have z6:(Qaa s d c)[6]? = some (.int .u64 s.seq):=rfl
 have z7:(Qaa s d c)[7]? = some (.int .i64 s.qc):=rfl
 have z8:(Qaa s d c)[8]? = some (.int .i64 s.qb):=rfl
 have z9:(Qaa s d c)[9]? = some (.int .i64 s.way):=rfl
 have z10:(Qaa s d c)[10]? = some (.int .i64 s.place):=rfl
 have z11:(Qaa s d c)[11]? = some (.int .i64 s.pos):=rfl
 have z12:(Qaa s d c)[12]? = some (.int .u32 s.mask):=rfl
 have z13:(Qaa s d c)[13]? = some (.int .u64 s.ticks):=rfl
 have z15:(Qaa s d c)[15]? = some (.int .i64 s.cursor):=rfl
 have z16:(Qaa s d c)[16]? = some (.int .u64 s.to):=rfl
 have z5:(Qaa s d c)[5]? = some d:=rfl
 have z14:(Qaa s d c)[14]? = some c:=rfl
 obtain⟨ad,dc,rfl⟩:=(hd.at (show n0≤m0.next by have:=hL.pb;have:=hL.pr.1;have:=hL.hb0;omega)).shape
 unfold Qbs
 refine Qax ?_
 refine Qag hts g32 (by decide) fun ts hts g32=>?_
 refine Qag hts g32 (by decide) fun ts hts g32=>?_
 refine xseq ?_
 refine Qag hts g32 (by decide) fun ts hts g32=>?_
 refine Qag hts g32 (by decide) fun ts hts g32=>?_
 refine Qag hts g32 (by decide) fun ts hts g32=>?_
 refine Qca (v:=false) hts g32 (by decide) fun ts hts g32 gT=>xifG gT (fun h=>by cases h) fun _=>?_
 refine Qex hts g32 (by decide) fun ts hts g32 gT=>?_
 refine Qb0 (PS:=fun l' ds' m'=>ds'=[]∧LI n0 p b0 6 s (.slice ad s.data.length dc) c m0 (out++decI s.stream) (g||Qam s.stream) m'∧Sl [.pointer (some ⟨p,0,none⟩),.agg ⟨Qaj 6⟩,.agg ⟨Qaa s (.slice ad s.data.length dc) c⟩,undef,.pointer (some ⟨b0,0,none⟩),.pointer (some ⟨b0+1,0,none⟩)] 223 l') ?_ ?_
 ·refine Qal fun Q' hQ=>?_
  simp [hts,hL.sb,z2]
  refine Qak (Qad (by decide)) (Qb5 hL.pr hL.nn (hp.old hL.old hp0) hp0 hR.stream (by have l1:=Qac hR.stream;have l2:=Qac hR.qc;have l3:=Qac hR.place;have l4:=Qac hR.pos;have l5:=Qac hR.cursor;have l6:=Qab hR.time;have l7:=Qab hR.life;have l8:=Qab (z:=s.mask) ⟨hR.mask.1,by have:=hR.mask.2;omega⟩;have l9:=Qa6 s.data;have l11:=Qab hR.ticks;have l12:=Qab hR.seq;have l13:=Qab hR.to;have l14:=Qac hR.qb;have l10:=wayl s.way; (try simp only [Kla,Klc,Kln]);omega)) ?_ (fun ch m' h=>h.elim)
  rintro r m2 ⟨hP2,hK2⟩
  subst hQ
  exact⟨rfl,rfl,hL.keep hP2 hK2,Sl.mk rfl (by simp [hts])⟩
 clear hL hts
 rintro l ds m ⟨rfl,hL,⟨ts,hts,rfl⟩⟩
 refine xdrw 5 fun Q' hQ=>?_
 simp [hts,hL.pr.2.2,hL.sb,z3,z4,z5]
 refine Qak (Qad (by decide)) (Qfv (z:=s.time) (hp.old hL.old hp0) hR.time) ?_ (fun ch m' h=>h.elim)
 rintro r m2 ⟨rfl,rfl⟩
 simp [hts,hL.pr.2.2,hL.sb,z3,z4,z5,z6,z12,z13,z16]
 repeat (rw [Qf7 _ _ _ _ _ (by have l1:=Qac hR.stream;have l2:=Qac hR.qc;have l3:=Qac hR.place;have l4:=Qac hR.pos;have l5:=Qac hR.cursor;have l6:=Qab hR.time;have l7:=Qab hR.life;have l8:=Qab (z:=s.mask) ⟨hR.mask.1,by have:=hR.mask.2;omega⟩;have l9:=Qa6 s.data;have l11:=Qab hR.ticks;have l12:=Qab hR.seq;have l13:=Qab hR.to;have l14:=Qac hR.qb;have l10:=wayl s.way; (try simp only [Kla,Klc,Kln]);omega)];simp [hts,hL.pr.2.2,hL.sb,z3,z4,z5,z6,z12,z13,z16])
 refine Qak (Qad (by decide)) (Qfv (z:=s.life) (hp.old hL.old hp0) hR.life) ?_ (fun ch m' h=>h.elim)
 rintro r m2 ⟨rfl,rfl⟩
 simp [hts,hL.pr.2.2,hL.sb,z3,z4,z5,z6,z12,z13,z16]
 repeat (rw [Qf7 _ _ _ _ _ (by have l1:=Qac hR.stream;have l2:=Qac hR.qc;have l3:=Qac hR.place;have l4:=Qac hR.pos;have l5:=Qac hR.cursor;have l6:=Qab hR.time;have l7:=Qab hR.life;have l8:=Qab (z:=s.mask) ⟨hR.mask.1,by have:=hR.mask.2;omega⟩;have l9:=Qa6 s.data;have l11:=Qab hR.ticks;have l12:=Qab hR.seq;have l13:=Qab hR.to;have l14:=Qac hR.qb;have l10:=wayl s.way; (try simp only [Kla,Klc,Kln]);omega)];simp [hts,hL.pr.2.2,hL.sb,z3,z4,z5,z6,z12,z13,z16])
 repeat (rw [Qf7 _ _ _ _ _ (by have l1:=Qac hR.stream;have l2:=Qac hR.qc;have l3:=Qac hR.place;have l4:=Qac hR.pos;have l5:=Qac hR.cursor;have l6:=Qab hR.time;have l7:=Qab hR.life;have l8:=Qab (z:=s.mask) ⟨hR.mask.1,by have:=hR.mask.2;omega⟩;have l9:=Qa6 s.data;have l11:=Qab hR.ticks;have l12:=Qab hR.seq;have l13:=Qab hR.to;have l14:=Qac hR.qb;have l10:=wayl s.way; (try simp only [Kla,Klc,Kln]);omega)];simp [hts,hL.pr.2.2,hL.sb,z3,z4,z5,z6,z12,z13,z16])
 refine Qak (Qad (by decide)) (Qzn (((hd.old hL.old).at hL.nn)) (by omega)) ?_ (fun ch m' h=>h.elim)
 rintro r m3 ⟨rfl,hO3⟩
 have hL3:=hL.keep (hL.pr.keep hO3) (Keep.ofOld hO3)
 clear hL
 have hL:=hL3
 simp [hts,hL.pr.2.2,hL.sb,z3,z4,z5,z6,z12,z13,z16]
 repeat (rw [Qf7 _ _ _ _ _ (by have l1:=Qac hR.stream;have l2:=Qac hR.qc;have l3:=Qac hR.place;have l4:=Qac hR.pos;have l5:=Qac hR.cursor;have l6:=Qab hR.time;have l7:=Qab hR.life;have l8:=Qab (z:=s.mask) ⟨hR.mask.1,by have:=hR.mask.2;omega⟩;have l9:=Qa6 s.data;have l11:=Qab hR.ticks;have l12:=Qab hR.seq;have l13:=Qab hR.to;have l14:=Qac hR.qb;have l10:=wayl s.way; (try simp only [Kla,Klc,Kln]);omega)];simp [hts,hL.pr.2.2,hL.sb,z3,z4,z5,z6,z12,z13,z16])
 subst hQ
 exact⟨rfl,rfl,by simpa [fieldsOf,Fd.text,Fd.great,Qao,List.append_assoc,Bool.or_assoc] using (Qrh hL:LI n0 p b0 6 s (.slice ad s.data.length dc) c m0 (out++decI s.stream++decU s.time++decU s.life++[32]++Qde s.data) (g||Qam s.stream) _),Sl.mk rfl (by simp [hts])⟩
theorem chain7 {n0 p b0:Nat} {s:Stp} {d c:Value} {m0 m:Mem} {out:List UInt8} {g:Bool} {ts:List Value} (hts:ts.length=223) (g32:gx ts 26=.string ⟨⟨Qay 7⟩⟩) (hL:LI n0 p b0 7 s d c m0 out g m) (hp:Qb4 m0) (hp0:0<n0) (hR:s.R)
  (hd:SlOld n0 m0 d s.data.length (u8s s.data)) (hc:SlOld n0 m0 c s.choices.length (i64s s.choices)) (hb:out.length+100*s.choices.length+20*s.data.length≤800000000) :
  wpX tb ⟨37,.normal,none⟩ Qbs ([.pointer (some ⟨p,0,none⟩),.agg ⟨Qaj 7⟩,.agg ⟨Qaa s d c⟩,undef,.pointer (some ⟨b0,0,none⟩),.pointer (some ⟨b0+1,0,none⟩)]++ts) [] m (fun e l' ds' m'=>e=.normal∧ds'=[]∧LI n0 p b0 7 s d c m0 (out++(fieldsOf 7).flatMap fun f=>f.text s) (g||Qao 7 s) m'∧Sl [.pointer (some ⟨p,0,none⟩),.agg ⟨Qaj 7⟩,.agg ⟨Qaa s d c⟩,undef,.pointer (some ⟨b0,0,none⟩),.pointer (some ⟨b0+1,0,none⟩)] 223 l'):=by
 have z0:(Qaa s d c)[0]? = some (.int .i64 s.kind):=rfl
 have z1:(Qaa s d c)[1]? = some (.int .i64 s.node):=rfl
 have z2:(Qaa s d c)[2]? = some (.int .i64 s.stream):=rfl
 have z3:(Qaa s d c)[3]? = some (.int .u64 s.time):=rfl
 have z4:(Qaa s d c)[4]? = some (.int .u64 s.life):=rfl
 have z6:(Qaa s d c)[6]? = some (.int .u64 s.seq):=rfl
 have z7:(Qaa s d c)[7]? = some (.int .i64 s.qc):=rfl
 have z8:(Qaa s d c)[8]? = some (.int .i64 s.qb):=rfl
 have z9:(Qaa s d c)[9]? = some (.int .i64 s.way):=rfl
 have z10:(Qaa s d c)[10]? = some (.int .i64 s.place):=rfl
 have z11:(Qaa s d c)[11]? = some (.int .i64 s.pos):=rfl
 have z12:(Qaa s d c)[12]? = some (.int .u32 s.mask):=rfl
 have z13:(Qaa s d c)[13]? = some (.int .u64 s.ticks):=rfl
 have z15:(Qaa s d c)[15]? = some (.int .i64 s.cursor):=rfl
 have z16:(Qaa s d c)[16]? = some (.int .u64 s.to):=rfl
 have z5:(Qaa s d c)[5]? = some d:=rfl
 have z14:(Qaa s d c)[14]? = some c:=rfl
 have hnx:=hL.nx
 unfold Qbs
 refine Qax ?_
 refine Qag hts g32 (by decide) fun ts hts g32=>?_
 refine Qag hts g32 (by decide) fun ts hts g32=>?_
 refine xseq ?_
 refine Qag hts g32 (by decide) fun ts hts g32=>?_
 refine Qag hts g32 (by decide) fun ts hts g32=>?_
 refine Qag hts g32 (by decide) fun ts hts g32=>?_
 refine Qca (v:=false) hts g32 (by decide) fun ts hts g32 gT=>xifG gT (fun h=>by cases h) fun _=>?_
 refine Qag hts g32 (by decide) fun ts hts g32=>?_
 refine Qex hts g32 (by decide) fun ts hts g32 gT=>?_
 refine Qb0 (PS:=fun l' ds' m'=>ds'=[]∧LI n0 p b0 7 s d c m0 (out++decI s.stream) (g||Qam s.stream) m'∧Sl [.pointer (some ⟨p,0,none⟩),.agg ⟨Qaj 7⟩,.agg ⟨Qaa s d c⟩,undef,.pointer (some ⟨b0,0,none⟩),.pointer (some ⟨b0+1,0,none⟩)] 223 l') ?_ ?_
 ·refine Qal fun Q' hQ=>?_
  simp [hts,hL.sb,z2]
  refine Qak (Qad (by decide)) (Qb5 hL.pr hL.nn (hp.old hL.old hp0) hp0 hR.stream (by have l1:=Qac hR.stream;have l2:=Qac hR.qc;have l3:=Qac hR.place;have l4:=Qac hR.pos;have l5:=Qac hR.cursor;have l6:=Qab hR.time;have l7:=Qab hR.life;have l8:=Qab (z:=s.mask) ⟨hR.mask.1,by have:=hR.mask.2;omega⟩;have l9:=Qa6 s.data;have l11:=Qab hR.ticks;have l12:=Qab hR.seq;have l13:=Qab hR.to;have l14:=Qac hR.qb;have l10:=wayl s.way; (try simp only [Kla,Klc,Kln]);omega)) ?_ (fun ch m' h=>h.elim)
  rintro r m2 ⟨hP2,hK2⟩
  subst hQ
  exact⟨rfl,rfl,hL.keep hP2 hK2,Sl.mk rfl (by simp [hts])⟩
 clear hL hts
 rintro l ds m ⟨rfl,hL,⟨ts,hts,rfl⟩⟩
 refine xdrw 3 fun Q' hQ=>?_
 simp [hts,hL.pr.2.2,hL.sb,z3,z4,z5,z6,z12,z13,z16]
 refine Qak (Qad (by decide)) (Qfv (z:=s.seq) (hp.old hL.old hp0) hR.seq) ?_ (fun ch m' h=>h.elim)
 rintro r m2 ⟨rfl,rfl⟩
 simp [hts,hL.pr.2.2,hL.sb,z3,z4,z5,z6,z12,z13,z16]
 repeat (rw [Qf7 _ _ _ _ _ (by have l1:=Qac hR.stream;have l2:=Qac hR.qc;have l3:=Qac hR.place;have l4:=Qac hR.pos;have l5:=Qac hR.cursor;have l6:=Qab hR.time;have l7:=Qab hR.life;have l8:=Qab (z:=s.mask) ⟨hR.mask.1,by have:=hR.mask.2;omega⟩;have l9:=Qa6 s.data;have l11:=Qab hR.ticks;have l12:=Qab hR.seq;have l13:=Qab hR.to;have l14:=Qac hR.qb;have l10:=wayl s.way; (try simp only [Kla,Klc,Kln]);omega)];simp [hts,hL.pr.2.2,hL.sb,z3,z4,z5,z6,z12,z13,z16])
 subst hQ
 exact⟨rfl,rfl,by simpa [fieldsOf,Fd.text,Fd.great,Qao,List.append_assoc,Bool.or_assoc] using (Qrh hL:LI n0 p b0 7 s d c m0 (out++decI s.stream++decU s.seq) (g||Qam s.stream) _),Sl.mk rfl (by simp [hts])⟩
theorem chain8 {n0 p b0:Nat} {s:Stp} {d c:Value} {m0 m:Mem} {out:List UInt8} {g:Bool} {ts:List Value} (hts:ts.length=223) (g32:gx ts 26=.string ⟨⟨Qay 8⟩⟩) (hL:LI n0 p b0 8 s d c m0 out g m) (hp:Qb4 m0) (hp0:0<n0) (hR:s.R)
  (hd:SlOld n0 m0 d s.data.length (u8s s.data)) (hc:SlOld n0 m0 c s.choices.length (i64s s.choices)) (hb:out.length+100*s.choices.length+20*s.data.length≤800000000) :
  wpX tb ⟨37,.normal,none⟩ Qbs ([.pointer (some ⟨p,0,none⟩),.agg ⟨Qaj 8⟩,.agg ⟨Qaa s d c⟩,undef,.pointer (some ⟨b0,0,none⟩),.pointer (some ⟨b0+1,0,none⟩)]++ts) [] m (fun e l' ds' m'=>e=.normal∧ds'=[]∧LI n0 p b0 8 s d c m0 (out++(fieldsOf 8).flatMap fun f=>f.text s) (g||Qao 8 s) m'∧Sl [.pointer (some ⟨p,0,none⟩),.agg ⟨Qaj 8⟩,.agg ⟨Qaa s d c⟩,undef,.pointer (some ⟨b0,0,none⟩),.pointer (some ⟨b0+1,0,none⟩)] 223 l'):=by
 have z0:(Qaa s d c)[0]? = some (.int .i64 s.kind):=rfl
 have z1:(Qaa s d c)[1]? = some (.int .i64 s.node):=rfl
 have z2:(Qaa s d c)[2]? = some (.int .i64 s.stream):=rfl
 have z3:(Qaa s d c)[3]? = some (.int .u64 s.time):=rfl
 have z4:(Qaa s d c)[4]? = some (.int .u64 s.life):=rfl
 have z6:(Qaa s d c)[6]? = some (.int .u64 s.seq):=rfl
 have z7:(Qaa s d c)[7]? = some (.int .i64 s.qc):=rfl
 have z8:(Qaa s d c)[8]? = some (.int .i64 s.qb):=rfl
 have z9:(Qaa s d c)[9]? = some (.int .i64 s.way):=rfl
 have z10:(Qaa s d c)[10]? = some (.int .i64 s.place):=rfl
 have z11:(Qaa s d c)[11]? = some (.int .i64 s.pos):=rfl
 have z12:(Qaa s d c)[12]? = some (.int .u32 s.mask):=rfl
 have z13:(Qaa s d c)[13]? = some (.int .u64 s.ticks):=rfl
 have z15:(Qaa s d c)[15]? = some (.int .i64 s.cursor):=rfl
 have z16:(Qaa s d c)[16]? = some (.int .u64 s.to):=rfl
 have z5:(Qaa s d c)[5]? = some d:=rfl
 have z14:(Qaa s d c)[14]? = some c:=rfl
 have hnx:=hL.nx
 unfold Qbs
 refine Qax ?_
 refine Qag hts g32 (by decide) fun ts hts g32=>?_
 refine Qag hts g32 (by decide) fun ts hts g32=>?_
 refine xseq ?_
 refine Qag hts g32 (by decide) fun ts hts g32=>?_
 refine Qag hts g32 (by decide) fun ts hts g32=>?_
 refine Qag hts g32 (by decide) fun ts hts g32=>?_
 refine Qca (v:=false) hts g32 (by decide) fun ts hts g32 gT=>xifG gT (fun h=>by cases h) fun _=>?_
 refine Qag hts g32 (by decide) fun ts hts g32=>?_
 refine Qag hts g32 (by decide) fun ts hts g32=>?_
 refine xseq ?_
 refine Qag hts g32 (by decide) fun ts hts g32=>?_
 refine Qag hts g32 (by decide) fun ts hts g32=>?_
 refine Qca (v:=false) hts g32 (by decide) fun ts hts g32 gT=>xifG gT (fun h=>by cases h) fun _=>?_
 refine Qag hts g32 (by decide) fun ts hts g32=>?_
 refine Qag hts g32 (by decide) fun ts hts g32=>?_
 refine Qag hts g32 (by decide) fun ts hts g32=>?_
 refine xseq ?_
 refine Qag hts g32 (by decide) fun ts hts g32=>?_
 refine Qag hts g32 (by decide) fun ts hts g32=>?_
 refine Qag hts g32 (by decide) fun ts hts g32=>?_
 refine Qca (v:=false) hts g32 (by decide) fun ts hts g32 gT=>xifG gT (fun h=>by cases h) fun _=>?_
 refine Qag hts g32 (by decide) fun ts hts g32=>?_
 refine Qag hts g32 (by decide) fun ts hts g32=>?_
 refine Qbd ?_
 exact⟨rfl,rfl,by simpa [fieldsOf,Fd.text,Fd.great,Qao,List.append_assoc,Bool.or_assoc] using hL,Sl.mk rfl (by simp [hts])⟩
theorem chain9 {n0 p b0:Nat} {s:Stp} {d c:Value} {m0 m:Mem} {out:List UInt8} {g:Bool} {ts:List Value} (hts:ts.length=223) (g32:gx ts 26=.string ⟨⟨Qay 9⟩⟩) (hL:LI n0 p b0 9 s d c m0 out g m) (hp:Qb4 m0) (hp0:0<n0) (hR:s.R)
  (hd:SlOld n0 m0 d s.data.length (u8s s.data)) (hc:SlOld n0 m0 c s.choices.length (i64s s.choices)) (hb:out.length+100*s.choices.length+20*s.data.length≤800000000) :
  wpX tb ⟨37,.normal,none⟩ Qbs ([.pointer (some ⟨p,0,none⟩),.agg ⟨Qaj 9⟩,.agg ⟨Qaa s d c⟩,undef,.pointer (some ⟨b0,0,none⟩),.pointer (some ⟨b0+1,0,none⟩)]++ts) [] m (fun e l' ds' m'=>e=.normal∧ds'=[]∧LI n0 p b0 9 s d c m0 (out++(fieldsOf 9).flatMap fun f=>f.text s) (g||Qao 9 s) m'∧Sl [.pointer (some ⟨p,0,none⟩),.agg ⟨Qaj 9⟩,.agg ⟨Qaa s d c⟩,undef,.pointer (some ⟨b0,0,none⟩),.pointer (some ⟨b0+1,0,none⟩)] 223 l'):=by
 have z0:(Qaa s d c)[0]? = some (.int .i64 s.kind):=rfl
 have z1:(Qaa s d c)[1]? = some (.int .i64 s.node):=rfl
 have z2:(Qaa s d c)[2]? = some (.int .i64 s.stream):=rfl
 have z3:(Qaa s d c)[3]? = some (.int .u64 s.time):=rfl
 have z4:(Qaa s d c)[4]? = some (.int .u64 s.life):=rfl
 have z6:(Qaa s d c)[6]? = some (.int .u64 s.seq):=rfl
 have z7:(Qaa s d c)[7]? = some (.int .i64 s.qc):=rfl
 have z8:(Qaa s d c)[8]? = some (.int .i64 s.qb):=rfl
 have z9:(Qaa s d c)[9]? = some (.int .i64 s.way):=rfl
 have z10:(Qaa s d c)[10]? = some (.int .i64 s.place):=rfl
 have z11:(Qaa s d c)[11]? = some (.int .i64 s.pos):=rfl
 have z12:(Qaa s d c)[12]? = some (.int .u32 s.mask):=rfl
 have z13:(Qaa s d c)[13]? = some (.int .u64 s.ticks):=rfl
 have z15:(Qaa s d c)[15]? = some (.int .i64 s.cursor):=rfl
 have z16:(Qaa s d c)[16]? = some (.int .u64 s.to):=rfl
 have z5:(Qaa s d c)[5]? = some d:=rfl
 have z14:(Qaa s d c)[14]? = some c:=rfl
 have hnx:=hL.nx
 unfold Qbs
 refine Qax ?_
 refine Qag hts g32 (by decide) fun ts hts g32=>?_
 refine Qag hts g32 (by decide) fun ts hts g32=>?_
 refine xseq ?_
 refine Qag hts g32 (by decide) fun ts hts g32=>?_
 refine Qag hts g32 (by decide) fun ts hts g32=>?_
 refine Qag hts g32 (by decide) fun ts hts g32=>?_
 refine Qca (v:=false) hts g32 (by decide) fun ts hts g32 gT=>xifG gT (fun h=>by cases h) fun _=>?_
 refine Qag hts g32 (by decide) fun ts hts g32=>?_
 refine Qag hts g32 (by decide) fun ts hts g32=>?_
 refine xseq ?_
 refine Qex hts g32 (by decide) fun ts hts g32 gT=>?_
 refine Qbd (xifG gT (fun _=>?_) fun h=>by cases h)
 refine Qb0 (PS:=fun l' ds' m'=>ds'=[]∧LI n0 p b0 9 s d c m0 (out++(if s.way=1 then [32,101,120,112,114,101,115,115] else [32,102,114,101,105,103,104,116])) (g) m'∧Sl [.pointer (some ⟨p,0,none⟩),.agg ⟨Qaj 9⟩,.agg ⟨Qaa s d c⟩,undef,.pointer (some ⟨b0,0,none⟩),.pointer (some ⟨b0+1,0,none⟩)] 223 l') ?_ ?_
 ·refine Qal fun Q' hQ=>?_
  simp [hts,hL.sb,z9]
  refine Qak (Qad (by decide)) (Qp7 hL.pr (by have l1:=Qac hR.stream;have l2:=Qac hR.qc;have l3:=Qac hR.place;have l4:=Qac hR.pos;have l5:=Qac hR.cursor;have l6:=Qab hR.time;have l7:=Qab hR.life;have l8:=Qab (z:=s.mask) ⟨hR.mask.1,by have:=hR.mask.2;omega⟩;have l9:=Qa6 s.data;have l11:=Qab hR.ticks;have l12:=Qab hR.seq;have l13:=Qab hR.to;have l14:=Qac hR.qb;have l10:=wayl s.way; (try simp only [Kla,Klc,Kln]);omega)) ?_ (fun ch m' h=>h.elim)
  rintro r m2 ⟨hP2,hK2⟩
  subst hQ
  exact⟨rfl,rfl,hL.keep hP2 hK2,Sl.mk rfl (by simp [hts])⟩
 clear hL hts
 rintro l ds m ⟨rfl,hL,⟨ts,hts,rfl⟩⟩
 refine Qal fun Q' hQ=>?_
 simp [hts,hL.sb,z10]
 refine Qak (Qad (by decide)) (Qb5 hL.pr hL.nn (hp.old hL.old hp0) hp0 hR.place (by have l1:=Qac hR.stream;have l2:=Qac hR.qc;have l3:=Qac hR.place;have l4:=Qac hR.pos;have l5:=Qac hR.cursor;have l6:=Qab hR.time;have l7:=Qab hR.life;have l8:=Qab (z:=s.mask) ⟨hR.mask.1,by have:=hR.mask.2;omega⟩;have l9:=Qa6 s.data;have l11:=Qab hR.ticks;have l12:=Qab hR.seq;have l13:=Qab hR.to;have l14:=Qac hR.qb;have l10:=wayl s.way; (try simp only [Kla,Klc,Kln]);omega)) ?_ (fun ch m' h=>h.elim)
 rintro r m2 ⟨hP2,hK2⟩
 subst hQ
 exact⟨rfl,rfl,by simpa [fieldsOf,Fd.text,Fd.great,Qao,List.append_assoc,Bool.or_assoc] using (hL.keep hP2 hK2:LI n0 p b0 9 s d c m0 (out++(if s.way=1 then [32,101,120,112,114,101,115,115] else [32,102,114,101,105,103,104,116])++decI s.place) (g||Qam s.place) _),Sl.mk rfl (by simp [hts])⟩
theorem chain10 {n0 p b0:Nat} {s:Stp} {d c:Value} {m0 m:Mem} {out:List UInt8} {g:Bool} {ts:List Value} (hts:ts.length=223) (g32:gx ts 26=.string ⟨⟨Qay 10⟩⟩) (hL:LI n0 p b0 10 s d c m0 out g m) (hp:Qb4 m0) (hp0:0<n0) (hR:s.R)
  (hd:SlOld n0 m0 d s.data.length (u8s s.data)) (hc:SlOld n0 m0 c s.choices.length (i64s s.choices)) (hb:out.length+100*s.choices.length+20*s.data.length≤800000000) :
  wpX tb ⟨37,.normal,none⟩ Qbs ([.pointer (some ⟨p,0,none⟩),.agg ⟨Qaj 10⟩,.agg ⟨Qaa s d c⟩,undef,.pointer (some ⟨b0,0,none⟩),.pointer (some ⟨b0+1,0,none⟩)]++ts) [] m (fun e l' ds' m'=>e=.normal∧ds'=[]∧LI n0 p b0 10 s d c m0 (out++(fieldsOf 10).flatMap fun f=>f.text s) (g||Qao 10 s) m'∧Sl [.pointer (some ⟨p,0,none⟩),.agg ⟨Qaj 10⟩,.agg ⟨Qaa s d c⟩,undef,.pointer (some ⟨b0,0,none⟩),.pointer (some ⟨b0+1,0,none⟩)] 223 l'):=by
 have z0:(Qaa s d c)[0]? = some (.int .i64 s.kind):=rfl
 have z1:(Qaa s d c)[1]? = some (.int .i64 s.node):=rfl
 have z2:(Qaa s d c)[2]? = some (.int .i64 s.stream):=rfl
 have z3:(Qaa s d c)[3]? = some (.int .u64 s.time):=rfl
 have z4:(Qaa s d c)[4]? = some (.int .u64 s.life):=rfl
 have z6:(Qaa s d c)[6]? = some (.int .u64 s.seq):=rfl
 have z7:(Qaa s d c)[7]? = some (.int .i64 s.qc):=rfl
 have z8:(Qaa s d c)[8]? = some (.int .i64 s.qb):=rfl
 have z9:(Qaa s d c)[9]? = some (.int .i64 s.way):=rfl
 have z10:(Qaa s d c)[10]? = some (.int .i64 s.place):=rfl
 have z11:(Qaa s d c)[11]? = some (.int .i64 s.pos):=rfl
 have z12:(Qaa s d c)[12]? = some (.int .u32 s.mask):=rfl
 have z13:(Qaa s d c)[13]? = some (.int .u64 s.ticks):=rfl
 have z15:(Qaa s d c)[15]? = some (.int .i64 s.cursor):=rfl
 have z16:(Qaa s d c)[16]? = some (.int .u64 s.to):=rfl
 have z5:(Qaa s d c)[5]? = some d:=rfl
 have z14:(Qaa s d c)[14]? = some c:=rfl
 have hnx:=hL.nx
 unfold Qbs
 refine Qax ?_
 refine Qag hts g32 (by decide) fun ts hts g32=>?_
 refine Qag hts g32 (by decide) fun ts hts g32=>?_
 refine xseq ?_
 refine Qag hts g32 (by decide) fun ts hts g32=>?_
 refine Qag hts g32 (by decide) fun ts hts g32=>?_
 refine Qag hts g32 (by decide) fun ts hts g32=>?_
 refine Qca (v:=false) hts g32 (by decide) fun ts hts g32 gT=>xifG gT (fun h=>by cases h) fun _=>?_
 refine Qag hts g32 (by decide) fun ts hts g32=>?_
 refine Qag hts g32 (by decide) fun ts hts g32=>?_
 refine xseq ?_
 refine Qag hts g32 (by decide) fun ts hts g32=>?_
 refine Qex hts g32 (by decide) fun ts hts g32 gT=>?_
 refine Qbd (xifG gT (fun _=>?_) fun h=>by cases h)
 refine Qb0 (PS:=fun l' ds' m'=>ds'=[]∧LI n0 p b0 10 s d c m0 (out++(if s.way=1 then [32,101,120,112,114,101,115,115] else [32,102,114,101,105,103,104,116])) (g) m'∧Sl [.pointer (some ⟨p,0,none⟩),.agg ⟨Qaj 10⟩,.agg ⟨Qaa s d c⟩,undef,.pointer (some ⟨b0,0,none⟩),.pointer (some ⟨b0+1,0,none⟩)] 223 l') ?_ ?_
 ·refine Qal fun Q' hQ=>?_
  simp [hts,hL.sb,z9]
  refine Qak (Qad (by decide)) (Qp7 hL.pr (by have l1:=Qac hR.stream;have l2:=Qac hR.qc;have l3:=Qac hR.place;have l4:=Qac hR.pos;have l5:=Qac hR.cursor;have l6:=Qab hR.time;have l7:=Qab hR.life;have l8:=Qab (z:=s.mask) ⟨hR.mask.1,by have:=hR.mask.2;omega⟩;have l9:=Qa6 s.data;have l11:=Qab hR.ticks;have l12:=Qab hR.seq;have l13:=Qab hR.to;have l14:=Qac hR.qb;have l10:=wayl s.way; (try simp only [Kla,Klc,Kln]);omega)) ?_ (fun ch m' h=>h.elim)
  rintro r m2 ⟨hP2,hK2⟩
  subst hQ
  exact⟨rfl,rfl,hL.keep hP2 hK2,Sl.mk rfl (by simp [hts])⟩
 clear hL hts
 rintro l ds m ⟨rfl,hL,⟨ts,hts,rfl⟩⟩
 refine Qal fun Q' hQ=>?_
 simp [hts,hL.sb,z10]
 refine Qak (Qad (by decide)) (Qb5 hL.pr hL.nn (hp.old hL.old hp0) hp0 hR.place (by have l1:=Qac hR.stream;have l2:=Qac hR.qc;have l3:=Qac hR.place;have l4:=Qac hR.pos;have l5:=Qac hR.cursor;have l6:=Qab hR.time;have l7:=Qab hR.life;have l8:=Qab (z:=s.mask) ⟨hR.mask.1,by have:=hR.mask.2;omega⟩;have l9:=Qa6 s.data;have l11:=Qab hR.ticks;have l12:=Qab hR.seq;have l13:=Qab hR.to;have l14:=Qac hR.qb;have l10:=wayl s.way; (try simp only [Kla,Klc,Kln]);omega)) ?_ (fun ch m' h=>h.elim)
 rintro r m2 ⟨hP2,hK2⟩
 subst hQ
 exact⟨rfl,rfl,by simpa [fieldsOf,Fd.text,Fd.great,Qao,List.append_assoc,Bool.or_assoc] using (hL.keep hP2 hK2:LI n0 p b0 10 s d c m0 (out++(if s.way=1 then [32,101,120,112,114,101,115,115] else [32,102,114,101,105,103,104,116])++decI s.place) (g||Qam s.place) _),Sl.mk rfl (by simp [hts])⟩
theorem chain11 {n0 p b0:Nat} {s:Stp} {d c:Value} {m0 m:Mem} {out:List UInt8} {g:Bool} {ts:List Value} (hts:ts.length=223) (g32:gx ts 26=.string ⟨⟨Qay 11⟩⟩) (hL:LI n0 p b0 11 s d c m0 out g m) (hp:Qb4 m0) (hp0:0<n0) (hR:s.R)
  (hd:SlOld n0 m0 d s.data.length (u8s s.data)) (hc:SlOld n0 m0 c s.choices.length (i64s s.choices)) (hb:out.length+100*s.choices.length+20*s.data.length≤800000000) :
  wpX tb ⟨37,.normal,none⟩ Qbs ([.pointer (some ⟨p,0,none⟩),.agg ⟨Qaj 11⟩,.agg ⟨Qaa s d c⟩,undef,.pointer (some ⟨b0,0,none⟩),.pointer (some ⟨b0+1,0,none⟩)]++ts) [] m (fun e l' ds' m'=>e=.normal∧ds'=[]∧LI n0 p b0 11 s d c m0 (out++(fieldsOf 11).flatMap fun f=>f.text s) (g||Qao 11 s) m'∧Sl [.pointer (some ⟨p,0,none⟩),.agg ⟨Qaj 11⟩,.agg ⟨Qaa s d c⟩,undef,.pointer (some ⟨b0,0,none⟩),.pointer (some ⟨b0+1,0,none⟩)] 223 l'):=by
 have z0:(Qaa s d c)[0]? = some (.int .i64 s.kind):=rfl
 have z1:(Qaa s d c)[1]? = some (.int .i64 s.node):=rfl
 have z2:(Qaa s d c)[2]? = some (.int .i64 s.stream):=rfl
 have z3:(Qaa s d c)[3]? = some (.int .u64 s.time):=rfl
 have z4:(Qaa s d c)[4]? = some (.int .u64 s.life):=rfl
 have z6:(Qaa s d c)[6]? = some (.int .u64 s.seq):=rfl
 have z7:(Qaa s d c)[7]? = some (.int .i64 s.qc):=rfl
 have z8:(Qaa s d c)[8]? = some (.int .i64 s.qb):=rfl
 have z9:(Qaa s d c)[9]? = some (.int .i64 s.way):=rfl
 have z10:(Qaa s d c)[10]? = some (.int .i64 s.place):=rfl
 have z11:(Qaa s d c)[11]? = some (.int .i64 s.pos):=rfl
 have z12:(Qaa s d c)[12]? = some (.int .u32 s.mask):=rfl
 have z13:(Qaa s d c)[13]? = some (.int .u64 s.ticks):=rfl
 have z15:(Qaa s d c)[15]? = some (.int .i64 s.cursor):=rfl
 have z16:(Qaa s d c)[16]? = some (.int .u64 s.to):=rfl
 have z5:(Qaa s d c)[5]? = some d:=rfl
 have z14:(Qaa s d c)[14]? = some c:=rfl
 have hnx:=hL.nx
 unfold Qbs
 refine Qax ?_
 refine Qag hts g32 (by decide) fun ts hts g32=>?_
 refine Qag hts g32 (by decide) fun ts hts g32=>?_
 refine xseq ?_
 refine Qag hts g32 (by decide) fun ts hts g32=>?_
 refine Qag hts g32 (by decide) fun ts hts g32=>?_
 refine Qag hts g32 (by decide) fun ts hts g32=>?_
 refine Qca (v:=false) hts g32 (by decide) fun ts hts g32 gT=>xifG gT (fun h=>by cases h) fun _=>?_
 refine Qag hts g32 (by decide) fun ts hts g32=>?_
 refine Qag hts g32 (by decide) fun ts hts g32=>?_
 refine xseq ?_
 refine Qag hts g32 (by decide) fun ts hts g32=>?_
 refine Qag hts g32 (by decide) fun ts hts g32=>?_
 refine Qca (v:=true) hts g32 (by decide) fun ts hts g32 gT=>xifG gT (fun _=>?_) fun h=>by cases h
 refine Qb0 (PS:=fun l' ds' m'=>ds'=[]∧LI n0 p b0 11 s d c m0 (out++(if s.way=1 then [32,101,120,112,114,101,115,115] else [32,102,114,101,105,103,104,116])) (g) m'∧Sl [.pointer (some ⟨p,0,none⟩),.agg ⟨Qaj 11⟩,.agg ⟨Qaa s d c⟩,undef,.pointer (some ⟨b0,0,none⟩),.pointer (some ⟨b0+1,0,none⟩)] 223 l') ?_ ?_
 ·refine Qal fun Q' hQ=>?_
  simp [hts,hL.sb,z9]
  refine Qak (Qad (by decide)) (Qp7 hL.pr (by have l1:=Qac hR.stream;have l2:=Qac hR.qc;have l3:=Qac hR.place;have l4:=Qac hR.pos;have l5:=Qac hR.cursor;have l6:=Qab hR.time;have l7:=Qab hR.life;have l8:=Qab (z:=s.mask) ⟨hR.mask.1,by have:=hR.mask.2;omega⟩;have l9:=Qa6 s.data;have l11:=Qab hR.ticks;have l12:=Qab hR.seq;have l13:=Qab hR.to;have l14:=Qac hR.qb;have l10:=wayl s.way; (try simp only [Kla,Klc,Kln]);omega)) ?_ (fun ch m' h=>h.elim)
  rintro r m2 ⟨hP2,hK2⟩
  subst hQ
  exact⟨rfl,rfl,hL.keep hP2 hK2,Sl.mk rfl (by simp [hts])⟩
 clear hL hts
 rintro l ds m ⟨rfl,hL,⟨ts,hts,rfl⟩⟩
 refine Qal fun Q' hQ=>?_
 simp [hts,hL.sb,z10]
 refine Qak (Qad (by decide)) (Qb5 hL.pr hL.nn (hp.old hL.old hp0) hp0 hR.place (by have l1:=Qac hR.stream;have l2:=Qac hR.qc;have l3:=Qac hR.place;have l4:=Qac hR.pos;have l5:=Qac hR.cursor;have l6:=Qab hR.time;have l7:=Qab hR.life;have l8:=Qab (z:=s.mask) ⟨hR.mask.1,by have:=hR.mask.2;omega⟩;have l9:=Qa6 s.data;have l11:=Qab hR.ticks;have l12:=Qab hR.seq;have l13:=Qab hR.to;have l14:=Qac hR.qb;have l10:=wayl s.way; (try simp only [Kla,Klc,Kln]);omega)) ?_ (fun ch m' h=>h.elim)
 rintro r m2 ⟨hP2,hK2⟩
 subst hQ
 exact⟨rfl,rfl,by simpa [fieldsOf,Fd.text,Fd.great,Qao,List.append_assoc,Bool.or_assoc] using (hL.keep hP2 hK2:LI n0 p b0 11 s d c m0 (out++(if s.way=1 then [32,101,120,112,114,101,115,115] else [32,102,114,101,105,103,104,116])++decI s.place) (g||Qam s.place) _),Sl.mk rfl (by simp [hts])⟩
theorem chain12 {n0 p b0:Nat} {s:Stp} {d c:Value} {m0 m:Mem} {out:List UInt8} {g:Bool} {ts:List Value} (hts:ts.length=223) (g32:gx ts 26=.string ⟨⟨Qay 12⟩⟩) (hL:LI n0 p b0 12 s d c m0 out g m) (hp:Qb4 m0) (hp0:0<n0) (hR:s.R)
  (hd:SlOld n0 m0 d s.data.length (u8s s.data)) (hc:SlOld n0 m0 c s.choices.length (i64s s.choices)) (hb:out.length+100*s.choices.length+20*s.data.length≤800000000) :
  wpX tb ⟨37,.normal,none⟩ Qbs ([.pointer (some ⟨p,0,none⟩),.agg ⟨Qaj 12⟩,.agg ⟨Qaa s d c⟩,undef,.pointer (some ⟨b0,0,none⟩),.pointer (some ⟨b0+1,0,none⟩)]++ts) [] m (fun e l' ds' m'=>e=.normal∧ds'=[]∧LI n0 p b0 12 s d c m0 (out++(fieldsOf 12).flatMap fun f=>f.text s) (g||Qao 12 s) m'∧Sl [.pointer (some ⟨p,0,none⟩),.agg ⟨Qaj 12⟩,.agg ⟨Qaa s d c⟩,undef,.pointer (some ⟨b0,0,none⟩),.pointer (some ⟨b0+1,0,none⟩)] 223 l'):=by
 have z0:(Qaa s d c)[0]? = some (.int .i64 s.kind):=rfl
 have z1:(Qaa s d c)[1]? = some (.int .i64 s.node):=rfl
 have z2:(Qaa s d c)[2]? = some (.int .i64 s.stream):=rfl
 have z3:(Qaa s d c)[3]? = some (.int .u64 s.time):=rfl
 have z4:(Qaa s d c)[4]? = some (.int .u64 s.life):=rfl
 have z6:(Qaa s d c)[6]? = some (.int .u64 s.seq):=rfl
 have z7:(Qaa s d c)[7]? = some (.int .i64 s.qc):=rfl
 have z8:(Qaa s d c)[8]? = some (.int .i64 s.qb):=rfl
 have z9:(Qaa s d c)[9]? = some (.int .i64 s.way):=rfl
 have z10:(Qaa s d c)[10]? = some (.int .i64 s.place):=rfl
 have z11:(Qaa s d c)[11]? = some (.int .i64 s.pos):=rfl
 have z12:(Qaa s d c)[12]? = some (.int .u32 s.mask):=rfl
 have z13:(Qaa s d c)[13]? = some (.int .u64 s.ticks):=rfl
 have z15:(Qaa s d c)[15]? = some (.int .i64 s.cursor):=rfl
 have z16:(Qaa s d c)[16]? = some (.int .u64 s.to):=rfl
 have z5:(Qaa s d c)[5]? = some d:=rfl
 have z14:(Qaa s d c)[14]? = some c:=rfl
 have hnx:=hL.nx
 unfold Qbs
 refine Qax ?_
 refine Qag hts g32 (by decide) fun ts hts g32=>?_
 refine Qag hts g32 (by decide) fun ts hts g32=>?_
 refine xseq ?_
 refine Qag hts g32 (by decide) fun ts hts g32=>?_
 refine Qag hts g32 (by decide) fun ts hts g32=>?_
 refine Qag hts g32 (by decide) fun ts hts g32=>?_
 refine Qca (v:=false) hts g32 (by decide) fun ts hts g32 gT=>xifG gT (fun h=>by cases h) fun _=>?_
 refine Qag hts g32 (by decide) fun ts hts g32=>?_
 refine Qag hts g32 (by decide) fun ts hts g32=>?_
 refine xseq ?_
 refine Qag hts g32 (by decide) fun ts hts g32=>?_
 refine Qag hts g32 (by decide) fun ts hts g32=>?_
 refine Qca (v:=false) hts g32 (by decide) fun ts hts g32 gT=>xifG gT (fun h=>by cases h) fun _=>?_
 refine Qex hts g32 (by decide) fun ts hts g32 gT=>?_
 refine Qb0 (PS:=fun l' ds' m'=>ds'=[]∧LI n0 p b0 12 s d c m0 (out++(if s.way=1 then [32,101,120,112,114,101,115,115] else [32,102,114,101,105,103,104,116])) (g) m'∧Sl [.pointer (some ⟨p,0,none⟩),.agg ⟨Qaj 12⟩,.agg ⟨Qaa s d c⟩,undef,.pointer (some ⟨b0,0,none⟩),.pointer (some ⟨b0+1,0,none⟩)] 223 l') ?_ ?_
 ·refine Qal fun Q' hQ=>?_
  simp [hts,hL.sb,z9]
  refine Qak (Qad (by decide)) (Qp7 hL.pr (by have l1:=Qac hR.stream;have l2:=Qac hR.qc;have l3:=Qac hR.place;have l4:=Qac hR.pos;have l5:=Qac hR.cursor;have l6:=Qab hR.time;have l7:=Qab hR.life;have l8:=Qab (z:=s.mask) ⟨hR.mask.1,by have:=hR.mask.2;omega⟩;have l9:=Qa6 s.data;have l11:=Qab hR.ticks;have l12:=Qab hR.seq;have l13:=Qab hR.to;have l14:=Qac hR.qb;have l10:=wayl s.way; (try simp only [Kla,Klc,Kln]);omega)) ?_ (fun ch m' h=>h.elim)
  rintro r m2 ⟨hP2,hK2⟩
  subst hQ
  exact⟨rfl,rfl,hL.keep hP2 hK2,Sl.mk rfl (by simp [hts])⟩
 clear hL hts
 rintro l ds m ⟨rfl,hL,⟨ts,hts,rfl⟩⟩
 refine Qb0 (PS:=fun l' ds' m'=>ds'=[]∧LI n0 p b0 12 s d c m0 (out++(if s.way=1 then [32,101,120,112,114,101,115,115] else [32,102,114,101,105,103,104,116])++decI s.place) (g||Qam s.place) m'∧Sl [.pointer (some ⟨p,0,none⟩),.agg ⟨Qaj 12⟩,.agg ⟨Qaa s d c⟩,undef,.pointer (some ⟨b0,0,none⟩),.pointer (some ⟨b0+1,0,none⟩)] 223 l') ?_ ?_
 ·refine Qal fun Q' hQ=>?_
  simp [hts,hL.sb,z10]
  refine Qak (Qad (by decide)) (Qb5 hL.pr hL.nn (hp.old hL.old hp0) hp0 hR.place (by have l1:=Qac hR.stream;have l2:=Qac hR.qc;have l3:=Qac hR.place;have l4:=Qac hR.pos;have l5:=Qac hR.cursor;have l6:=Qab hR.time;have l7:=Qab hR.life;have l8:=Qab (z:=s.mask) ⟨hR.mask.1,by have:=hR.mask.2;omega⟩;have l9:=Qa6 s.data;have l11:=Qab hR.ticks;have l12:=Qab hR.seq;have l13:=Qab hR.to;have l14:=Qac hR.qb;have l10:=wayl s.way; (try simp only [Kla,Klc,Kln]);omega)) ?_ (fun ch m' h=>h.elim)
  rintro r m2 ⟨hP2,hK2⟩
  subst hQ
  exact⟨rfl,rfl,hL.keep hP2 hK2,Sl.mk rfl (by simp [hts])⟩
 clear hL hts
 rintro l ds m ⟨rfl,hL,⟨ts,hts,rfl⟩⟩
 refine Qb0 (PS:=fun l' ds' m'=>ds'=[]∧LI n0 p b0 12 s d c m0 (out++(if s.way=1 then [32,101,120,112,114,101,115,115] else [32,102,114,101,105,103,104,116])++decI s.place++decI s.pos) (g||Qam s.place||Qam s.pos) m'∧Sl [.pointer (some ⟨p,0,none⟩),.agg ⟨Qaj 12⟩,.agg ⟨Qaa s d c⟩,undef,.pointer (some ⟨b0,0,none⟩),.pointer (some ⟨b0+1,0,none⟩)] 223 l') ?_ ?_
 ·refine Qal fun Q' hQ=>?_
  simp [hts,hL.sb,z11]
  refine Qak (Qad (by decide)) (Qb5 hL.pr hL.nn (hp.old hL.old hp0) hp0 hR.pos (by have l1:=Qac hR.stream;have l2:=Qac hR.qc;have l3:=Qac hR.place;have l4:=Qac hR.pos;have l5:=Qac hR.cursor;have l6:=Qab hR.time;have l7:=Qab hR.life;have l8:=Qab (z:=s.mask) ⟨hR.mask.1,by have:=hR.mask.2;omega⟩;have l9:=Qa6 s.data;have l11:=Qab hR.ticks;have l12:=Qab hR.seq;have l13:=Qab hR.to;have l14:=Qac hR.qb;have l10:=wayl s.way; (try simp only [Kla,Klc,Kln]);omega)) ?_ (fun ch m' h=>h.elim)
  rintro r m2 ⟨hP2,hK2⟩
  subst hQ
  exact⟨rfl,rfl,hL.keep hP2 hK2,Sl.mk rfl (by simp [hts])⟩
 clear hL hts
 rintro l ds m ⟨rfl,hL,⟨ts,hts,rfl⟩⟩
 refine xdrw 3 fun Q' hQ=>?_
 simp [hts,hL.pr.2.2,hL.sb,z3,z4,z5,z6,z12,z13,z16]
 rw [wru64 _ hR.mask.1 (by have:=hR.mask.2;omega)]
 refine Qak (Qad (by decide)) (Qfv (z:=s.mask) (hp.old hL.old hp0) ⟨hR.mask.1,by have:=hR.mask.2;omega⟩) ?_ (fun ch m' h=>h.elim)
 rintro r m2 ⟨rfl,rfl⟩
 simp [hts,hL.pr.2.2,hL.sb,z3,z4,z5,z6,z12,z13,z16]
 repeat (rw [Qf7 _ _ _ _ _ (by have l1:=Qac hR.stream;have l2:=Qac hR.qc;have l3:=Qac hR.place;have l4:=Qac hR.pos;have l5:=Qac hR.cursor;have l6:=Qab hR.time;have l7:=Qab hR.life;have l8:=Qab (z:=s.mask) ⟨hR.mask.1,by have:=hR.mask.2;omega⟩;have l9:=Qa6 s.data;have l11:=Qab hR.ticks;have l12:=Qab hR.seq;have l13:=Qab hR.to;have l14:=Qac hR.qb;have l10:=wayl s.way; (try simp only [Kla,Klc,Kln]);omega)];simp [hts,hL.pr.2.2,hL.sb,z3,z4,z5,z6,z12,z13,z16])
 subst hQ
 exact⟨rfl,rfl,by simpa [fieldsOf,Fd.text,Fd.great,Qao,List.append_assoc,Bool.or_assoc] using (Qrh hL:LI n0 p b0 12 s d c m0 (out++(if s.way=1 then [32,101,120,112,114,101,115,115] else [32,102,114,101,105,103,104,116])++decI s.place++decI s.pos++decU s.mask) (g||Qam s.place||Qam s.pos) _),Sl.mk rfl (by simp [hts])⟩
theorem chain13 {n0 p b0:Nat} {s:Stp} {d c:Value} {m0 m:Mem} {out:List UInt8} {g:Bool} {ts:List Value} (hts:ts.length=223) (g32:gx ts 26=.string ⟨⟨Qay 13⟩⟩) (hL:LI n0 p b0 13 s d c m0 out g m) (hp:Qb4 m0) (hp0:0<n0) (hR:s.R)
  (hd:SlOld n0 m0 d s.data.length (u8s s.data)) (hc:SlOld n0 m0 c s.choices.length (i64s s.choices)) (hb:out.length+100*s.choices.length+20*s.data.length≤800000000) :
  wpX tb ⟨37,.normal,none⟩ Qbs ([.pointer (some ⟨p,0,none⟩),.agg ⟨Qaj 13⟩,.agg ⟨Qaa s d c⟩,undef,.pointer (some ⟨b0,0,none⟩),.pointer (some ⟨b0+1,0,none⟩)]++ts) [] m (fun e l' ds' m'=>e=.normal∧ds'=[]∧LI n0 p b0 13 s d c m0 (out++(fieldsOf 13).flatMap fun f=>f.text s) (g||Qao 13 s) m'∧Sl [.pointer (some ⟨p,0,none⟩),.agg ⟨Qaj 13⟩,.agg ⟨Qaa s d c⟩,undef,.pointer (some ⟨b0,0,none⟩),.pointer (some ⟨b0+1,0,none⟩)] 223 l'):=by
 have z0:(Qaa s d c)[0]? = some (.int .i64 s.kind):=rfl
 have z1:(Qaa s d c)[1]? = some (.int .i64 s.node):=rfl
 have z2:(Qaa s d c)[2]? = some (.int .i64 s.stream):=rfl
 have z3:(Qaa s d c)[3]? = some (.int .u64 s.time):=rfl
 have z4:(Qaa s d c)[4]? = some (.int .u64 s.life):=rfl
 have z6:(Qaa s d c)[6]? = some (.int .u64 s.seq):=rfl
 have z7:(Qaa s d c)[7]? = some (.int .i64 s.qc):=rfl
 have z8:(Qaa s d c)[8]? = some (.int .i64 s.qb):=rfl
 have z9:(Qaa s d c)[9]? = some (.int .i64 s.way):=rfl
 have z10:(Qaa s d c)[10]? = some (.int .i64 s.place):=rfl
 have z11:(Qaa s d c)[11]? = some (.int .i64 s.pos):=rfl
 have z12:(Qaa s d c)[12]? = some (.int .u32 s.mask):=rfl
 have z13:(Qaa s d c)[13]? = some (.int .u64 s.ticks):=rfl
 have z15:(Qaa s d c)[15]? = some (.int .i64 s.cursor):=rfl
 have z16:(Qaa s d c)[16]? = some (.int .u64 s.to):=rfl
 have z5:(Qaa s d c)[5]? = some d:=rfl
 have z14:(Qaa s d c)[14]? = some c:=rfl
 have hnx:=hL.nx
 unfold Qbs
 refine Qax ?_
 refine Qag hts g32 (by decide) fun ts hts g32=>?_
 refine Qag hts g32 (by decide) fun ts hts g32=>?_
 refine xseq ?_
 refine Qag hts g32 (by decide) fun ts hts g32=>?_
 refine Qag hts g32 (by decide) fun ts hts g32=>?_
 refine Qag hts g32 (by decide) fun ts hts g32=>?_
 refine Qca (v:=false) hts g32 (by decide) fun ts hts g32 gT=>xifG gT (fun h=>by cases h) fun _=>?_
 refine Qag hts g32 (by decide) fun ts hts g32=>?_
 refine Qag hts g32 (by decide) fun ts hts g32=>?_
 refine xseq ?_
 refine Qag hts g32 (by decide) fun ts hts g32=>?_
 refine Qag hts g32 (by decide) fun ts hts g32=>?_
 refine Qca (v:=false) hts g32 (by decide) fun ts hts g32 gT=>xifG gT (fun h=>by cases h) fun _=>?_
 refine Qag hts g32 (by decide) fun ts hts g32=>?_
 refine Qex hts g32 (by decide) fun ts hts g32 gT=>?_
 refine Qal fun Q' hQ=>?_
 simp [hts,hL.sb,z11]
 refine Qak (Qad (by decide)) (Qb5 hL.pr hL.nn (hp.old hL.old hp0) hp0 hR.pos (by have l1:=Qac hR.stream;have l2:=Qac hR.qc;have l3:=Qac hR.place;have l4:=Qac hR.pos;have l5:=Qac hR.cursor;have l6:=Qab hR.time;have l7:=Qab hR.life;have l8:=Qab (z:=s.mask) ⟨hR.mask.1,by have:=hR.mask.2;omega⟩;have l9:=Qa6 s.data;have l11:=Qab hR.ticks;have l12:=Qab hR.seq;have l13:=Qab hR.to;have l14:=Qac hR.qb;have l10:=wayl s.way; (try simp only [Kla,Klc,Kln]);omega)) ?_ (fun ch m' h=>h.elim)
 rintro r m2 ⟨hP2,hK2⟩
 subst hQ
 exact⟨rfl,rfl,by simpa [fieldsOf,Fd.text,Fd.great,Qao,List.append_assoc,Bool.or_assoc] using (hL.keep hP2 hK2:LI n0 p b0 13 s d c m0 (out++decI s.pos) (g||Qam s.pos) _),Sl.mk rfl (by simp [hts])⟩
theorem chain14 {n0 p b0:Nat} {s:Stp} {d c:Value} {m0 m:Mem} {out:List UInt8} {g:Bool} {ts:List Value} (hts:ts.length=223) (g32:gx ts 26=.string ⟨⟨Qay 14⟩⟩) (hL:LI n0 p b0 14 s d c m0 out g m) (hp:Qb4 m0) (hp0:0<n0) (hR:s.R)
  (hd:SlOld n0 m0 d s.data.length (u8s s.data)) (hc:SlOld n0 m0 c s.choices.length (i64s s.choices)) (hb:out.length+100*s.choices.length+20*s.data.length≤800000000) :
  wpX tb ⟨37,.normal,none⟩ Qbs ([.pointer (some ⟨p,0,none⟩),.agg ⟨Qaj 14⟩,.agg ⟨Qaa s d c⟩,undef,.pointer (some ⟨b0,0,none⟩),.pointer (some ⟨b0+1,0,none⟩)]++ts) [] m (fun e l' ds' m'=>e=.normal∧ds'=[]∧LI n0 p b0 14 s d c m0 (out++(fieldsOf 14).flatMap fun f=>f.text s) (g||Qao 14 s) m'∧Sl [.pointer (some ⟨p,0,none⟩),.agg ⟨Qaj 14⟩,.agg ⟨Qaa s d c⟩,undef,.pointer (some ⟨b0,0,none⟩),.pointer (some ⟨b0+1,0,none⟩)] 223 l'):=by
 have z0:(Qaa s d c)[0]? = some (.int .i64 s.kind):=rfl
 have z1:(Qaa s d c)[1]? = some (.int .i64 s.node):=rfl
 have z2:(Qaa s d c)[2]? = some (.int .i64 s.stream):=rfl
 have z3:(Qaa s d c)[3]? = some (.int .u64 s.time):=rfl
 have z4:(Qaa s d c)[4]? = some (.int .u64 s.life):=rfl
 have z6:(Qaa s d c)[6]? = some (.int .u64 s.seq):=rfl
 have z7:(Qaa s d c)[7]? = some (.int .i64 s.qc):=rfl
 have z8:(Qaa s d c)[8]? = some (.int .i64 s.qb):=rfl
 have z9:(Qaa s d c)[9]? = some (.int .i64 s.way):=rfl
 have z10:(Qaa s d c)[10]? = some (.int .i64 s.place):=rfl
 have z11:(Qaa s d c)[11]? = some (.int .i64 s.pos):=rfl
 have z12:(Qaa s d c)[12]? = some (.int .u32 s.mask):=rfl
 have z13:(Qaa s d c)[13]? = some (.int .u64 s.ticks):=rfl
 have z15:(Qaa s d c)[15]? = some (.int .i64 s.cursor):=rfl
 have z16:(Qaa s d c)[16]? = some (.int .u64 s.to):=rfl
 have z5:(Qaa s d c)[5]? = some d:=rfl
 have z14:(Qaa s d c)[14]? = some c:=rfl
 have hnx:=hL.nx
 unfold Qbs
 refine Qax ?_
 refine Qag hts g32 (by decide) fun ts hts g32=>?_
 refine Qag hts g32 (by decide) fun ts hts g32=>?_
 refine xseq ?_
 refine Qag hts g32 (by decide) fun ts hts g32=>?_
 refine Qag hts g32 (by decide) fun ts hts g32=>?_
 refine Qag hts g32 (by decide) fun ts hts g32=>?_
 refine Qca (v:=false) hts g32 (by decide) fun ts hts g32 gT=>xifG gT (fun h=>by cases h) fun _=>?_
 refine Qag hts g32 (by decide) fun ts hts g32=>?_
 refine Qag hts g32 (by decide) fun ts hts g32=>?_
 refine xseq ?_
 refine Qag hts g32 (by decide) fun ts hts g32=>?_
 refine Qag hts g32 (by decide) fun ts hts g32=>?_
 refine Qca (v:=false) hts g32 (by decide) fun ts hts g32 gT=>xifG gT (fun h=>by cases h) fun _=>?_
 refine Qag hts g32 (by decide) fun ts hts g32=>?_
 refine Qag hts g32 (by decide) fun ts hts g32=>?_
 refine Qex hts g32 (by decide) fun ts hts g32 gT=>?_
 obtain⟨ac,cc,rfl⟩:=(hc.at (show n0≤m0.next by have:=hL.pb;have:=hL.pr.1;have:=hL.hb0;omega)).shape
 refine xsr fun Q' hQ=>?_
 simp [hts]
 subst hQ
 refine Qax (Qem (N:=s.choices.length) (I:=fun n l ds m'=>∃ k,n=s.choices.length-k∧k≤s.choices.length∧ds=[]∧LI n0 p b0 14 s d (.slice ac s.choices.length cc) m0 (out++(s.choices.take k).flatMap decI) (g||(s.choices.take k).any Qam) m'∧(∃ ts:List Value,ts.length=223∧l=[.pointer (some ⟨p,0,none⟩),.agg ⟨Qaj 14⟩,.agg ⟨Qaa s d (.slice ac s.choices.length cc)⟩,undef,.pointer (some ⟨b0,0,none⟩),.pointer (some ⟨b0+1,0,none⟩)]++ts∧gx ts 0=.int .i64 (k:Nat))) ?_ ?_)
 ·exact⟨0,by simp,by omega,rfl,by simpa using hL,⟨_,by simp [hts],rfl,by simp [hts]⟩⟩
 clear hL hts g32
 rintro n l ds m ⟨k,rfl,hk,rfl,hL,⟨ts,hts,rfl,g6⟩⟩
 have hlen:=Qwc (s.choices.take k) fun x hx=>hR.choices x (List.mem_of_mem_take hx)
 rw [List.length_take] at hlen
 refine xseq (xseq (Qal fun Q' hQ=>?_))
 simp [hts,hL.sb,z14,g6]
 subst hQ
 refine xif (v:=decide ((k:Int)<(s.choices.length:Int))) (by simp [hts]) (fun h=>Qbd ?_) (fun h=>Qdy ?_)
 ·simp only [decide_eq_true_eq] at h
  have hkl:k<s.choices.length:=by omega
  have q:(i64s s.choices)[k]? = some (.int .i64 s.choices[k]):=by rw [Qv3,Kge hkl];rfl
  obtain⟨b2,o,c2,h1,h5,h6,h2,h3⟩:=((hc.old hL.old).at hL.nn).load q
  simp only [Value.slice.injEq] at h1
  obtain⟨rfl,-,rfl⟩:=h1
  have ql:=h3 (t:=3) (s:=none) Ty.ti3 Ty.g3
  have htk:s.choices.take (k+1)=s.choices.take k++[s.choices[k]]:=by rw [List.take_add_one,Kge hkl];rfl
  have hzr:=hR.choices _ (List.getElem_mem hkl)
  generalize hz0:s.choices[k]=z at ql htk hzr
  refine xseq (Qax (Qal fun Q' hQ=>?_))
  simp [hts,hL.sb,z14,g6,ql,h,hkl]
  refine Qak (Qad (by decide)) (Qb5 hL.pr hL.nn (hp.old hL.old hp0) hp0 hzr (by simp only [Kla];omega)) ?_ (fun ch m' h=>h.elim)
  rintro r m2 ⟨hP2,hK2⟩
  subst hQ
  refine Qal fun Q' hQ=>?_
  simp [hts,g6]
  rw [wr64 _ (by omega) (by omega)]
  subst hQ
  refine⟨s.choices.length-(k+1),by omega,k+1,rfl,by omega,rfl,?_,⟨_,by simp [hts],rfl,by simp [hts]⟩⟩
  rw [htk]
  exact hL.keep (by simpa [Bool.or_assoc] using hP2) hK2
 ·simp only [decide_eq_false_iff_not] at h
  obtain rfl:k=s.choices.length:=by omega
  rw [List.take_length] at hL
  exact⟨rfl,rfl,by simpa [fieldsOf,Fd.text,Fd.great,Qao] using hL,Sl.mk rfl (by simp [hts])⟩
theorem chain15 {n0 p b0:Nat} {s:Stp} {d c:Value} {m0 m:Mem} {out:List UInt8} {g:Bool} {ts:List Value} (hts:ts.length=223) (g32:gx ts 26=.string ⟨⟨Qay 15⟩⟩) (hL:LI n0 p b0 15 s d c m0 out g m) (hp:Qb4 m0) (hp0:0<n0) (hR:s.R)
  (hd:SlOld n0 m0 d s.data.length (u8s s.data)) (hc:SlOld n0 m0 c s.choices.length (i64s s.choices)) (hb:out.length+100*s.choices.length+20*s.data.length≤800000000) :
  wpX tb ⟨37,.normal,none⟩ Qbs ([.pointer (some ⟨p,0,none⟩),.agg ⟨Qaj 15⟩,.agg ⟨Qaa s d c⟩,undef,.pointer (some ⟨b0,0,none⟩),.pointer (some ⟨b0+1,0,none⟩)]++ts) [] m (fun e l' ds' m'=>e=.normal∧ds'=[]∧LI n0 p b0 15 s d c m0 (out++(fieldsOf 15).flatMap fun f=>f.text s) (g||Qao 15 s) m'∧Sl [.pointer (some ⟨p,0,none⟩),.agg ⟨Qaj 15⟩,.agg ⟨Qaa s d c⟩,undef,.pointer (some ⟨b0,0,none⟩),.pointer (some ⟨b0+1,0,none⟩)] 223 l'):=by
 have z0:(Qaa s d c)[0]? = some (.int .i64 s.kind):=rfl
 have z1:(Qaa s d c)[1]? = some (.int .i64 s.node):=rfl
 have z2:(Qaa s d c)[2]? = some (.int .i64 s.stream):=rfl
 have z3:(Qaa s d c)[3]? = some (.int .u64 s.time):=rfl
 have z4:(Qaa s d c)[4]? = some (.int .u64 s.life):=rfl
 have z6:(Qaa s d c)[6]? = some (.int .u64 s.seq):=rfl
 have z7:(Qaa s d c)[7]? = some (.int .i64 s.qc):=rfl
 have z8:(Qaa s d c)[8]? = some (.int .i64 s.qb):=rfl
 have z9:(Qaa s d c)[9]? = some (.int .i64 s.way):=rfl
 have z10:(Qaa s d c)[10]? = some (.int .i64 s.place):=rfl
 have z11:(Qaa s d c)[11]? = some (.int .i64 s.pos):=rfl
 have z12:(Qaa s d c)[12]? = some (.int .u32 s.mask):=rfl
 have z13:(Qaa s d c)[13]? = some (.int .u64 s.ticks):=rfl
 have z15:(Qaa s d c)[15]? = some (.int .i64 s.cursor):=rfl
 have z16:(Qaa s d c)[16]? = some (.int .u64 s.to):=rfl
 have z5:(Qaa s d c)[5]? = some d:=rfl
 have z14:(Qaa s d c)[14]? = some c:=rfl
 have hnx:=hL.nx
 unfold Qbs
 refine Qax ?_
 refine Qag hts g32 (by decide) fun ts hts g32=>?_
 refine Qag hts g32 (by decide) fun ts hts g32=>?_
 refine xseq ?_
 refine Qag hts g32 (by decide) fun ts hts g32=>?_
 refine Qag hts g32 (by decide) fun ts hts g32=>?_
 refine Qag hts g32 (by decide) fun ts hts g32=>?_
 refine Qca (v:=false) hts g32 (by decide) fun ts hts g32 gT=>xifG gT (fun h=>by cases h) fun _=>?_
 refine Qag hts g32 (by decide) fun ts hts g32=>?_
 refine Qag hts g32 (by decide) fun ts hts g32=>?_
 refine xseq ?_
 refine Qag hts g32 (by decide) fun ts hts g32=>?_
 refine Qag hts g32 (by decide) fun ts hts g32=>?_
 refine Qca (v:=false) hts g32 (by decide) fun ts hts g32 gT=>xifG gT (fun h=>by cases h) fun _=>?_
 refine Qag hts g32 (by decide) fun ts hts g32=>?_
 refine Qag hts g32 (by decide) fun ts hts g32=>?_
 refine Qag hts g32 (by decide) fun ts hts g32=>?_
 refine xseq ?_
 refine Qag hts g32 (by decide) fun ts hts g32=>?_
 refine Qag hts g32 (by decide) fun ts hts g32=>?_
 refine Qag hts g32 (by decide) fun ts hts g32=>?_
 refine Qca (v:=false) hts g32 (by decide) fun ts hts g32 gT=>xifG gT (fun h=>by cases h) fun _=>?_
 refine Qag hts g32 (by decide) fun ts hts g32=>?_
 refine Qag hts g32 (by decide) fun ts hts g32=>?_
 refine Qbd ?_
 exact⟨rfl,rfl,by simpa [fieldsOf,Fd.text,Fd.great,Qao,List.append_assoc,Bool.or_assoc] using hL,Sl.mk rfl (by simp [hts])⟩
theorem chain16 {n0 p b0:Nat} {s:Stp} {d c:Value} {m0 m:Mem} {out:List UInt8} {g:Bool} {ts:List Value} (hts:ts.length=223) (g32:gx ts 26=.string ⟨⟨Qay 16⟩⟩) (hL:LI n0 p b0 16 s d c m0 out g m) (hp:Qb4 m0) (hp0:0<n0) (hR:s.R)
  (hd:SlOld n0 m0 d s.data.length (u8s s.data)) (hc:SlOld n0 m0 c s.choices.length (i64s s.choices)) (hb:out.length+100*s.choices.length+20*s.data.length≤800000000) :
  wpX tb ⟨37,.normal,none⟩ Qbs ([.pointer (some ⟨p,0,none⟩),.agg ⟨Qaj 16⟩,.agg ⟨Qaa s d c⟩,undef,.pointer (some ⟨b0,0,none⟩),.pointer (some ⟨b0+1,0,none⟩)]++ts) [] m (fun e l' ds' m'=>e=.normal∧ds'=[]∧LI n0 p b0 16 s d c m0 (out++(fieldsOf 16).flatMap fun f=>f.text s) (g||Qao 16 s) m'∧Sl [.pointer (some ⟨p,0,none⟩),.agg ⟨Qaj 16⟩,.agg ⟨Qaa s d c⟩,undef,.pointer (some ⟨b0,0,none⟩),.pointer (some ⟨b0+1,0,none⟩)] 223 l'):=by
 have z0:(Qaa s d c)[0]? = some (.int .i64 s.kind):=rfl
 have z1:(Qaa s d c)[1]? = some (.int .i64 s.node):=rfl
 have z2:(Qaa s d c)[2]? = some (.int .i64 s.stream):=rfl
 have z3:(Qaa s d c)[3]? = some (.int .u64 s.time):=rfl
 have z4:(Qaa s d c)[4]? = some (.int .u64 s.life):=rfl
 have z6:(Qaa s d c)[6]? = some (.int .u64 s.seq):=rfl
 have z7:(Qaa s d c)[7]? = some (.int .i64 s.qc):=rfl
 have z8:(Qaa s d c)[8]? = some (.int .i64 s.qb):=rfl
 have z9:(Qaa s d c)[9]? = some (.int .i64 s.way):=rfl
 have z10:(Qaa s d c)[10]? = some (.int .i64 s.place):=rfl
 have z11:(Qaa s d c)[11]? = some (.int .i64 s.pos):=rfl
 have z12:(Qaa s d c)[12]? = some (.int .u32 s.mask):=rfl
 have z13:(Qaa s d c)[13]? = some (.int .u64 s.ticks):=rfl
 have z15:(Qaa s d c)[15]? = some (.int .i64 s.cursor):=rfl
 have z16:(Qaa s d c)[16]? = some (.int .u64 s.to):=rfl
 have z5:(Qaa s d c)[5]? = some d:=rfl
 have z14:(Qaa s d c)[14]? = some c:=rfl
 have hnx:=hL.nx
 unfold Qbs
 refine Qax ?_
 refine Qag hts g32 (by decide) fun ts hts g32=>?_
 refine Qag hts g32 (by decide) fun ts hts g32=>?_
 refine xseq ?_
 refine Qag hts g32 (by decide) fun ts hts g32=>?_
 refine Qag hts g32 (by decide) fun ts hts g32=>?_
 refine Qag hts g32 (by decide) fun ts hts g32=>?_
 refine Qca (v:=true) hts g32 (by decide) fun ts hts g32 gT=>xifG gT (fun _=>?_) fun h=>by cases h
 refine Qal fun Q' hQ=>?_
 simp [hts,hL.sb,z2]
 refine Qak (Qad (by decide)) (Qb5 hL.pr hL.nn (hp.old hL.old hp0) hp0 hR.stream (by have l1:=Qac hR.stream;have l2:=Qac hR.qc;have l3:=Qac hR.place;have l4:=Qac hR.pos;have l5:=Qac hR.cursor;have l6:=Qab hR.time;have l7:=Qab hR.life;have l8:=Qab (z:=s.mask) ⟨hR.mask.1,by have:=hR.mask.2;omega⟩;have l9:=Qa6 s.data;have l11:=Qab hR.ticks;have l12:=Qab hR.seq;have l13:=Qab hR.to;have l14:=Qac hR.qb;have l10:=wayl s.way; (try simp only [Kla,Klc,Kln]);omega)) ?_ (fun ch m' h=>h.elim)
 rintro r m2 ⟨hP2,hK2⟩
 subst hQ
 exact⟨rfl,rfl,by simpa [fieldsOf,Fd.text,Fd.great,Qao,List.append_assoc,Bool.or_assoc] using (hL.keep hP2 hK2:LI n0 p b0 16 s d c m0 (out++decI s.stream) (g||Qam s.stream) _),Sl.mk rfl (by simp [hts])⟩
theorem chain17 {n0 p b0:Nat} {s:Stp} {d c:Value} {m0 m:Mem} {out:List UInt8} {g:Bool} {ts:List Value} (hts:ts.length=223) (g32:gx ts 26=.string ⟨⟨Qay 17⟩⟩) (hL:LI n0 p b0 17 s d c m0 out g m) (hp:Qb4 m0) (hp0:0<n0) (hR:s.R)
  (hd:SlOld n0 m0 d s.data.length (u8s s.data)) (hc:SlOld n0 m0 c s.choices.length (i64s s.choices)) (hb:out.length+100*s.choices.length+20*s.data.length≤800000000) :
  wpX tb ⟨37,.normal,none⟩ Qbs ([.pointer (some ⟨p,0,none⟩),.agg ⟨Qaj 17⟩,.agg ⟨Qaa s d c⟩,undef,.pointer (some ⟨b0,0,none⟩),.pointer (some ⟨b0+1,0,none⟩)]++ts) [] m (fun e l' ds' m'=>e=.normal∧ds'=[]∧LI n0 p b0 17 s d c m0 (out++(fieldsOf 17).flatMap fun f=>f.text s) (g||Qao 17 s) m'∧Sl [.pointer (some ⟨p,0,none⟩),.agg ⟨Qaj 17⟩,.agg ⟨Qaa s d c⟩,undef,.pointer (some ⟨b0,0,none⟩),.pointer (some ⟨b0+1,0,none⟩)] 223 l'):=by
 have z0:(Qaa s d c)[0]? = some (.int .i64 s.kind):=rfl
 have z1:(Qaa s d c)[1]? = some (.int .i64 s.node):=rfl
 have z2:(Qaa s d c)[2]? = some (.int .i64 s.stream):=rfl
 have z3:(Qaa s d c)[3]? = some (.int .u64 s.time):=rfl
 have z4:(Qaa s d c)[4]? = some (.int .u64 s.life):=rfl
 have z6:(Qaa s d c)[6]? = some (.int .u64 s.seq):=rfl
 have z7:(Qaa s d c)[7]? = some (.int .i64 s.qc):=rfl
 have z8:(Qaa s d c)[8]? = some (.int .i64 s.qb):=rfl
 have z9:(Qaa s d c)[9]? = some (.int .i64 s.way):=rfl
 have z10:(Qaa s d c)[10]? = some (.int .i64 s.place):=rfl
 have z11:(Qaa s d c)[11]? = some (.int .i64 s.pos):=rfl
 have z12:(Qaa s d c)[12]? = some (.int .u32 s.mask):=rfl
 have z13:(Qaa s d c)[13]? = some (.int .u64 s.ticks):=rfl
 have z15:(Qaa s d c)[15]? = some (.int .i64 s.cursor):=rfl
 have z16:(Qaa s d c)[16]? = some (.int .u64 s.to):=rfl
 have z5:(Qaa s d c)[5]? = some d:=rfl
 have z14:(Qaa s d c)[14]? = some c:=rfl
 have hnx:=hL.nx
 unfold Qbs
 refine Qax ?_
 refine Qag hts g32 (by decide) fun ts hts g32=>?_
 refine Qag hts g32 (by decide) fun ts hts g32=>?_
 refine xseq ?_
 refine Qag hts g32 (by decide) fun ts hts g32=>?_
 refine Qag hts g32 (by decide) fun ts hts g32=>?_
 refine Qag hts g32 (by decide) fun ts hts g32=>?_
 refine Qca (v:=false) hts g32 (by decide) fun ts hts g32 gT=>xifG gT (fun h=>by cases h) fun _=>?_
 refine Qag hts g32 (by decide) fun ts hts g32=>?_
 refine Qag hts g32 (by decide) fun ts hts g32=>?_
 refine xseq ?_
 refine Qag hts g32 (by decide) fun ts hts g32=>?_
 refine Qag hts g32 (by decide) fun ts hts g32=>?_
 refine Qca (v:=false) hts g32 (by decide) fun ts hts g32 gT=>xifG gT (fun h=>by cases h) fun _=>?_
 refine Qag hts g32 (by decide) fun ts hts g32=>?_
 refine Qag hts g32 (by decide) fun ts hts g32=>?_
 refine Qag hts g32 (by decide) fun ts hts g32=>?_
 refine xseq ?_
 refine Qex hts g32 (by decide) fun ts hts g32 gT=>?_
 refine Qbd (xifG gT (fun _=>?_) fun h=>by cases h)
 refine Qal fun Q' hQ=>?_
 simp [hts,hL.sb,z15]
 refine Qak (Qad (by decide)) (Qb5 hL.pr hL.nn (hp.old hL.old hp0) hp0 hR.cursor (by have l1:=Qac hR.stream;have l2:=Qac hR.qc;have l3:=Qac hR.place;have l4:=Qac hR.pos;have l5:=Qac hR.cursor;have l6:=Qab hR.time;have l7:=Qab hR.life;have l8:=Qab (z:=s.mask) ⟨hR.mask.1,by have:=hR.mask.2;omega⟩;have l9:=Qa6 s.data;have l11:=Qab hR.ticks;have l12:=Qab hR.seq;have l13:=Qab hR.to;have l14:=Qac hR.qb;have l10:=wayl s.way; (try simp only [Kla,Klc,Kln]);omega)) ?_ (fun ch m' h=>h.elim)
 rintro r m2 ⟨hP2,hK2⟩
 subst hQ
 exact⟨rfl,rfl,by simpa [fieldsOf,Fd.text,Fd.great,Qao,List.append_assoc,Bool.or_assoc] using (hL.keep hP2 hK2:LI n0 p b0 17 s d c m0 (out++decI s.cursor) (g||Qam s.cursor) _),Sl.mk rfl (by simp [hts])⟩
theorem chain18 {n0 p b0:Nat} {s:Stp} {d c:Value} {m0 m:Mem} {out:List UInt8} {g:Bool} {ts:List Value} (hts:ts.length=223) (g32:gx ts 26=.string ⟨⟨Qay 18⟩⟩) (hL:LI n0 p b0 18 s d c m0 out g m) (hp:Qb4 m0) (hp0:0<n0) (hR:s.R)
  (hd:SlOld n0 m0 d s.data.length (u8s s.data)) (hc:SlOld n0 m0 c s.choices.length (i64s s.choices)) (hb:out.length+100*s.choices.length+20*s.data.length≤800000000) :
  wpX tb ⟨37,.normal,none⟩ Qbs ([.pointer (some ⟨p,0,none⟩),.agg ⟨Qaj 18⟩,.agg ⟨Qaa s d c⟩,undef,.pointer (some ⟨b0,0,none⟩),.pointer (some ⟨b0+1,0,none⟩)]++ts) [] m (fun e l' ds' m'=>e=.normal∧ds'=[]∧LI n0 p b0 18 s d c m0 (out++(fieldsOf 18).flatMap fun f=>f.text s) (g||Qao 18 s) m'∧Sl [.pointer (some ⟨p,0,none⟩),.agg ⟨Qaj 18⟩,.agg ⟨Qaa s d c⟩,undef,.pointer (some ⟨b0,0,none⟩),.pointer (some ⟨b0+1,0,none⟩)] 223 l'):=by
 have z0:(Qaa s d c)[0]? = some (.int .i64 s.kind):=rfl
 have z1:(Qaa s d c)[1]? = some (.int .i64 s.node):=rfl
 have z2:(Qaa s d c)[2]? = some (.int .i64 s.stream):=rfl
 have z3:(Qaa s d c)[3]? = some (.int .u64 s.time):=rfl
 have z4:(Qaa s d c)[4]? = some (.int .u64 s.life):=rfl
 have z6:(Qaa s d c)[6]? = some (.int .u64 s.seq):=rfl
 have z7:(Qaa s d c)[7]? = some (.int .i64 s.qc):=rfl
 have z8:(Qaa s d c)[8]? = some (.int .i64 s.qb):=rfl
 have z9:(Qaa s d c)[9]? = some (.int .i64 s.way):=rfl
 have z10:(Qaa s d c)[10]? = some (.int .i64 s.place):=rfl
 have z11:(Qaa s d c)[11]? = some (.int .i64 s.pos):=rfl
 have z12:(Qaa s d c)[12]? = some (.int .u32 s.mask):=rfl
 have z13:(Qaa s d c)[13]? = some (.int .u64 s.ticks):=rfl
 have z15:(Qaa s d c)[15]? = some (.int .i64 s.cursor):=rfl
 have z16:(Qaa s d c)[16]? = some (.int .u64 s.to):=rfl
 have z5:(Qaa s d c)[5]? = some d:=rfl
 have z14:(Qaa s d c)[14]? = some c:=rfl
 have hnx:=hL.nx
 unfold Qbs
 refine Qax ?_
 refine Qag hts g32 (by decide) fun ts hts g32=>?_
 refine Qag hts g32 (by decide) fun ts hts g32=>?_
 refine xseq ?_
 refine Qag hts g32 (by decide) fun ts hts g32=>?_
 refine Qag hts g32 (by decide) fun ts hts g32=>?_
 refine Qag hts g32 (by decide) fun ts hts g32=>?_
 refine Qca (v:=false) hts g32 (by decide) fun ts hts g32 gT=>xifG gT (fun h=>by cases h) fun _=>?_
 refine Qag hts g32 (by decide) fun ts hts g32=>?_
 refine Qag hts g32 (by decide) fun ts hts g32=>?_
 refine xseq ?_
 refine Qag hts g32 (by decide) fun ts hts g32=>?_
 refine Qag hts g32 (by decide) fun ts hts g32=>?_
 refine Qca (v:=false) hts g32 (by decide) fun ts hts g32 gT=>xifG gT (fun h=>by cases h) fun _=>?_
 refine Qag hts g32 (by decide) fun ts hts g32=>?_
 refine Qag hts g32 (by decide) fun ts hts g32=>?_
 refine Qag hts g32 (by decide) fun ts hts g32=>?_
 refine xseq ?_
 refine Qag hts g32 (by decide) fun ts hts g32=>?_
 refine Qag hts g32 (by decide) fun ts hts g32=>?_
 refine Qag hts g32 (by decide) fun ts hts g32=>?_
 refine Qca (v:=false) hts g32 (by decide) fun ts hts g32 gT=>xifG gT (fun h=>by cases h) fun _=>?_
 refine Qex hts g32 (by decide) fun ts hts g32 gT=>?_
 refine Qb0 (PS:=fun l' ds' m'=>ds'=[]∧LI n0 p b0 18 s d c m0 (out++decI s.cursor) (g||Qam s.cursor) m'∧Sl [.pointer (some ⟨p,0,none⟩),.agg ⟨Qaj 18⟩,.agg ⟨Qaa s d c⟩,undef,.pointer (some ⟨b0,0,none⟩),.pointer (some ⟨b0+1,0,none⟩)] 223 l') ?_ ?_
 ·refine Qal fun Q' hQ=>?_
  simp [hts,hL.sb,z15]
  refine Qak (Qad (by decide)) (Qb5 hL.pr hL.nn (hp.old hL.old hp0) hp0 hR.cursor (by have l1:=Qac hR.stream;have l2:=Qac hR.qc;have l3:=Qac hR.place;have l4:=Qac hR.pos;have l5:=Qac hR.cursor;have l6:=Qab hR.time;have l7:=Qab hR.life;have l8:=Qab (z:=s.mask) ⟨hR.mask.1,by have:=hR.mask.2;omega⟩;have l9:=Qa6 s.data;have l11:=Qab hR.ticks;have l12:=Qab hR.seq;have l13:=Qab hR.to;have l14:=Qac hR.qb;have l10:=wayl s.way; (try simp only [Kla,Klc,Kln]);omega)) ?_ (fun ch m' h=>h.elim)
  rintro r m2 ⟨hP2,hK2⟩
  subst hQ
  exact⟨rfl,rfl,hL.keep hP2 hK2,Sl.mk rfl (by simp [hts])⟩
 clear hL hts
 rintro l ds m ⟨rfl,hL,⟨ts,hts,rfl⟩⟩
 refine xdrw 3 fun Q' hQ=>?_
 simp [hts,hL.pr.2.2,hL.sb,z3,z4,z5,z6,z12,z13,z16]
 refine Qak (Qad (by decide)) (Qfv (z:=s.time) (hp.old hL.old hp0) hR.time) ?_ (fun ch m' h=>h.elim)
 rintro r m2 ⟨rfl,rfl⟩
 simp [hts,hL.pr.2.2,hL.sb,z3,z4,z5,z6,z12,z13,z16]
 repeat (rw [Qf7 _ _ _ _ _ (by have l1:=Qac hR.stream;have l2:=Qac hR.qc;have l3:=Qac hR.place;have l4:=Qac hR.pos;have l5:=Qac hR.cursor;have l6:=Qab hR.time;have l7:=Qab hR.life;have l8:=Qab (z:=s.mask) ⟨hR.mask.1,by have:=hR.mask.2;omega⟩;have l9:=Qa6 s.data;have l11:=Qab hR.ticks;have l12:=Qab hR.seq;have l13:=Qab hR.to;have l14:=Qac hR.qb;have l10:=wayl s.way; (try simp only [Kla,Klc,Kln]);omega)];simp [hts,hL.pr.2.2,hL.sb,z3,z4,z5,z6,z12,z13,z16])
 subst hQ
 exact⟨rfl,rfl,by simpa [fieldsOf,Fd.text,Fd.great,Qao,List.append_assoc,Bool.or_assoc] using (Qrh hL:LI n0 p b0 18 s d c m0 (out++decI s.cursor++decU s.time) (g||Qam s.cursor) _),Sl.mk rfl (by simp [hts])⟩
theorem chain19 {n0 p b0:Nat} {s:Stp} {d c:Value} {m0 m:Mem} {out:List UInt8} {g:Bool} {ts:List Value} (hts:ts.length=223) (g32:gx ts 26=.string ⟨⟨Qay 19⟩⟩) (hL:LI n0 p b0 19 s d c m0 out g m) (hp:Qb4 m0) (hp0:0<n0) (hR:s.R)
  (hd:SlOld n0 m0 d s.data.length (u8s s.data)) (hc:SlOld n0 m0 c s.choices.length (i64s s.choices)) (hb:out.length+100*s.choices.length+20*s.data.length≤800000000) :
  wpX tb ⟨37,.normal,none⟩ Qbs ([.pointer (some ⟨p,0,none⟩),.agg ⟨Qaj 19⟩,.agg ⟨Qaa s d c⟩,undef,.pointer (some ⟨b0,0,none⟩),.pointer (some ⟨b0+1,0,none⟩)]++ts) [] m (fun e l' ds' m'=>e=.normal∧ds'=[]∧LI n0 p b0 19 s d c m0 (out++(fieldsOf 19).flatMap fun f=>f.text s) (g||Qao 19 s) m'∧Sl [.pointer (some ⟨p,0,none⟩),.agg ⟨Qaj 19⟩,.agg ⟨Qaa s d c⟩,undef,.pointer (some ⟨b0,0,none⟩),.pointer (some ⟨b0+1,0,none⟩)] 223 l'):=by
 have z0:(Qaa s d c)[0]? = some (.int .i64 s.kind):=rfl
 have z1:(Qaa s d c)[1]? = some (.int .i64 s.node):=rfl
 have z2:(Qaa s d c)[2]? = some (.int .i64 s.stream):=rfl
 have z3:(Qaa s d c)[3]? = some (.int .u64 s.time):=rfl
 have z4:(Qaa s d c)[4]? = some (.int .u64 s.life):=rfl
 have z6:(Qaa s d c)[6]? = some (.int .u64 s.seq):=rfl
 have z7:(Qaa s d c)[7]? = some (.int .i64 s.qc):=rfl
 have z8:(Qaa s d c)[8]? = some (.int .i64 s.qb):=rfl
 have z9:(Qaa s d c)[9]? = some (.int .i64 s.way):=rfl
 have z10:(Qaa s d c)[10]? = some (.int .i64 s.place):=rfl
 have z11:(Qaa s d c)[11]? = some (.int .i64 s.pos):=rfl
 have z12:(Qaa s d c)[12]? = some (.int .u32 s.mask):=rfl
 have z13:(Qaa s d c)[13]? = some (.int .u64 s.ticks):=rfl
 have z15:(Qaa s d c)[15]? = some (.int .i64 s.cursor):=rfl
 have z16:(Qaa s d c)[16]? = some (.int .u64 s.to):=rfl
 have z5:(Qaa s d c)[5]? = some d:=rfl
 have z14:(Qaa s d c)[14]? = some c:=rfl
 have hnx:=hL.nx
 unfold Qbs
 refine Qax ?_
 refine Qag hts g32 (by decide) fun ts hts g32=>?_
 refine Qag hts g32 (by decide) fun ts hts g32=>?_
 refine xseq ?_
 refine Qag hts g32 (by decide) fun ts hts g32=>?_
 refine Qag hts g32 (by decide) fun ts hts g32=>?_
 refine Qag hts g32 (by decide) fun ts hts g32=>?_
 refine Qca (v:=false) hts g32 (by decide) fun ts hts g32 gT=>xifG gT (fun h=>by cases h) fun _=>?_
 refine Qag hts g32 (by decide) fun ts hts g32=>?_
 refine Qag hts g32 (by decide) fun ts hts g32=>?_
 refine xseq ?_
 refine Qag hts g32 (by decide) fun ts hts g32=>?_
 refine Qag hts g32 (by decide) fun ts hts g32=>?_
 refine Qca (v:=false) hts g32 (by decide) fun ts hts g32 gT=>xifG gT (fun h=>by cases h) fun _=>?_
 refine Qag hts g32 (by decide) fun ts hts g32=>?_
 refine Qag hts g32 (by decide) fun ts hts g32=>?_
 refine Qag hts g32 (by decide) fun ts hts g32=>?_
 refine xseq ?_
 refine Qag hts g32 (by decide) fun ts hts g32=>?_
 refine Qex hts g32 (by decide) fun ts hts g32 gT=>?_
 refine Qbd (xifG gT (fun _=>?_) fun h=>by cases h)
 refine Qal fun Q' hQ=>?_
 simp [hts,hL.sb,z15]
 refine Qak (Qad (by decide)) (Qb5 hL.pr hL.nn (hp.old hL.old hp0) hp0 hR.cursor (by have l1:=Qac hR.stream;have l2:=Qac hR.qc;have l3:=Qac hR.place;have l4:=Qac hR.pos;have l5:=Qac hR.cursor;have l6:=Qab hR.time;have l7:=Qab hR.life;have l8:=Qab (z:=s.mask) ⟨hR.mask.1,by have:=hR.mask.2;omega⟩;have l9:=Qa6 s.data;have l11:=Qab hR.ticks;have l12:=Qab hR.seq;have l13:=Qab hR.to;have l14:=Qac hR.qb;have l10:=wayl s.way; (try simp only [Kla,Klc,Kln]);omega)) ?_ (fun ch m' h=>h.elim)
 rintro r m2 ⟨hP2,hK2⟩
 subst hQ
 exact⟨rfl,rfl,by simpa [fieldsOf,Fd.text,Fd.great,Qao,List.append_assoc,Bool.or_assoc] using (hL.keep hP2 hK2:LI n0 p b0 19 s d c m0 (out++decI s.cursor) (g||Qam s.cursor) _),Sl.mk rfl (by simp [hts])⟩
theorem chain20 {n0 p b0:Nat} {s:Stp} {d c:Value} {m0 m:Mem} {out:List UInt8} {g:Bool} {ts:List Value} (hts:ts.length=223) (g32:gx ts 26=.string ⟨⟨Qay 20⟩⟩) (hL:LI n0 p b0 20 s d c m0 out g m) (hp:Qb4 m0) (hp0:0<n0) (hR:s.R)
  (hd:SlOld n0 m0 d s.data.length (u8s s.data)) (hc:SlOld n0 m0 c s.choices.length (i64s s.choices)) (hb:out.length+100*s.choices.length+20*s.data.length≤800000000) :
  wpX tb ⟨37,.normal,none⟩ Qbs ([.pointer (some ⟨p,0,none⟩),.agg ⟨Qaj 20⟩,.agg ⟨Qaa s d c⟩,undef,.pointer (some ⟨b0,0,none⟩),.pointer (some ⟨b0+1,0,none⟩)]++ts) [] m (fun e l' ds' m'=>e=.normal∧ds'=[]∧LI n0 p b0 20 s d c m0 (out++(fieldsOf 20).flatMap fun f=>f.text s) (g||Qao 20 s) m'∧Sl [.pointer (some ⟨p,0,none⟩),.agg ⟨Qaj 20⟩,.agg ⟨Qaa s d c⟩,undef,.pointer (some ⟨b0,0,none⟩),.pointer (some ⟨b0+1,0,none⟩)] 223 l'):=by
 have z0:(Qaa s d c)[0]? = some (.int .i64 s.kind):=rfl
 have z1:(Qaa s d c)[1]? = some (.int .i64 s.node):=rfl
 have z2:(Qaa s d c)[2]? = some (.int .i64 s.stream):=rfl
 have z3:(Qaa s d c)[3]? = some (.int .u64 s.time):=rfl
 have z4:(Qaa s d c)[4]? = some (.int .u64 s.life):=rfl
 have z6:(Qaa s d c)[6]? = some (.int .u64 s.seq):=rfl
 have z7:(Qaa s d c)[7]? = some (.int .i64 s.qc):=rfl
 have z8:(Qaa s d c)[8]? = some (.int .i64 s.qb):=rfl
 have z9:(Qaa s d c)[9]? = some (.int .i64 s.way):=rfl
 have z10:(Qaa s d c)[10]? = some (.int .i64 s.place):=rfl
 have z11:(Qaa s d c)[11]? = some (.int .i64 s.pos):=rfl
 have z12:(Qaa s d c)[12]? = some (.int .u32 s.mask):=rfl
 have z13:(Qaa s d c)[13]? = some (.int .u64 s.ticks):=rfl
 have z15:(Qaa s d c)[15]? = some (.int .i64 s.cursor):=rfl
 have z16:(Qaa s d c)[16]? = some (.int .u64 s.to):=rfl
 have z5:(Qaa s d c)[5]? = some d:=rfl
 have z14:(Qaa s d c)[14]? = some c:=rfl
 have hnx:=hL.nx
 unfold Qbs
 refine Qax ?_
 refine Qag hts g32 (by decide) fun ts hts g32=>?_
 refine Qag hts g32 (by decide) fun ts hts g32=>?_
 refine xseq ?_
 refine Qag hts g32 (by decide) fun ts hts g32=>?_
 refine Qag hts g32 (by decide) fun ts hts g32=>?_
 refine Qag hts g32 (by decide) fun ts hts g32=>?_
 refine Qca (v:=false) hts g32 (by decide) fun ts hts g32 gT=>xifG gT (fun h=>by cases h) fun _=>?_
 refine Qag hts g32 (by decide) fun ts hts g32=>?_
 refine Qag hts g32 (by decide) fun ts hts g32=>?_
 refine xseq ?_
 refine Qag hts g32 (by decide) fun ts hts g32=>?_
 refine Qag hts g32 (by decide) fun ts hts g32=>?_
 refine Qca (v:=false) hts g32 (by decide) fun ts hts g32 gT=>xifG gT (fun h=>by cases h) fun _=>?_
 refine Qag hts g32 (by decide) fun ts hts g32=>?_
 refine Qag hts g32 (by decide) fun ts hts g32=>?_
 refine Qag hts g32 (by decide) fun ts hts g32=>?_
 refine xseq ?_
 refine Qag hts g32 (by decide) fun ts hts g32=>?_
 refine Qag hts g32 (by decide) fun ts hts g32=>?_
 refine Qex hts g32 (by decide) fun ts hts g32 gT=>?_
 refine Qbd (xifG gT (fun _=>?_) fun h=>by cases h)
 refine Qal fun Q' hQ=>?_
 simp [hts,hL.sb,z15]
 refine Qak (Qad (by decide)) (Qb5 hL.pr hL.nn (hp.old hL.old hp0) hp0 hR.cursor (by have l1:=Qac hR.stream;have l2:=Qac hR.qc;have l3:=Qac hR.place;have l4:=Qac hR.pos;have l5:=Qac hR.cursor;have l6:=Qab hR.time;have l7:=Qab hR.life;have l8:=Qab (z:=s.mask) ⟨hR.mask.1,by have:=hR.mask.2;omega⟩;have l9:=Qa6 s.data;have l11:=Qab hR.ticks;have l12:=Qab hR.seq;have l13:=Qab hR.to;have l14:=Qac hR.qb;have l10:=wayl s.way; (try simp only [Kla,Klc,Kln]);omega)) ?_ (fun ch m' h=>h.elim)
 rintro r m2 ⟨hP2,hK2⟩
 subst hQ
 exact⟨rfl,rfl,by simpa [fieldsOf,Fd.text,Fd.great,Qao,List.append_assoc,Bool.or_assoc] using (hL.keep hP2 hK2:LI n0 p b0 20 s d c m0 (out++decI s.cursor) (g||Qam s.cursor) _),Sl.mk rfl (by simp [hts])⟩
theorem chain21 {n0 p b0:Nat} {s:Stp} {d c:Value} {m0 m:Mem} {out:List UInt8} {g:Bool} {ts:List Value} (hts:ts.length=223) (g32:gx ts 26=.string ⟨⟨Qay 21⟩⟩) (hL:LI n0 p b0 21 s d c m0 out g m) (hp:Qb4 m0) (hp0:0<n0) (hR:s.R)
  (hd:SlOld n0 m0 d s.data.length (u8s s.data)) (hc:SlOld n0 m0 c s.choices.length (i64s s.choices)) (hb:out.length+100*s.choices.length+20*s.data.length≤800000000) :
  wpX tb ⟨37,.normal,none⟩ Qbs ([.pointer (some ⟨p,0,none⟩),.agg ⟨Qaj 21⟩,.agg ⟨Qaa s d c⟩,undef,.pointer (some ⟨b0,0,none⟩),.pointer (some ⟨b0+1,0,none⟩)]++ts) [] m (fun e l' ds' m'=>e=.normal∧ds'=[]∧LI n0 p b0 21 s d c m0 (out++(fieldsOf 21).flatMap fun f=>f.text s) (g||Qao 21 s) m'∧Sl [.pointer (some ⟨p,0,none⟩),.agg ⟨Qaj 21⟩,.agg ⟨Qaa s d c⟩,undef,.pointer (some ⟨b0,0,none⟩),.pointer (some ⟨b0+1,0,none⟩)] 223 l'):=by
 have z0:(Qaa s d c)[0]? = some (.int .i64 s.kind):=rfl
 have z1:(Qaa s d c)[1]? = some (.int .i64 s.node):=rfl
 have z2:(Qaa s d c)[2]? = some (.int .i64 s.stream):=rfl
 have z3:(Qaa s d c)[3]? = some (.int .u64 s.time):=rfl
 have z4:(Qaa s d c)[4]? = some (.int .u64 s.life):=rfl
 have z6:(Qaa s d c)[6]? = some (.int .u64 s.seq):=rfl
 have z7:(Qaa s d c)[7]? = some (.int .i64 s.qc):=rfl
 have z8:(Qaa s d c)[8]? = some (.int .i64 s.qb):=rfl
 have z9:(Qaa s d c)[9]? = some (.int .i64 s.way):=rfl
 have z10:(Qaa s d c)[10]? = some (.int .i64 s.place):=rfl
 have z11:(Qaa s d c)[11]? = some (.int .i64 s.pos):=rfl
 have z12:(Qaa s d c)[12]? = some (.int .u32 s.mask):=rfl
 have z13:(Qaa s d c)[13]? = some (.int .u64 s.ticks):=rfl
 have z15:(Qaa s d c)[15]? = some (.int .i64 s.cursor):=rfl
 have z16:(Qaa s d c)[16]? = some (.int .u64 s.to):=rfl
 have z5:(Qaa s d c)[5]? = some d:=rfl
 have z14:(Qaa s d c)[14]? = some c:=rfl
 have hnx:=hL.nx
 unfold Qbs
 refine Qax ?_
 refine Qag hts g32 (by decide) fun ts hts g32=>?_
 refine Qag hts g32 (by decide) fun ts hts g32=>?_
 refine xseq ?_
 refine Qag hts g32 (by decide) fun ts hts g32=>?_
 refine Qag hts g32 (by decide) fun ts hts g32=>?_
 refine Qag hts g32 (by decide) fun ts hts g32=>?_
 refine Qca (v:=false) hts g32 (by decide) fun ts hts g32 gT=>xifG gT (fun h=>by cases h) fun _=>?_
 refine Qag hts g32 (by decide) fun ts hts g32=>?_
 refine Qag hts g32 (by decide) fun ts hts g32=>?_
 refine xseq ?_
 refine Qag hts g32 (by decide) fun ts hts g32=>?_
 refine Qag hts g32 (by decide) fun ts hts g32=>?_
 refine Qca (v:=false) hts g32 (by decide) fun ts hts g32 gT=>xifG gT (fun h=>by cases h) fun _=>?_
 refine Qag hts g32 (by decide) fun ts hts g32=>?_
 refine Qag hts g32 (by decide) fun ts hts g32=>?_
 refine Qag hts g32 (by decide) fun ts hts g32=>?_
 refine xseq ?_
 refine Qag hts g32 (by decide) fun ts hts g32=>?_
 refine Qag hts g32 (by decide) fun ts hts g32=>?_
 refine Qag hts g32 (by decide) fun ts hts g32=>?_
 refine Qca (v:=true) hts g32 (by decide) fun ts hts g32 gT=>xifG gT (fun _=>?_) fun h=>by cases h
 refine Qal fun Q' hQ=>?_
 simp [hts,hL.sb,z15]
 refine Qak (Qad (by decide)) (Qb5 hL.pr hL.nn (hp.old hL.old hp0) hp0 hR.cursor (by have l1:=Qac hR.stream;have l2:=Qac hR.qc;have l3:=Qac hR.place;have l4:=Qac hR.pos;have l5:=Qac hR.cursor;have l6:=Qab hR.time;have l7:=Qab hR.life;have l8:=Qab (z:=s.mask) ⟨hR.mask.1,by have:=hR.mask.2;omega⟩;have l9:=Qa6 s.data;have l11:=Qab hR.ticks;have l12:=Qab hR.seq;have l13:=Qab hR.to;have l14:=Qac hR.qb;have l10:=wayl s.way; (try simp only [Kla,Klc,Kln]);omega)) ?_ (fun ch m' h=>h.elim)
 rintro r m2 ⟨hP2,hK2⟩
 subst hQ
 exact⟨rfl,rfl,by simpa [fieldsOf,Fd.text,Fd.great,Qao,List.append_assoc,Bool.or_assoc] using (hL.keep hP2 hK2:LI n0 p b0 21 s d c m0 (out++decI s.cursor) (g||Qam s.cursor) _),Sl.mk rfl (by simp [hts])⟩
theorem chain22 {n0 p b0:Nat} {s:Stp} {d c:Value} {m0 m:Mem} {out:List UInt8} {g:Bool} {ts:List Value} (hts:ts.length=223) (g32:gx ts 26=.string ⟨⟨Qay 22⟩⟩) (hL:LI n0 p b0 22 s d c m0 out g m) (hp:Qb4 m0) (hp0:0<n0) (hR:s.R)
  (hd:SlOld n0 m0 d s.data.length (u8s s.data)) (hc:SlOld n0 m0 c s.choices.length (i64s s.choices)) (hb:out.length+100*s.choices.length+20*s.data.length≤800000000) :
  wpX tb ⟨37,.normal,none⟩ Qbs ([.pointer (some ⟨p,0,none⟩),.agg ⟨Qaj 22⟩,.agg ⟨Qaa s d c⟩,undef,.pointer (some ⟨b0,0,none⟩),.pointer (some ⟨b0+1,0,none⟩)]++ts) [] m (fun e l' ds' m'=>e=.normal∧ds'=[]∧LI n0 p b0 22 s d c m0 (out++(fieldsOf 22).flatMap fun f=>f.text s) (g||Qao 22 s) m'∧Sl [.pointer (some ⟨p,0,none⟩),.agg ⟨Qaj 22⟩,.agg ⟨Qaa s d c⟩,undef,.pointer (some ⟨b0,0,none⟩),.pointer (some ⟨b0+1,0,none⟩)] 223 l'):=by
 have z0:(Qaa s d c)[0]? = some (.int .i64 s.kind):=rfl
 have z1:(Qaa s d c)[1]? = some (.int .i64 s.node):=rfl
 have z2:(Qaa s d c)[2]? = some (.int .i64 s.stream):=rfl
 have z3:(Qaa s d c)[3]? = some (.int .u64 s.time):=rfl
 have z4:(Qaa s d c)[4]? = some (.int .u64 s.life):=rfl
 have z6:(Qaa s d c)[6]? = some (.int .u64 s.seq):=rfl
 have z7:(Qaa s d c)[7]? = some (.int .i64 s.qc):=rfl
 have z8:(Qaa s d c)[8]? = some (.int .i64 s.qb):=rfl
 have z9:(Qaa s d c)[9]? = some (.int .i64 s.way):=rfl
 have z10:(Qaa s d c)[10]? = some (.int .i64 s.place):=rfl
 have z11:(Qaa s d c)[11]? = some (.int .i64 s.pos):=rfl
 have z12:(Qaa s d c)[12]? = some (.int .u32 s.mask):=rfl
 have z13:(Qaa s d c)[13]? = some (.int .u64 s.ticks):=rfl
 have z15:(Qaa s d c)[15]? = some (.int .i64 s.cursor):=rfl
 have z16:(Qaa s d c)[16]? = some (.int .u64 s.to):=rfl
 have z5:(Qaa s d c)[5]? = some d:=rfl
 have z14:(Qaa s d c)[14]? = some c:=rfl
 have hnx:=hL.nx
 unfold Qbs
 refine Qax ?_
 refine Qag hts g32 (by decide) fun ts hts g32=>?_
 refine Qag hts g32 (by decide) fun ts hts g32=>?_
 refine xseq ?_
 refine Qag hts g32 (by decide) fun ts hts g32=>?_
 refine Qag hts g32 (by decide) fun ts hts g32=>?_
 refine Qag hts g32 (by decide) fun ts hts g32=>?_
 refine Qca (v:=false) hts g32 (by decide) fun ts hts g32 gT=>xifG gT (fun h=>by cases h) fun _=>?_
 refine Qag hts g32 (by decide) fun ts hts g32=>?_
 refine Qag hts g32 (by decide) fun ts hts g32=>?_
 refine xseq ?_
 refine Qag hts g32 (by decide) fun ts hts g32=>?_
 refine Qag hts g32 (by decide) fun ts hts g32=>?_
 refine Qca (v:=false) hts g32 (by decide) fun ts hts g32 gT=>xifG gT (fun h=>by cases h) fun _=>?_
 refine Qag hts g32 (by decide) fun ts hts g32=>?_
 refine Qag hts g32 (by decide) fun ts hts g32=>?_
 refine Qag hts g32 (by decide) fun ts hts g32=>?_
 refine xseq ?_
 refine Qag hts g32 (by decide) fun ts hts g32=>?_
 refine Qag hts g32 (by decide) fun ts hts g32=>?_
 refine Qag hts g32 (by decide) fun ts hts g32=>?_
 refine Qca (v:=false) hts g32 (by decide) fun ts hts g32 gT=>xifG gT (fun h=>by cases h) fun _=>?_
 refine Qag hts g32 (by decide) fun ts hts g32=>?_
 refine Qex hts g32 (by decide) fun ts hts g32 gT=>?_
 refine Qb0 (PS:=fun l' ds' m'=>ds'=[]∧LI n0 p b0 22 s d c m0 (out++decI s.stream) (g||Qam s.stream) m'∧Sl [.pointer (some ⟨p,0,none⟩),.agg ⟨Qaj 22⟩,.agg ⟨Qaa s d c⟩,undef,.pointer (some ⟨b0,0,none⟩),.pointer (some ⟨b0+1,0,none⟩)] 223 l') ?_ ?_
 ·refine Qal fun Q' hQ=>?_
  simp [hts,hL.sb,z2]
  refine Qak (Qad (by decide)) (Qb5 hL.pr hL.nn (hp.old hL.old hp0) hp0 hR.stream (by have l1:=Qac hR.stream;have l2:=Qac hR.qc;have l3:=Qac hR.place;have l4:=Qac hR.pos;have l5:=Qac hR.cursor;have l6:=Qab hR.time;have l7:=Qab hR.life;have l8:=Qab (z:=s.mask) ⟨hR.mask.1,by have:=hR.mask.2;omega⟩;have l9:=Qa6 s.data;have l11:=Qab hR.ticks;have l12:=Qab hR.seq;have l13:=Qab hR.to;have l14:=Qac hR.qb;have l10:=wayl s.way; (try simp only [Kla,Klc,Kln]);omega)) ?_ (fun ch m' h=>h.elim)
  rintro r m2 ⟨hP2,hK2⟩
  subst hQ
  exact⟨rfl,rfl,hL.keep hP2 hK2,Sl.mk rfl (by simp [hts])⟩
 clear hL hts
 rintro l ds m ⟨rfl,hL,⟨ts,hts,rfl⟩⟩
 refine xdrw 4 fun Q' hQ=>?_
 simp [hts,hL.pr.2.2,hL.sb,z3,z4,z5,z6,z12,z13,z16]
 refine Qak (Qad (by decide)) (Qfv (z:=s.time) (hp.old hL.old hp0) hR.time) ?_ (fun ch m' h=>h.elim)
 rintro r m2 ⟨rfl,rfl⟩
 simp [hts,hL.pr.2.2,hL.sb,z3,z4,z5,z6,z12,z13,z16]
 repeat (rw [Qf7 _ _ _ _ _ (by have l1:=Qac hR.stream;have l2:=Qac hR.qc;have l3:=Qac hR.place;have l4:=Qac hR.pos;have l5:=Qac hR.cursor;have l6:=Qab hR.time;have l7:=Qab hR.life;have l8:=Qab (z:=s.mask) ⟨hR.mask.1,by have:=hR.mask.2;omega⟩;have l9:=Qa6 s.data;have l11:=Qab hR.ticks;have l12:=Qab hR.seq;have l13:=Qab hR.to;have l14:=Qac hR.qb;have l10:=wayl s.way; (try simp only [Kla,Klc,Kln]);omega)];simp [hts,hL.pr.2.2,hL.sb,z3,z4,z5,z6,z12,z13,z16])
 refine Qak (Qad (by decide)) (Qfv (z:=s.to) (hp.old hL.old hp0) hR.to) ?_ (fun ch m' h=>h.elim)
 rintro r m2 ⟨rfl,rfl⟩
 simp [hts,hL.pr.2.2,hL.sb,z3,z4,z5,z6,z12,z13,z16]
 repeat (rw [Qf7 _ _ _ _ _ (by have l1:=Qac hR.stream;have l2:=Qac hR.qc;have l3:=Qac hR.place;have l4:=Qac hR.pos;have l5:=Qac hR.cursor;have l6:=Qab hR.time;have l7:=Qab hR.life;have l8:=Qab (z:=s.mask) ⟨hR.mask.1,by have:=hR.mask.2;omega⟩;have l9:=Qa6 s.data;have l11:=Qab hR.ticks;have l12:=Qab hR.seq;have l13:=Qab hR.to;have l14:=Qac hR.qb;have l10:=wayl s.way; (try simp only [Kla,Klc,Kln]);omega)];simp [hts,hL.pr.2.2,hL.sb,z3,z4,z5,z6,z12,z13,z16])
 subst hQ
 exact⟨rfl,rfl,by simpa [fieldsOf,Fd.text,Fd.great,Qao,List.append_assoc,Bool.or_assoc] using (Qrh hL:LI n0 p b0 22 s d c m0 (out++decI s.stream++decU s.time++decU s.to) (g||Qam s.stream) _),Sl.mk rfl (by simp [hts])⟩
end Go.Proofs.YtgmkbdmgifdfeaaGreatDoor

