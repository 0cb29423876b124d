/- A part of a proof: ScriptBack. -/
import Derived.Test.YtgmkbdmgifdfeaaGreatDoorD13
set_option linter.unusedVariables false
set_option linter.unusedSimpArgs false
set_option maxRecDepth 10000
namespace Go.Proofs.YtgmkbdmgifdfeaaGreatDoor
open Go Go.Ev
noncomputable def s19:SCode:=(qR [jW 2 26,
 jW 3 27,
 jW 4 3,
 jW 5 38]
 (.seq (qR [jM 9 0 9,
 jZ 10 9 9,
 jB 11 .gtr 3 (tT 10) (zI 1048576) 3 4]
 (.cond (tT 11) (qR [⟨(some 12),.build 26 #[],26,.no⟩,
 jS 26 2 12,
 ⟨none,.store 27 (tT 3) (.const (.slice none 0 0)),0,.no⟩,
 ⟨none,.store 3 (tT 4) (zI 0),0,.no⟩,
 ⟨none,.store 38 (tT 5) (zI 81),0,.no⟩]
 .ret)
 .skip))
 (qR [⟨(some 13),.build 99 #[],99,.no⟩,
 ⟨(some 14),.box 99 (tT 13),97,.no⟩,
 jW 6 97,
 jS 97 6 14]
 (qR [jW 7 3,
 ⟨none,.store 3 (tT 7) (zI 0),0,.no⟩]
 (.seq (qR [jM 15 0 9,
 jC 16 39 #[(tT 15),(zS [10])] #[9,9] 101]
 (.block 0 (.rng (tT 16) [17] (.reg [jA 8 17 9])
 (.block 1 (qR [jL 18 3 7,
 jB 19 .add 3 (tT 18) (zI 1) 3 3,
 jS 3 7 19]
 (qR [jL 20 97 6,
 jM 21 8 9,
 jC 22 40 #[(tT 20),(tT 21)] #[97,9] 4,
 ⟨(some 23),.unOp .not 4 (tT 22),4,.no⟩]
 (.cond (tT 23) (.seq (.drw [⟨0,(some 24),.build 26 #[],26,.no,[],[]⟩,
 dL 1 25 3 7 .no [] [7],
 ⟨2,none,.store 26 (tT 2) (tT 24),0,.no,[0,0],[2,24]⟩,
 ⟨3,none,.store 27 (tT 3) (.const (.slice none 0 0)),0,.no,[2,0,2],[3]⟩,
 ⟨4,none,.store 3 (tT 4) (tT 25),0,.no,[1,3,0,1,2,3],[4,25]⟩,
 ⟨5,none,.store 38 (tT 5) (zI 210),0,.no,[4,0,1,2,3,4],[5]⟩])
 .ret)
 .skip)))) true)))
 (.seq (qR [jL 26 97 6,
 jN 27 26,
 jF 28 99 27 2,
 jL 29 4 28,
 ⟨(some 30),.unOp .not 4 (tT 29),4,.no⟩]
 (.cond (tT 30) (qR [⟨(some 31),.build 26 #[],26,.no⟩,
 jS 26 2 31,
 ⟨none,.store 27 (tT 3) (.const (.slice none 0 0)),0,.no⟩,
 ⟨none,.store 3 (tT 4) (zI 1),0,.no⟩,
 ⟨none,.store 38 (tT 5) (zI 210),0,.no⟩]
 .ret)
 .skip))
 (.seq (.drw [dL 0 32 97 6 .no [] [6],
 ⟨1,(some 33),.nilCheck (tT 32),0,.no,[0],[32]⟩,
 dF 2 34 99 33 0 .no [1] [33],
 dL 3 35 26 34 .no [2] [34],
 dL 4 36 97 6 .no [] [6],
 ⟨5,(some 37),.nilCheck (tT 36),0,.no,[4],[36]⟩,
 dF 6 38 99 37 1 .no [5] [37],
 dL 7 39 27 38 .no [6] [38],
 ⟨8,none,.store 26 (tT 2) (tT 35),0,.no,[3,0,1,2,3],[2,35]⟩,
 ⟨9,none,.store 27 (tT 3) (tT 39),0,.no,[7,8,0,1,2,3,4,5,6,7,8],[3,39]⟩,
 ⟨10,none,.store 3 (tT 4) (zI 0),0,.no,[9,0,1,2,3,4,5,6,7,8,9],[4]⟩,
 ⟨11,none,.store 38 (tT 5) (zI 0),0,.no,[10,0,1,2,3,4,5,6,7,8,9,10],[5]⟩])
 .ret)))))))
theorem e19:(Tryz.f19.body.map Qa2)=some s19:=by kernel_rfl
end Go.Proofs.YtgmkbdmgifdfeaaGreatDoor

namespace Go.Proofs.YtgmkbdmgifdfeaaGreatDoor
open Go
structure Stp where
 kind:Int
 node:Int
 stream:Int
 time:Int
 life:Int
 data:List UInt8
 seq:Int
 qc:Int
 qb:Int
 way:Int
 place:Int
 pos:Int
 mask:Int
 ticks:Int
 choices:List Int
 cursor:Int
 to:Int
def i64R (n:Int):Prop := -9223372036854775808≤n∧n≤9223372036854775807
def u64R (n:Int):Prop:=0≤n∧n≤18446744073709551615
def u32R (n:Int):Prop:=0≤n∧n≤4294967295
structure Stp.R (s:Stp):Prop where
 kind:i64R s.kind
 node:i64R s.node
 stream:i64R s.stream
 time:u64R s.time
 life:u64R s.life
 seq:u64R s.seq
 qc:i64R s.qc
 qb:i64R s.qb
 way:i64R s.way
 place:i64R s.place
 pos:i64R s.pos
 mask:u32R s.mask
 ticks:u64R s.ticks
 choices:∀ c∈s.choices,i64R c
 cursor:i64R s.cursor
 to:u64R s.to
structure Stu where
 mtu:Int
 ack:Int
 retry:Int
 retries:Int
 window:Int
 inbox:Int
 sectors:Int
 room:Int
 start:Int
structure Stu.R (s:Stu):Prop where
 mtu:i64R s.mtu
 ack:u64R s.ack
 retry:u64R s.retry
 retries:i64R s.retries
 window:i64R s.window
 inbox:i64R s.inbox
 sectors:i64R s.sectors
 room:i64R s.room
 start:u64R s.start
def hexD (n:Nat):UInt8:=if n<10 then UInt8.ofNat (48+n) else UInt8.ofNat (87+n)
def Qbj (c:UInt8):List UInt8 :=
 if c=34∨c=92 then [92,c] else if 32≤c.toNat∧c.toNat≤126 then [c] else if c=10 then [92,110] else if c=9 then [92,116] else [92,120,hexD (c.toNat / 16),hexD (c.toNat%16)]
def Qde (l:List UInt8):List UInt8:=34::(l.flatMap Qbj++[34])
def decI (n:Int):List UInt8:=32::Lib.itoa n
def decU (n:Int):List UInt8:=32::Lib.decDigits n.toNat
def Qam (n:Int):Bool:=decide (2147483647<n)||decide (n < -2147483648)
inductive Fd where
 |stream|qc|qb|place|pos|cursor
 |time|life|seq|to|ticks|mask
 |data|way|choices
def Fd.text:Fd→Stp→List UInt8
 | .stream,s=>decI s.stream | .qc,s=>decI s.qc | .qb,s=>decI s.qb | .place,s=>decI s.place | .pos,s=>decI s.pos | .cursor,s=>decI s.cursor
 | .time,s=>decU s.time | .life,s=>decU s.life | .seq,s=>decU s.seq | .to,s=>decU s.to | .ticks,s=>decU s.ticks | .mask,s=>decU s.mask
 | .data,s=>32::Qde s.data
 | .way,s=>if s.way=1 then [32,101,120,112,114,101,115,115] else [32,102,114,101,105,103,104,116]
 | .choices,s=>s.choices.flatMap decI
def Fd.great:Fd→Stp→Bool
 | .stream,s=>Qam s.stream | .qc,s=>Qam s.qc | .qb,s=>Qam s.qb | .place,s=>Qam s.place | .pos,s=>Qam s.pos | .cursor,s=>Qam s.cursor
 | .choices,s=>s.choices.any Qam
 |_,_=>false
def fieldsOf:Nat→List Fd
 |1=>[.ticks]|2=>[.stream,.qc,.qb]|3=>[.stream]|4=>[.stream]|5=>[.stream]|6=>[.stream,.time,.life,.data]|7=>[.stream,.seq]|8=>[]
 |9=>[.way,.place]|10=>[.way,.place]|11=>[.way,.place]|12=>[.way,.place,.pos,.mask]|13=>[.pos]|14=>[.choices]|15=>[]
 |16=>[.stream]|17=>[.cursor]|18=>[.cursor,.time]|19=>[.cursor]|20=>[.cursor]|21=>[.cursor]|22=>[.stream,.time,.to]
 |_=>[]
def Qay:Nat→List UInt8
 |1=>[116,105,99,107]|2=>[108,105,115,116,101,110]|3=>[117,110,108,105,115,116,101,110]|4=>[98,101,103,105,110]|5=>[99,101,97,115,101]|6=>[115,101,110,100]
 |7=>[99,97,110,99,101,108]|8=>[107,105,99,107]|9=>[100,101,108,105,118,101,114]|10=>[100,114,111,112]|11=>[100,111,117,98,108,101]|12=>[116,117,114,110]
 |13=>[99,117,116]|14=>[99,114,97,115,104]|15=>[114,101,115,116,97,114,116]|16=>[99,117,114,115,111,114]|17=>[99,108,111,115,101]|18=>[115,101,101,107]
 |19=>[110,101,120,116]|20=>[112,114,101,118]|21=>[114,101,119,105,110,100]|22=>[103,97,112,115]
 |_=>[]
def Qbo (s:Stp):List UInt8:=(if s.kind=1 then [] else Lib.itoa s.node++[32])++(Qay s.kind.toNat++((fieldsOf s.kind.toNat).flatMap fun f=>f.text s)++[10])
def Qbe (s:Stp):Bool:=(fieldsOf s.kind.toNat).any fun f=>f.great s
def Qbr (s:Stp):Bool:=decide (1≤s.kind∧s.kind≤22)&&(decide (s.kind=1)||decide (s.node=1)||decide (s.node=2))&&(!decide (9≤s.kind∧s.kind≤12)||decide (s.way=1)||decide (s.way=2))
def Qcg (x:Stu):List UInt8:=[119,111,114,108,100]++decI x.sectors++decI x.room++decU x.start++decI x.mtu++decU x.ack++decU x.retry++decI x.retries++decI x.window++decI x.inbox++[10]
def Qcd (x:Stu):Bool:=Qam x.sectors||Qam x.room||Qam x.mtu||Qam x.retries||Qam x.window||Qam x.inbox
def Qba (x:Stu) (l:List Stp):List UInt8:=Qcg x++l.flatMap Qbo
def Qdv (x:Stu) (l:List Stp):Bool:=Qcd x||l.any Qbe
def Qa8 (x:Stu) (l:List Stp):List UInt8 × Int :=
 if l.all Qbr=true then (if Qdv x l=true then ([],12) else if 1048576<(Qba x l).length then ([],81) else (Qba x l,0)) else ([],202)
end Go.Proofs.YtgmkbdmgifdfeaaGreatDoor

namespace Go.Proofs.YtgmkbdmgifdfeaaGreatDoor
open Go
def Qbc:List UInt8→List (List UInt8)
 | []=>[[]]
 |b::l=>if b=10 then []::Qbc l else match Qbc l with
  |x::r=>(b::x)::r
  | []=>[[b]]
theorem Quy (l:List UInt8):Qbc l≠[]:=by
 cases l with
 |nil=>simp [Qbc]
 |cons b l =>
  unfold Qbc
  split
  ·simp
  ·split<;>simp
def isBl (c:UInt8):Bool:=c==32||c==9
def atBl:List UInt8→Bool
 | []=>true
 |c::_=>isBl c
def Qar:List UInt8→List (List UInt8)→Option (List UInt8)→Bool→Bool→Option (List (List UInt8))
 | [],acc,cur,q,_=>if q then none else some (acc++cur.toList)
 |c::r,acc,cur,q,e =>
  if e then Qar r acc (cur.map (· ++ [c])) q false
  else if q then
   (if c=92 then Qar r acc (cur.map (· ++ [c])) q true
    else if c=34 then (if atBl r then Qar r acc (cur.map (· ++ [c])) false false else none)
    else Qar r acc (cur.map (· ++ [c])) q false)
  else match cur with
   |none=>if isBl c then Qar r acc none false false
    else if acc=[]∧c=35 then some []
    else Qar r acc (some [c]) (c==34) false
   |some w=>if isBl c then Qar r (acc++[w]) none false false
    else Qar r acc (some (w++[c])) false false
def Qgj (l:List UInt8):Option (List (List UInt8)):=Qar l [] none false false
def Qkd (c:UInt8):Bool:=decide (48≤c.toNat∧c.toNat≤57)
def Qjb (w:List UInt8):Nat:=w.foldl (fun v c=>v*10+(c.toNat-48)) 0
def Qel (w:List UInt8) (Qq7:Nat):Option Nat :=
 if w≠[]∧w.all Qkd=true∧(w=[48]∨w.head? ≠ some 48)∧Qjb w≤Qq7 then some (Qjb w) else none
def Qbf (w:List UInt8):Option Int:=match w with
 |45::r=>match Qel r 2147483648 with
  |some v=>if 0<v then some (-(v:Int)) else none
  |none=>none
 |w=>(Qel w 2147483647).map fun v=>(v:Int)
def Qbt (w:List UInt8):Option Int:=(Qel w 18446744073709551615).map fun v=>(v:Int)
def Qhu (w:List UInt8):Option Int:=(Qel w 4294967295).map fun v=>(v:Int)
def Qqu:List UInt8:=[101,120,112,114,101,115,115]
def Qqp:List UInt8:=[102,114,101,105,103,104,116]
def Qmq (w:List UInt8):Option Int:=if w=Qqu then some 1 else if w=Qqp then some 2 else none
def Qno (c:UInt8):Option Nat:=if 48≤c.toNat∧c.toNat≤57 then some (c.toNat-48) else if 97≤c.toNat∧c.toNat≤102 then some (c.toNat-87) else none
def Qcy:List UInt8→Option (List UInt8)
 | []=>some []
 |c::r=>if 32≤c.toNat∧c.toNat≤126∧c≠34 then
   (if c=92 then match r with
    | []=>none
    |d::r2=>if d=110 then (Qcy r2).map (10 :: ·) else if d=116 then (Qcy r2).map (9 :: ·) else if d=34∨d=92 then (Qcy r2).map (d :: ·)
     else if d=120 then match r2 with
      |a::b::r3=>match Qno a,Qno b with
       |some x,some y=>(Qcy r3).map (UInt8.ofNat (16*x+y) :: ·)
       |_,_=>none
      |_=>none
     else none
    else (Qcy r).map (c :: ·))
  else none
theorem Qys {c:UInt8} (r:List UInt8) (h:¬ (32≤c.toNat∧c.toNat≤126∧c≠34)):Qcy (c::r)=none:=by rw [Qcy.eq_def];simp only [if_neg h]
theorem Qmr {c:UInt8} (r:List UInt8) (h:32≤c.toNat∧c.toNat≤126∧c≠34) (h2:c≠92):Qcy (c::r)=(Qcy r).map (c :: ·):=by rw [Qcy.eq_def];simp only [if_pos h,if_neg h2]
theorem Qvc:Qcy [92]=none:=by rw [Qcy.eq_def];rfl
theorem Qkv (d:UInt8) (r2:List UInt8):Qcy (92::d::r2)=if d=110 then (Qcy r2).map (10 :: ·) else if d=116 then (Qcy r2).map (9 :: ·) else if d=34∨d=92 then (Qcy r2).map (d :: ·)
  else if d=120 then match r2 with
   |a::b::r3=>match Qno a,Qno b with
    |some x,some y=>(Qcy r3).map (UInt8.ofNat (16*x+y) :: ·)
    |_,_=>none
   |_=>none
  else none:=by
 rw [Qcy.eq_def]
 have:32≤(92:UInt8).toNat∧(92:UInt8).toNat≤126∧(92:UInt8)≠34:=by decide
 simp only [if_pos this,if_true]
def Qec (w:List UInt8):Option (List UInt8):=if 2≤w.length∧w.head? = some 34∧w.getLast? = some 34 then Qcy ((w.drop 1).dropLast) else none
def Qc9:List (List UInt8)→Option (List Int)
 | []=>some []
 |w::ws=>match Qbf w with
  |some v=>(Qc9 ws).map (v :: ·)
  |none=>none
def Fd.read:Fd→Stp→List (List UInt8)→Option (Stp × List (List UInt8))
 | .choices,s,ws=>(Qc9 ws).map fun l=>({ s with choices:=s.choices++l },[])
 |_,s,[]=>none
 | .stream,s,w::ws=>(Qbf w).map fun v=>({ s with stream:=v },ws)
 | .qc,s,w::ws=>(Qbf w).map fun v=>({ s with qc:=v },ws)
 | .qb,s,w::ws=>(Qbf w).map fun v=>({ s with qb:=v },ws)
 | .place,s,w::ws=>(Qbf w).map fun v=>({ s with place:=v },ws)
 | .pos,s,w::ws=>(Qbf w).map fun v=>({ s with pos:=v },ws)
 | .cursor,s,w::ws=>(Qbf w).map fun v=>({ s with cursor:=v },ws)
 | .time,s,w::ws=>(Qbt w).map fun v=>({ s with time:=v },ws)
 | .life,s,w::ws=>(Qbt w).map fun v=>({ s with life:=v },ws)
 | .seq,s,w::ws=>(Qbt w).map fun v=>({ s with seq:=v },ws)
 | .to,s,w::ws=>(Qbt w).map fun v=>({ s with to:=v },ws)
 | .ticks,s,w::ws=>(Qbt w).map fun v=>({ s with ticks:=v },ws)
 | .mask,s,w::ws=>(Qhu w).map fun v=>({ s with mask:=v },ws)
 | .way,s,w::ws=>(Qmq w).map fun v=>({ s with way:=v },ws)
 | .data,s,w::ws=>(Qec w).map fun v=>({ s with data:=v },ws)
def Qeq:List Fd→Stp→List (List UInt8)→Option (Stp × List (List UInt8))
 | [],s,ws=>some (s,ws)
 |f::fs,s,ws=>match f.read s ws with
  |some (s,ws)=>Qeq fs s ws
  |none=>none
def Qlm (w:List UInt8):Option Nat:=(List.range 23).find? fun k=>decide (1≤k)&&(Qay k==w)
def stp0:Stp:=⟨0,0,0,0,0,[],0,0,0,0,0,0,0,0,[],0,0⟩
def stu0:Stu:=⟨0,0,0,0,0,0,0,0,0⟩
def Qgt:List UInt8:=[119,111,114,108,100]
def Qih:List (List UInt8)→Option Stu
 | [a,b,c,d,e,f,g,h,i] =>
   match Qbf a,Qbf b,Qbt c,Qbf d,Qbt e,Qbt f,Qbf g,Qbf h,Qbf i with
   |some a,some b,some c,some d,some e,some f,some g,some h,some i=>some ⟨d,e,f,g,h,i,a,b,c⟩
   |_,_,_,_,_,_,_,_,_=>none
 |_=>none
def Qfx:List (List UInt8)→Option (Int × List UInt8 × List (List UInt8))
 | []=>none
 |w::ws=>if w=[49]∨w=[50] then match ws with
   | []=>none
   |v::vs=>some (if w=[49] then 1 else 2,v,vs)
  else some (0,w,ws)
def Qe1 (ws:List (List UInt8)):Option Stp:=match Qfx ws with
 |none=>none
 |some (n,w,ws)=>match Qlm w with
  |none=>none
  |some k=>if (k != 1)=decide (0<n) then match Qeq (fieldsOf k) { stp0 with kind:=k,node:=n } ws with
    |some (s,[])=>some s
    |_=>none
   else none
inductive Ln where
 |nothing
 |head (x:Stu)
 |step (s:Stp)
def Qd1 (l:List UInt8):Option Ln:=match Qgj l with
 |none=>none
 |some []=>some .nothing
 |some (w::ws)=>if w=Qgt then (Qih ws).map .head else (Qe1 (w::ws)).map .step
structure Scr where
 setup:Stu
 steps:List Stp
 begun:Bool
def Qc5 (s:Scr) (l:List UInt8):Option Scr:=match Qd1 l with
 |none=>none
 |some .nothing=>some s
 |some (.head x)=>if s.begun then none else some { s with setup:=x,begun:=true }
 |some (.step t)=>if s.begun then some { s with steps:=s.steps++[t] } else none
def Qcr:Scr→Int→List (List UInt8)→Stu × List Stp × Int × Int
 |s,_,[]=>if s.begun then (s.setup,s.steps,0,0) else (stu0,[],1,210)
 |s,n,l::ls=>match Qc5 s l with
  |some s=>Qcr s (n+1) ls
  |none=>(stu0,[],n+1,210)
def Qbb (text:List UInt8):Stu × List Stp × Int × Int :=
 if 1048576<text.length then (stu0,[],0,81) else Qcr ⟨stu0,[],false⟩ 0 (Qbc text)
end Go.Proofs.YtgmkbdmgifdfeaaGreatDoor

set_option maxRecDepth 8000
namespace Go.Proofs.YtgmkbdmgifdfeaaGreatDoor
open Go Go.Ev
theorem Jab {m:Mem} (x y:Operand) (a:Option Addr):binA tb m .eql 63 x y (.pointer a) (.pointer none)=some (.bool a.isNone):=by
 have e:eqA tb m 64 63 (.pointer a) (.pointer none)=eqPt tb m 65 (.pointer a) (.pointer none):=by
  rw [eqA];simp only [Ty.ti63,Qqj,Ty.d63]
 cases a<;>simp [binA,eqOp,Qgm,e,eqPt,Qnw]
theorem p63_ne {m:Mem} (x y:Operand) (b o o':Nat) (s s':Option Nat):binA tb m .neq 63 x y (.pointer (some ⟨b,o,s⟩)) (.pointer (some ⟨b,o',s'⟩))=some (.bool (!decide (o=o'))):=by
 have e:eqA tb m 64 63 (.pointer (some ⟨b,o,s⟩)) (.pointer (some ⟨b,o',s'⟩))=eqPt tb m 65 (.pointer (some ⟨b,o,s⟩)) (.pointer (some ⟨b,o',s'⟩)):=by
  rw [eqA];simp only [Ty.ti63,Qqj,Ty.d63]
 simp [binA,eqOp,Qgm,e,eqPt,Qnw,Go.Ev.ptrEq]
theorem c63_145 {m:Mem} {b o:Nat} {s:Option Nat} {V:Vw} (hv:vw m b=some V) (ho:o<V.cs.length):Qff tb m 63 145 (.pointer (some ⟨b,o,s⟩))=.r (.pointer (some ⟨b,o,s⟩)):=by
 obtain⟨r,h1,h2,_⟩:=Qc8 hv
 simp [Qff,Qet,h1,h2,ho]
noncomputable def BldT (e n:Nat):Bool:=liesAt tb.p tb.p.depth e (n / tb.p.cellsOf e) 0 65 1
theorem bld65:BldT 65 2=true:=by kernel_rfl
theorem bld67:BldT 67 3=true:=by kernel_rfl
theorem c145_63 {m:Mem} {b:Nat} {s:Option Nat} {V:Vw} (hv:vw m b=some V) (hx:V.ext=false) (hl:BldT V.elem V.cs.length=true):Qff tb m 145 63 (.pointer (some ⟨b,0,s⟩))=.r (.pointer (some ⟨b,0,s⟩)):=by
 obtain⟨r,h1,h2,h3,h4,_⟩:=Qc8 hv
 unfold BldT at hl
 simp [Qff,Qet,h1,h2,h3,h4,hx,hl]
theorem noEscape {m:Mem} {ds:List Deferred} {v:Value} {K:Value→List Deferred→Mem→Prop} {PK:List PanicEntry→Mem→Prop} (k:K v ds m):Qey tb (Qaz tb (.func (.func 80) #[] #[]) [v] m) ds m K PK:=by
 have e:Qaz tb (.func (.func 80) #[] #[]) [v] m=.value v:=by
  simp only [Qaz,Qd8,Ql4,Kna,List.append_nil,Qad (f:=80) (by decide),fget Tryz.func80]
  rfl
 rw [e];exact k
structure Bld (n0:Nat) (m:Mem) (p:Nat) (a v:Value) (out:List UInt8) (e:TypeId) (rest:List Value):Prop where
 ge:n0≤p
 lt:p<m.next
 ty:BldT e (2+rest.length)=true
 row:vw m p=some ⟨true,e,false,a::v::rest⟩
 adr:a=.pointer none∨a=.pointer (some ⟨p,0,none⟩)
 own:Own n0 m v 5 out.length (u8s out)
 ne:blkV v≠some p
theorem _root_.Go.Ev.Own.keep {n0 n:Nat} {m m':Mem} {v:Value} {e:TypeId} {cells:List Value} {ob:Option Nat} (h:Own n0 m v e n cells) (k:Keep ob m m') (hb:blkV v≠ob∨ob=none):Own n0 m' v e n cells:=by
 rcases h with h|⟨b,rfl,h1,h2,h3⟩
 ·exact .inl h
 ·refine .inr ⟨b,rfl,h1,Nat.lt_of_lt_of_le h2 k.1,?_⟩
  rw [k.vw h2 (by rcases hb with hb|hb;exact fun e=>hb e.symm;rw [hb];exact fun e=>by cases e)];exact h3
theorem Qgx {m:Mem} (b i:Nat) (l:List Value):Keep (some b) m (stM m b i l):=⟨by rw [Qav];exact Knr _,fun x _ hx=>Qcu (fun e=>hx (by rw [e]))⟩
theorem Qlt {n0 p:Nat} {m:Mem} {a v:Value} {out:List UInt8} {e:TypeId} {rest:List Value} (h:Bld n0 m p a v out e rest) :
  Qaw tb 46 [.pointer (some ⟨p,0,none⟩)] m (retR fun r m'=>Bld n0 m' p (.pointer (some ⟨p,0,none⟩)) v out e rest∧Old n0 m m'∧Keep (some p) m m'):=by
 obtain⟨hge,hlt,hty,hrow,hadr,hown,hne⟩:=h
 have hlen:BldT e (a::v::rest).length=true:=by rw [show (a::v::rest).length=2+rest.length from by simp;omega];exact hty
 refine Qa5 Tryz.func46 e46 rfl rfl ?_
 simp only [s46,List.replicate,Klc,Kln,Kca,Kna,Nat.reduceAdd,Nat.reduceSub]
 refine xsr fun Q' hQ=>?_
 rcases hadr with rfl|rfl
 ·simp [hrow,Jab]
  subst hQ
  refine xyes rfl ?_
  refine Qal fun Q' hQ=>?_
  simp [c63_145 (o:=0) (s:=none) hrow (by simp)]
  refine noEscape ?_
  simp [c145_63 (s:=none) hrow rfl hlen,hrow]
  subst hQ
  have hs:stOk ⟨true,e,false,.pointer none::v::rest⟩ 0 [.pointer (some ⟨p,0,none⟩)]=true:=by simp
  have hk:Keep (some p) m (stM m p 0 [.pointer (some ⟨p,0,none⟩)]):=Qgx _ _ _
  exact⟨rfl,_,rfl,⟨hge,Nat.lt_of_lt_of_le hlt hk.1,hty,by rw [Qau hrow hs];rfl,.inr rfl,hown.keep hk (.inl hne),hne⟩,(Old.refl _ _).st hge _ _,hk⟩
 ·simp [hrow,Jab]
  subst hQ
  refine xno rfl ?_
  refine xsr fun Q' hQ=>?_
  simp [hrow,p63_ne]
  subst hQ
  refine xno rfl (Qbd ?_)
  exact⟨rfl,_,rfl,⟨hge,hlt,hty,hrow,.inr rfl,hown,hne⟩,.refl _ _,⟨Knr _,fun _ _ _=>rfl⟩⟩
end Go.Proofs.YtgmkbdmgifdfeaaGreatDoor

set_option maxRecDepth 8000
namespace Go.Proofs.YtgmkbdmgifdfeaaGreatDoor
open Go Go.Ev
def Two (m m':Mem) (p:Nat) (v v':Value):Prop:=m.next≤m'.next∧∀ x,x<m.next→x≠p→blkV v≠some x→m'.objs.get x=m.objs.get x∧blkV v'≠some x
theorem Two.trans {a b c:Mem} {p:Nat} {v v' v'':Value} (h:Two a b p v v') (k:Two b c p v' v''):Two a c p v v'' :=
 ⟨Knt h.1 k.1,fun x hx h1 h2=>by
  obtain⟨e1,e2⟩:=h.2 x hx h1 h2
  obtain⟨e3,e4⟩:=k.2 x (Nat.lt_of_lt_of_le hx h.1) h1 e2
  exact⟨e3.trans e1,e4⟩⟩
theorem Two.of_keep {m m':Mem} {p:Nat} {v:Value} (h:Keep (some p) m m'):Two m m' p v v:=⟨h.1,fun x hx h1 h2=>⟨h.2 x hx (fun e=>h1 (Kai e).symm),h2⟩⟩
theorem Qch {n0 p:Nat} {m:Mem} {a v:Value} {out:List UInt8} {e:TypeId} {rest:List Value} {c:UInt8} (h:Bld n0 m p a v out e rest) (hn:n0≤m.next) (hb:out.length≤1000000000) :
  Qaw tb 29 [.pointer (some ⟨p,0,none⟩),.int .u8 (c.toNat:Int)] m (retR fun r m'=>r=.nilIface∧∃ v',Bld n0 m' p (.pointer (some ⟨p,0,none⟩)) v' (out++[c]) e rest∧Old n0 m m'∧Two m m' p v v'):=by
 refine Qa5 Tryz.func29 e29 rfl rfl ?_
 simp only [s29,List.replicate,Klc,Kln,Kca,Kna,Nat.reduceAdd,Nat.reduceSub]
 refine xsr fun Q' hQ=>?_
 simp
 subst hQ
 refine xsr fun Q' hQ=>?_
 simp
 refine Qak (Qad (by decide)) (Qlt h) ?_ (fun ch m' h=>h.elim)
 rintro r m1 ⟨h1,h2,h3⟩
 subst hQ
 obtain⟨hge,hlt,hty,hrow,hadr,hown,hne⟩:=h1
 obtain⟨aw,rfl⟩:=hown.shape
 obtain⟨v',m3,h5,h6,h7,h8,b,rfl,h9⟩:=hown.append (k:=0) (sz:=1) (new:=[.int .u8 (c.toNat:Int)]) ((Old.refl _ m1).new (Knr _) (.row ⟨T.setL [.int .u8 (c.toNat:Int)] 0 .lf,1,[.int .u8 0],5,.none,false⟩)) (Knt hn h2.1) (by simp) (by simp) (by simp)
 have hpn:p≠m1.next:=by omega
 have hrow3:vw m3 p=some ⟨true,e,false,.pointer (some ⟨p,0,none⟩)::.slice aw out.length out.length::rest⟩:=by
  rw [h7.vw (by rw [Qaf];omega) hne,Qcs,if_neg hpn];exact hrow
 refine xsr fun Q' hQ=>?_
 simp [hrow,Qce _ out.length out.length 1 1 (by omega),h5,hrow3]
 subst hQ
 refine xsr fun Q' hQ=>?_
 simp
 subst hQ
 refine xret ?_
 rw [Qaf] at h9
 have hs:stOk ⟨true,e,false,.pointer (some ⟨p,0,none⟩)::.slice aw out.length out.length::rest⟩ 1 [.slice (some ⟨b,0,none⟩) (out.length+(0+1)) (out.length+(0+1))]=true:=by simp
 have hk:=Qgx (m:=m3) p 1 [.slice (some ⟨b,0,none⟩) (out.length+(0+1)) (out.length+(0+1))]
 have hpb:(some b:Option Nat)≠some p:=by intro e;cases e;omega
 have hnx:m1.next+1≤m3.next:=by have:=h7.1;rw [Qaf] at this;exact this
 have hown':Own n0 (stM m3 p 1 [.slice (some ⟨b,0,none⟩) (out.length+(0+1)) (out.length+(0+1))]) (.slice (some ⟨b,0,none⟩) (out.length+(0+1)) (out.length+(0+1))) 5 (out++[c]).length (u8s (out++[c])):=by
  have:=h6.keep hk (.inl hpb)
  have e1:u8s (out++[c])=u8s out++[.int .u8 (c.toNat:Int)]:=by simp [Qfr]
  rw [e1,Kla];exact this
 refine⟨rfl,_,rfl,rfl,.slice (some ⟨b,0,none⟩) (out.length+(0+1)) (out.length+(0+1)),⟨hge,by rw [Qav];omega,hty,by rw [Qau hrow3 hs];rfl,.inr rfl,hown',hpb⟩,?_,?_⟩
 ·exact h2.trans (((Old.refl n0 m1).new (Knt hn h2.1) _).trans (h8.trans ((Old.refl n0 m3).st hge _ _)))
 ·refine (Two.of_keep h3).trans ⟨by rw [Qav];omega,fun x hx h10 h11=>⟨?_,?_⟩⟩
  ·rw [Qcu h10,h7.2 x (by rw [Qaf];omega) h11,Qan,if_neg (by omega)]
  ·intro e;have e2:b=x:=Kai e;omega
end Go.Proofs.YtgmkbdmgifdfeaaGreatDoor

set_option maxRecDepth 8000
namespace Go.Proofs.YtgmkbdmgifdfeaaGreatDoor
open Go Go.Ev
theorem _root_.Go.Ev.Own.append0 {n0 n k sz:Nat} {m:Mem} {v:Value} {e:TypeId} {cells new:List Value} (h:Own n0 m v e n cells) (hle:n0≤m.next) (hc:cells.length=n*sz) (hn:new.length=k*sz) (ho:new.all oneC=true) :
  ∃ v' m',Qbq m e sz v k new=some (v',m')∧Own n0 m' v' e (n+k) (cells++new)∧Keep (blkV v) m m'∧Old n0 m m'∧(blkV v'=blkV v∨∃ b,blkV v'=some b∧m.next≤b):=by
 cases k with
 |zero =>
  rw [Nat.zero_mul] at hn
  obtain rfl:=List.length_eq_zero_iff.1 hn
  refine⟨v,m,?_,by rw [List.append_nil];exact h,⟨Knr _,fun _ _ _=>rfl⟩,.refl _ _,.inl rfl⟩
  rcases h with ⟨rfl,rfl,_⟩|⟨b,rfl,_⟩
  ·exact Jb7 _ _ _ _
  ·exact Qu4 _ _ (Knr _)
 |succ k =>
  obtain⟨v',m',h1,h2,h3,h4,b,rfl,h5⟩:=h.append (Old.refl _ _) hle hc hn ho
  exact⟨_,m',h1,h2,h3,h4,.inr ⟨b,rfl,h5⟩⟩
theorem Qcq {n0 p:Nat} {m:Mem} {a v:Value} {out s:List UInt8} {e:TypeId} {rest:List Value} (h:Bld n0 m p a v out e rest) (hn:n0≤m.next) (hb:out.length+s.length≤1000000000) :
  Qaw tb 26 [.pointer (some ⟨p,0,none⟩),.string ⟨⟨s⟩⟩] m (retR fun r m'=>∃ v',Bld n0 m' p (.pointer (some ⟨p,0,none⟩)) v' (out++s) e rest∧Old n0 m m'∧Two m m' p v v'):=by
 refine Qa5 Tryz.func26 e26 rfl rfl ?_
 simp only [s26,List.replicate,Klc,Kln,Kca,Kna,Nat.reduceAdd,Nat.reduceSub]
 refine xsr fun Q' hQ=>?_
 simp
 subst hQ
 refine xsr fun Q' hQ=>?_
 simp
 refine Qak (Qad (by decide)) (Qlt h) ?_ (fun ch m' h=>h.elim)
 rintro r m1 ⟨h1,h2,h3⟩
 subst hQ
 obtain⟨hge,hlt,hty,hrow,hadr,hown,hne⟩:=h1
 obtain⟨aw,rfl⟩:=hown.shape
 obtain⟨v',m3,h5,h6,h7,h8,h9⟩:=hown.append0 (k:=s.length) (sz:=1) (new:=u8s s) (Knt hn h2.1) (by simp) (by simp) (by simp)
 have hrow3:vw m3 p=some ⟨true,e,false,.pointer (some ⟨p,0,none⟩)::.slice aw out.length out.length::rest⟩:=by
  rw [h7.vw hlt hne];exact hrow
 have hpb:blkV v'≠some p:=by
  rcases h9 with h9|⟨b,h9,h10⟩
  ·rw [h9];exact hne
  ·rw [h9];intro e;cases e;omega
 obtain⟨av,rfl⟩:=h6.shape
 refine xsr fun Q' hQ=>?_
 simp [hrow,Qce _ out.length out.length s.length 1 (by omega),h5,hrow3]
 subst hQ
 refine xsr fun Q' hQ=>?_
 simp
 subst hQ
 refine xret ?_
 have hs:stOk ⟨true,e,false,.pointer (some ⟨p,0,none⟩)::.slice aw out.length out.length::rest⟩ 1 [.slice av (out.length+s.length) (out.length+s.length)]=true:=by simp
 have hk:=Qgx (m:=m3) p 1 [.slice av (out.length+s.length) (out.length+s.length)]
 have hown':Own n0 (stM m3 p 1 [.slice av (out.length+s.length) (out.length+s.length)]) (.slice av (out.length+s.length) (out.length+s.length)) 5 (out++s).length (u8s (out++s)):=by
  have:=h6.keep hk (.inl hpb)
  have e1:u8s (out++s)=u8s out++u8s s:=by simp [Qfr]
  rw [e1,Kla];exact this
 refine⟨rfl,_,Qfh _ _,.slice av (out.length+s.length) (out.length+s.length),⟨hge,by rw [Qav];have:=h7.1;omega,hty,by rw [Qau hrow3 hs];rfl,.inr rfl,hown',hpb⟩,?_,?_⟩
 ·exact h2.trans (h8.trans ((Old.refl n0 m3).st hge _ _))
 ·refine (Two.of_keep h3).trans ⟨by rw [Qav];exact h7.1,fun x hx h10 h11=>⟨?_,?_⟩⟩
  ·rw [Qcu h10,h7.2 x hx h11]
  ·rcases h9 with h9|⟨b,h9,h12⟩
   ·rw [h9];exact h11
   ·rw [h9];intro e;have e2:b=x:=Kai e;omega
end Go.Proofs.YtgmkbdmgifdfeaaGreatDoor

set_option maxRecDepth 8000
namespace Go.Proofs.YtgmkbdmgifdfeaaGreatDoor
open Go Go.Ev
abbrev Prn (n0:Nat) (m:Mem) (p:Nat) (v:Value) (out:List UInt8) (g:Bool):Prop:=∃ a,Bld n0 m p a v out 67 [.bool g]
theorem Qvl {n0 p:Nat} {m:Mem} {v:Value} {out s:List UInt8} {g:Bool} (h:Prn n0 m p v out g) (hn:n0≤m.next) (hb:out.length+s.length≤900000000) :
  Qaw tb 47 [.pointer (some ⟨p,0,none⟩),.string ⟨⟨s⟩⟩] m (retR fun r m'=>∃ v',Prn n0 m' p v' (out++32::s) g∧Old n0 m m'∧Two m m' p v v'):=by
 obtain⟨a,h⟩:=h
 refine Qa5 Tryz.func47 e47 rfl rfl ?_
 simp only [s47,List.replicate,Klc,Kln,Kca,Kna,Nat.reduceAdd,Nat.reduceSub]
 refine xsr fun Q' hQ=>?_
 simp
 refine Qak (Qad (by decide)) (Qch (c:=32) h hn (by omega)) ?_ (fun ch m' h=>h.elim)
 rintro r m1 ⟨rfl,v1,h1,h2,h3⟩
 subst hQ
 refine Qal fun Q' hQ=>?_
 simp
 refine Qak (Qad (by decide)) (Qcq (s:=s) h1 (Knt hn h2.1) (by simp;omega)) ?_ (fun ch m' h=>h.elim)
 rintro r m2 ⟨v2,h4,h5,h6⟩
 subst hQ
 refine⟨rfl,_,rfl,v2,⟨.pointer (some ⟨p,0,none⟩),?_⟩,h2.trans h5,h3.trans h6⟩
 rw [show out++32::s=out++[32]++s from by simp]
 exact h4
theorem Qum {n0 p:Nat} {m:Mem} {v:Value} {out:List UInt8} {g:Bool} {z:Int} (h:Prn n0 m p v out g) (hn:n0≤m.next) (hp:Qb4 m) (h0:0≤z) (h1:z≤18446744073709551615) (hb:out.length+(Lib.decDigits z.toNat).length≤900000000) :
  Qaw tb 28 [.pointer (some ⟨p,0,none⟩),.int .u64 z] m (retR fun r m'=>∃ v',Prn n0 m' p v' (out++32::Lib.decDigits z.toNat) g∧Old n0 m m'∧Two m m' p v v'):=by
 refine Qa5 Tryz.func28 e28 rfl rfl ?_
 simp only [s28,List.replicate,Klc,Kln,Kca,Kna,Nat.reduceAdd,Nat.reduceSub]
 refine Qal fun Q' hQ=>?_
 simp
 refine xfmt h0 h1 hp ?_
 refine Qak (Qad (by decide)) (Qvl h hn hb) ?_ (fun ch m' h=>h.elim)
 rintro r m1 h4
 subst hQ
 exact⟨rfl,_,rfl,h4⟩
end Go.Proofs.YtgmkbdmgifdfeaaGreatDoor

set_option maxRecDepth 8000
namespace Go.Proofs.YtgmkbdmgifdfeaaGreatDoor
open Go Go.Ev
theorem len_ok {n0 p:Nat} {m:Mem} {a v:Value} {out:List UInt8} {e:TypeId} {rest:List Value} (h:Bld n0 m p a v out e rest) :
  Qaw tb 32 [.pointer (some ⟨p,0,none⟩)] m (retR fun r m'=>r=.int .i64 (out.length:Int)∧m'=m):=by
 obtain⟨hge,hlt,hty,hrow,hadr,hown,hne⟩:=h
 obtain⟨aw,rfl⟩:=hown.shape
 refine Qa5 Tryz.func32 e32 rfl rfl ?_
 simp only [s32,List.replicate,Klc,Kln,Kca,Kna,Nat.reduceAdd,Nat.reduceSub]
 refine xsr fun Q' hQ=>?_
 simp
 subst hQ
 refine xsr fun Q' hQ=>?_
 simp [hrow]
 subst hQ
 refine xret ?_
 exact⟨rfl,_,Qat _,rfl,rfl⟩
theorem Qpz {n0 p:Nat} {m:Mem} {v:Value} {out:List UInt8} {g:Bool} {z:Int} (h:Prn n0 m p v out g) (hn:n0≤m.next) (hp:Qb4 m) (hp0:0<n0) (h0 : -9223372036854775808≤z) (h1:z≤9223372036854775807) (hb:out.length+(Lib.itoa z).length≤900000000) :
  Qaw tb 27 [.pointer (some ⟨p,0,none⟩),.int .i64 z] m (retR fun r m'=>∃ v',Prn n0 m' p v' (out++32::Lib.itoa z) (g||decide (2147483647<z)||decide (z < -2147483648))∧Old n0 m m'∧Two m m' p v v'):=by
 obtain⟨a,hge,hlt,hty,hrow,hadr,hown,hne⟩:=h
 refine Qa5 Tryz.func27 e27 rfl rfl ?_
 simp only [s27,List.replicate,Klc,Kln,Kca,Kna,Nat.reduceAdd,Nat.reduceSub]
 refine xsr fun Q' hQ=>?_
 have key:∀ g',∃ m1,m1=stM m p 2 [.bool g']∧Prn n0 m1 p v out g'∧Old n0 m m1∧Two m m1 p v v:=fun g'=>by
  have hs:stOk ⟨true,67,false,a::v::[.bool g]⟩ 2 [.bool g']=true:=by simp
  have hk:=Qgx (m:=m) p 2 [.bool g']
  exact⟨_,rfl,⟨a,hge,by rw [Qav];exact hlt,hty,by rw [Qau hrow hs];rfl,hadr,hown.keep hk (.inl hne),hne⟩,(Old.refl _ _).st hge _ _,Two.of_keep hk⟩
 have hfin:∀ g':Bool,g'=(g||decide (2147483647<z)||decide (z < -2147483648))→∀ l:List Value,(∃ ts:List Value,ts.length=19∧l=.pointer (some ⟨p,0,none⟩)::.int .i64 z::undef::undef::ts) →
   wpX tb ⟨27,.normal,none⟩ (.reg [⟨some 19,.move (.tmp 0),62,.no⟩,⟨some 20,.move (.tmp 1),3,.no⟩,⟨some 21,.call ⟨.value (.func 31),#[.tmp 20],#[3]⟩,9,.no⟩,⟨some 22,.call ⟨.value (.func 47),#[.tmp 19,.tmp 21],#[62,9]⟩,0,.no⟩]) l [] (stM m p 2 [.bool g']) (endX tb [] (retR fun r m'=>∃ v',Prn n0 m' p v' (out++32::Lib.itoa z) (g||decide (2147483647<z)||decide (z < -2147483648))∧Old n0 m m'∧Two m m' p v v')):=by
  rintro g' hg l ⟨ts,hts,rfl⟩
  match ts,hts with
  |x4::x5::x6::x7::x8::x9::x10::x11::x12::x13::x14::x15::x16::x17::x18::x19::x20::x21::x22::[],_ =>
  rw [← hg]
  obtain⟨m1,e1,k1,k2,k3⟩:=key g'
  rw [← e1]
  refine Qal fun Q' hQ=>?_
  simp
  refine xitoa h0 h1 (hp.old k2 hp0) ?_
  refine Qak (Qad (by decide)) (Qvl k1 (Knt hn k2.1) hb) ?_ (fun ch m' h=>h.elim)
  rintro r m2 ⟨v2,h4,h5,h6⟩
  subst hQ
  exact⟨rfl,_,rfl,v2,h4,k2.trans h5,k3.trans h6⟩
 cases g<;>by_cases hz1:2147483647<z<;>by_cases hz2:z < -2147483648<;>simp [hrow,hz1,hz2]<;>subst hQ
 all_goals exact hfin _ (by simp [hz1,hz2]) _ ⟨_,by rfl,rfl⟩
end Go.Proofs.YtgmkbdmgifdfeaaGreatDoor

set_option maxRecDepth 8000
namespace Go.Proofs.YtgmkbdmgifdfeaaGreatDoor
open Go Go.Ev
theorem Qlg:∀ l:List UInt8,Qoe (u8s l)=some l
 | []=>rfl
 |b::l=>by
  simp only [u8s,Qq6,Qjn]
  show oB (Qoe (u8s l)) _=_
  rw [Qlg l]
  simp [oB]
theorem cell5:tb.p.cellsOf 5=1:=by kernel_rfl
theorem us_ok {m:Mem} {b:Nat} {x:Bool} {out:List UInt8} (hv:vw m b=some ⟨true,5,x,u8s out⟩) (hn:out≠[]) (hl:out.length≤9223372036854775807) :
  ∃ m',Qb8 tb m [122,3] (some ⟨b,0,none⟩) out.length=.e (.string ⟨⟨out⟩⟩) m'∧Keep (some b) m m':=by
 obtain⟨r,h1,h2,h3,h4,h5,h6,h7,_⟩:=Qc8 hv
 have hw:=h7 rfl
 obtain⟨n,hn'⟩:∃ n,out.length=n+1:=⟨out.length-1,by have:=List.length_pos_iff.2 hn;omega⟩
 refine⟨Qas m b (.row ⟨r.ov,r.n,r.z,r.elem,.rng 0 (0+(n+1)),r.ext⟩),?_,⟨Knr _,fun y _ hy=>by rw [Qbk,if_neg (fun e=>hy (by rw [e]))]⟩⟩
 have hb:Qfd m b 0 (n+1)=some ⟨⟨out⟩⟩:=by
  unfold Qfd
  rw [h1]
  simp only [oB]
  rw [Qb9 h6,if_pos (by simp;omega),← hn']
  have:Qbv (u8s out) 0 out.length=u8s out:=by have:=Qis (u8s out);rwa [Qfl] at this
  simp only [this,Qlg]
 have ht:(Nat.beq 5 r.elem&&Nat.beq (tb.p.cellsOf r.elem) 1&&Nat.ble (n+1) 9223372036854775807)=true:=by
  rw [h3];simp [cell5];omega
 rw [hn']
 simp only [Qb8,hw,Ty.ti122,Ty.d122,h5,ht,hb]
theorem ob_us (m:Mem) (tys:List TypeId) (p:Option Addr) (k:IntKind) (n:Nat):Qcm tb m .unsafeString tys [.pointer p,.int k (n:Int)]=Qb8 tb m tys p n:=rfl
theorem ob_usd (m:Mem) (tys:List TypeId) (b o n c:Nat) (h:c≠0):Qcm tb m .unsafeSliceData tys [.slice (some ⟨b,o,none⟩) n c]=.r (.pointer (some ⟨b,o,none⟩)):=by
 cases c with
 |zero=>exact absurd rfl h
 |succ c=>rfl
theorem ob_len (m:Mem) (t:TypeId) (tys:List TypeId) (x:Value):Qcm tb m .len (t::tys) [x]=oR (lenA tb t m x):=rfl
theorem Qrr {n0 p:Nat} {m:Mem} {a v:Value} {out:List UInt8} {e:TypeId} {rest:List Value} (h:Bld n0 m p a v out e rest) (ho:out≠[]) (hl:out.length≤1000000000) :
  Qaw tb 33 [.pointer (some ⟨p,0,none⟩)] m (retR fun r m'=>r=.string ⟨⟨out⟩⟩∧Keep (blkV v) m m'∧Old n0 m m'):=by
 obtain⟨hge,hlt,hty,hrow,hadr,hown,hne⟩:=h
 rcases hown with ⟨_,h0,_⟩|⟨b,rfl,hb1,hb2,hb3⟩
 ·exact absurd (List.length_eq_zero_iff.1 h0) ho
 obtain⟨m',hu,hk⟩:=us_ok hb3 ho (by omega)
 have hrow':vw m' p=some ⟨true,e,false,a::.slice (some ⟨b,0,none⟩) out.length out.length::rest⟩:=by rw [hk.vw hlt hne];exact hrow
 have hne0:out.length≠0:=by have:=List.length_pos_iff.2 ho;omega
 refine Qa5 Tryz.func33 e33 rfl rfl ?_
 simp only [s33,List.replicate,Klc,Kln,Kca,Kna,Nat.reduceAdd,Nat.reduceSub]
 refine xsr fun Q' hQ=>?_
 simp [-Qcm]
 subst hQ
 refine xseq (xdrw 3 fun Q' hQ=>?_)
 simp [-Qcm,hrow,hrow',hu,ob_us,ob_usd _ _ _ _ _ _ hne0,ob_len]
 subst hQ
 refine xret ?_
 exact⟨rfl,_,Qat _,rfl,hk,⟨hk.1,fun x hx=>hk.2 x (by have:=hlt;omega) (by intro e;have e2:b=x:=Kai e;omega)⟩⟩
end Go.Proofs.YtgmkbdmgifdfeaaGreatDoor

set_option maxRecDepth 8000
namespace Go.Proofs.YtgmkbdmgifdfeaaGreatDoor
open Go Go.Ev
theorem Qyl {m:Mem} {z:Int}:Qaw tb 45 [.int .i64 z] m (retR fun r m'=>r=.bool (decide (9≤z∧z≤12))∧m'=m):=by
 refine Qa5 Tryz.func45 e45 rfl rfl ?_
 simp only [s45,List.replicate,Klc,Kln,Kca,Kna,Nat.reduceAdd,Nat.reduceSub]
 refine xsr fun Q' hQ=>?_
 simp
 subst hQ
 refine xsr fun Q' hQ=>?_
 by_cases h1:9≤z<;>by_cases h2:z≤12<;>simp [h1,h2]<;>subst hQ<;>exact xret ⟨rfl,_,Qat _,by simp [gx,h1,h2],rfl⟩
end Go.Proofs.YtgmkbdmgifdfeaaGreatDoor

set_option maxRecDepth 8000
namespace Go.Proofs.YtgmkbdmgifdfeaaGreatDoor
open Go Go.Ev
theorem Bld.lift {n0 p:Nat} {m m':Mem} {a v:Value} {out:List UInt8} {e:TypeId} {rest:List Value} (h:Bld n0 m p a v out e rest) (k:∀ x,n0≤x→x<m.next→m'.objs.get x=m.objs.get x) (hn:m.next≤m'.next):Bld n0 m' p a v out e rest:=by
 obtain⟨hge,hlt,hty,hrow,hadr,hown,hne⟩:=h
 have hv:∀ x,n0≤x→x<m.next→vw m' x=vw m x:=fun x h1 h2=>by unfold vw;rw [k x h1 h2]
 refine⟨hge,by omega,hty,by rw [hv p hge hlt];exact hrow,hadr,?_,hne⟩
 rcases hown with h|⟨b,rfl,h1,h2,h3⟩
 ·exact .inl h
 ·exact .inr ⟨b,rfl,h1,by omega,by rw [hv b h1 h2];exact h3⟩
theorem hexB (n:Nat) (h:n<16):(([48,49,50,51,52,53,54,55,56,57,97,98,99,100,101,102]:List UInt8)[n]?)=some (hexD n):=by
 match n,h with
 |0,_=>rfl|1,_=>rfl|2,_=>rfl|3,_=>rfl|4,_=>rfl|5,_=>rfl|6,_=>rfl|7,_=>rfl
 |8,_=>rfl|9,_=>rfl|10,_=>rfl|11,_=>rfl|12,_=>rfl|13,_=>rfl|14,_=>rfl|15,_=>rfl
 |n+16,h=>exact absurd h (by omega)
theorem quote_ok {m:Mem} {v:Value} {bs:List UInt8} (hv:SlAt m v bs.length (u8s bs)) (hb:bs.length≤100000000) :
  Qaw tb 93 [v] m (retR fun r m'=>r=.string ⟨⟨Qde bs⟩⟩∧Old m.next m m'):=by
 obtain⟨av,cv,rfl⟩:=hv.shape
 refine Qa5 Tryz.func93 e93 rfl rfl ?_
 simp only [s93,List.replicate,Klc,Kln,Kca,Kna,Nat.reduceAdd,Nat.reduceSub]
 refine xsr fun Q' hQ=>?_
 simp
 subst hQ
 refine xsr fun Q' hQ=>?_
 simp
 subst hQ
 generalize hm1:Qah m (Qcf 65 2 [.pointer none,.slice none 0 0])=m1
 have hB1:Bld m.next m1 m.next (.pointer none) (.slice none 0 0) [] 65 []:=by
  subst hm1
  exact⟨Knr _,by rw [Qaf];omega,bld65,by rw [Qcs,if_pos rfl];exact Qh0 65 [.pointer none,.slice none 0 0],.inl rfl,.inl ⟨rfl,rfl,rfl⟩,by intro e;cases e⟩
 have hO1:Old m.next m m1:=by subst hm1;exact (Old.refl _ _).new (Knr _) _
 refine xsr fun Q' hQ=>?_
 simp
 refine Qak (Qad (by decide)) (Qch (c:=34) hB1 hO1.1 (by simp)) ?_ (fun ch m' h=>h.elim)
 rintro r m2 ⟨rfl,v2,hB2,hO2,-⟩
 subst hQ
 have hO2':=hO1.trans hO2
 clear hB1 hO1 hO2 hm1
 refine xseq (xseq (Qal fun Q' hQ=>?_))
 simp
 subst hQ
 refine (Qax (Qem (N:=bs.length) (I:=fun n l ds m3=>∃ k v3 y5 y6,n=bs.length-k∧k≤bs.length∧ds=[] ∧
  Sl [.slice av bs.length cv,undef,.string ⟨⟨[]⟩⟩,.pointer (some ⟨m.next,0,none⟩),undef,y5,y6,.slice av bs.length cv,.int .i64 (bs.length:Nat),.int .i64 (k:Nat)] 40 l ∧
  Bld m.next m3 m.next (.pointer (some ⟨m.next,0,none⟩)) v3 (34::(bs.take k).flatMap Qbj) 65 []∧Old m.next m m3) ?_ ?_))
 ·exact⟨0,v2,_,_,by simp,by omega,rfl,Sl.mk rfl rfl,by simpa using hB2,hO2'⟩
 rintro n l ds m3 ⟨k,v3,y5,y6,rfl,hk,rfl,⟨ts,hts,rfl⟩,hB,hO⟩
 match ts,hts with
 |x10::x11::x12::x13::x14::x15::x16::x17::x18::x19::x20::x21::x22::x23::x24::x25::x26::x27::x28::x29::x30::x31::x32::x33::x34::x35::x36::x37::x38::x39::x40::x41::x42::x43::x44::x45::x46::x47::x48::x49::[],_ =>
 clear hB2 hO2' v2
 refine xsr fun Q' hQ=>?_
 simp
 subst hQ
 have hlen:((bs.take k).flatMap Qbj).length≤4*k:=by
  have:∀ l:List UInt8,(l.flatMap Qbj).length≤4*l.length:=by
   intro l
   induction l with
   |nil=>simp
   |cons b l ih =>
    have:(Qbj b).length≤4:=by unfold Qbj;repeat (split<;>try simp)
    simp only [List.flatMap_cons,Kla,Klc];omega
  have:=this (bs.take k)
  simp only [List.length_take] at this
  omega
 refine xseq (xif (v:=decide (k<bs.length)) rfl (fun h=>Qbd ?_) (fun h=>Qdy ?_))
 ·simp only [decide_eq_true_eq] at h
  have hkl:k<bs.length:=h
  have hvm:=hv.old hO
  have q:(u8s bs)[k]? = some (.int .u8 (bs[k].toNat:Int)):=by rw [Qyt,Kge hkl];rfl
  obtain⟨b2,o,c2,h1,h5,h6,h2,h3⟩:=hvm.load q
  simp only [Value.slice.injEq] at h1
  obtain⟨rfl,-,rfl⟩:=h1
  have ql:=h3 (t:=5) (s:=none) Ty.ti5 Ty.g5
  have htk:bs.take (k+1)=bs.take k++[bs[k]]:=by rw [List.take_add_one,Kge hkl];rfl
  have hnl:bs[k].toNat<256:=bs[k].toNat_lt
  generalize hc:bs[k]=c at ql htk hnl
  refine xseq (Qax (xseq (Qal fun Q' hQ=>?_)))
  simp [ql,h,hkl]
  subst hQ
  refine wpX.mono (Q:=fun e l' ds' m'=>e=.normal∧ds'=[]∧∃ v4,Sl [.slice (some ⟨b2,o,none⟩) bs.length cv,undef,.string ⟨⟨[]⟩⟩,.pointer (some ⟨m.next,0,none⟩),undef,.int .u8 (c.toNat:Int),y6,.slice (some ⟨b2,o,none⟩) bs.length cv,.int .i64 (bs.length:Nat),.int .i64 (k:Nat)] 40 l' ∧
    Bld m.next m' m.next (.pointer (some ⟨m.next,0,none⟩)) v4 (34::(bs.take k).flatMap Qbj++Qbj c) 65 []∧Old m.next m m') ?_ ?_
  ·refine Qax <| xseq <| Qax <| xseq <| Qax <| xseq <| Qax <| xseq <| Qax <| xseq <| Qax <| xseq <| xseq <| xseq <| Qal fun Q' hQ=>?_
   have e34:c=34↔c.toNat=34:=by rw [← UInt8.toNat_inj];rfl
   have e92:c=92↔c.toNat=92:=by rw [← UInt8.toNat_inj];rfl
   have e10:c=10↔c.toNat=10:=by rw [← UInt8.toNat_inj];rfl
   have e9:c=9↔c.toNat=9:=by rw [← UInt8.toNat_inj];rfl
   by_cases h34:c.toNat=34∨c.toNat=92
   ·have hq:Qbj c=[92,c]:=by unfold Qbj;rw [if_pos];rwa [e34,e92]
    have hi:((c.toNat:Int)=34)=True∨(((c.toNat:Int)=34)=False∧((c.toNat:Int)=92)=True):=by
     rcases h34 with h|h
     ·exact .inl (eq_true (by omega))
     ·exact .inr ⟨eq_false (by omega),eq_true (by omega)⟩
    rcases hi with hi|⟨hi,hj⟩
    all_goals
     first
      |simp [hi,hj]
      |simp [hi]
     subst hQ
     refine xif (v:=true) rfl (fun _=>Qdy ?_) (fun h=>by cases h)
     refine Qal fun Q' hQ=>?_
     simp
     refine Qak (Qad (by decide)) (Qch (c:=92) hB hO.1 (by simp only [Kla,Klc,Kln];omega)) ?_ (fun ch m' h=>h.elim)
     rintro r m4 ⟨rfl,v4,hB4,hO4,-⟩
     subst hQ
     refine xsr fun Q' hQ=>?_
     simp
     refine Qak (Qad (by decide)) (Qch (c:=c) hB4 (Knt hO.1 hO4.1) (by simp only [Kla,Klc,Kln];omega)) ?_ (fun ch m' h=>h.elim)
     rintro r m5 ⟨rfl,v5,hB5,hO5,-⟩
     subst hQ
     exact Qdy ⟨rfl,rfl,v5,Sl.mk rfl rfl,by rw [hq];simpa using hB5,hO.trans (hO4.trans hO5)⟩
   have hn1:¬ (c.toNat:Int)=34:=fun e=>h34 (.inl (by omega))
   have hn2:¬ (c.toNat:Int)=92:=fun e=>h34 (.inr (by omega))
   have hq0:¬ (c=34∨c=92):=by rwa [e34,e92]
   simp [hn1,hn2]
   subst hQ
   refine xno rfl (Qbd ?_)
   refine xseq <| xseq <| Qal fun Q' hQ=>?_
   by_cases h32:32≤c.toNat∧c.toNat≤126
   ·have hq:Qbj c=[c]:=by unfold Qbj;rw [if_neg hq0,if_pos h32]
    have h32a:(32:Int)≤(c.toNat:Int):=by omega
    have h32b:(c.toNat:Int)≤126:=by omega
    simp [h32a,h32b]
    subst hQ
    refine xif (v:=true) rfl (fun _=>Qdy ?_) (fun h=>by cases h)
    refine xsr fun Q' hQ=>?_
    simp
    refine Qak (Qad (by decide)) (Qch (c:=c) hB hO.1 (by simp only [Kla,Klc,Kln];omega)) ?_ (fun ch m' h=>h.elim)
    rintro r m5 ⟨rfl,v5,hB5,hO5,-⟩
    subst hQ
    exact Qdy ⟨rfl,rfl,v5,Sl.mk rfl rfl,by rw [hq];simpa using hB5,hO.trans hO5⟩
   have hn3:¬ ((32:Int)≤(c.toNat:Int)∧(c.toNat:Int)≤126):=fun e=>h32 (by omega)
   have hstep:(∀ P:Prop,((32:Int)≤(c.toNat:Int)→¬ (c.toNat:Int)≤126→P)→(¬ (32:Int)≤(c.toNat:Int)→P)→P):=fun P h1 h2=>by
    by_cases e:(32:Int)≤(c.toNat:Int)
    ·exact h1 e (fun e2=>hn3 ⟨e,e2⟩)
    ·exact h2 e
   refine hstep _ (fun e1 e2=>?_) (fun e1=>?_)
   all_goals
    first
     |simp [e1,e2]
     |simp [e1]
    subst hQ
    refine xno rfl (Qbd ?_)
    refine xseq <| xseq <| Qal fun Q' hQ=>?_
    by_cases h10:(c.toNat:Int)=10
    ·have hq:Qbj c=[92,110]:=by unfold Qbj;rw [if_neg hq0,if_neg h32,if_pos (e10.2 (by omega))]
     simp [eq_true h10]
     subst hQ
     refine xif (v:=true) rfl (fun _=>Qdy ?_) (fun h=>by cases h)
     refine xsr fun Q' hQ=>?_
     simp
     refine Qak (Qad (by decide)) (Qcq (s:=[92,110]) hB hO.1 (by simp only [Kla,Klc,Kln];omega)) ?_ (fun ch m' h=>h.elim)
     rintro r m5 ⟨v5,hB5,hO5,-⟩
     subst hQ
     exact Qdy ⟨rfl,rfl,v5,Sl.mk rfl rfl,by rw [hq];simpa using hB5,hO.trans hO5⟩
    simp [h10]
    subst hQ
    refine xno rfl (Qbd ?_)
    refine xseq <| Qal fun Q' hQ=>?_
    by_cases h9:(c.toNat:Int)=9
    ·have hq:Qbj c=[92,116]:=by unfold Qbj;rw [if_neg hq0,if_neg h32,if_neg (fun e=>h10 (by have:=e10.1 e;omega)),if_pos (e9.2 (by omega))]
     simp [eq_true h9]
     subst hQ
     refine xif (v:=true) rfl (fun _=>Qdy ?_) (fun h=>by cases h)
     refine xsr fun Q' hQ=>?_
     simp
     refine Qak (Qad (by decide)) (Qcq (s:=[92,116]) hB hO.1 (by simp only [Kla,Klc,Kln];omega)) ?_ (fun ch m' h=>h.elim)
     rintro r m5 ⟨v5,hB5,hO5,-⟩
     subst hQ
     exact Qdy ⟨rfl,rfl,v5,Sl.mk rfl rfl,by rw [hq];simpa using hB5,hO.trans hO5⟩
    simp [h9]
    subst hQ
    refine xno rfl (Qbd ?_)
    refine Qdy ?_
    have hq:Qbj c=[92,120,hexD (c.toNat / 16),hexD (c.toNat%16)]:=by unfold Qbj;rw [if_neg hq0,if_neg h32,if_neg (fun e=>h10 (by have:=e10.1 e;omega)),if_neg (fun e=>h9 (by have:=e9.1 e;omega))]
    refine xseq <| xseq <| Qal fun Q' hQ=>?_
    simp
    refine Qak (Qad (by decide)) (Qcq (s:=[92,120]) hB hO.1 (by simp only [Kla,Klc,Kln];omega)) ?_ (fun ch m' h=>h.elim)
    rintro r m5 ⟨v5,hB5,hO5,-⟩
    subst hQ
    refine xseq <| Qal fun Q' hQ=>?_
    have hm16:(c.toNat &&& 15:Nat)=c.toNat%16:=Nat.and_two_pow_sub_one_eq_mod c.toNat 4
    have i1:=hexB (c.toNat / 16) (by omega)
    have i2:=hexB (c.toNat%16) (by omega)
    have s1:∀ (x y:Operand) (t:TypeId) (m:Mem),binA tb m .shr t x y (.int .u8 (c.toNat:Int)) (.int .u64 4)=some (.int .u8 ((c.toNat / 16:Nat):Int)):=fun x y t m=>b_shr (tb:=tb) (m:=m) .u8 .u64 t x y c.toNat 4
    have s2:∀ (x y:Operand) (t:TypeId) (m:Mem),binA tb m .and t x y (.int .u8 (c.toNat:Int)) (.int .u8 15)=some (.int .u8 ((c.toNat%16:Nat):Int)):=fun x y t m=>by
     rw [show (15:Int)=((15:Nat):Int) from rfl,b_and,hm16,wru8 _ (by omega) (by omega)]
    simp [s1,i1,-Int.natCast_ediv]
    refine Qak (Qad (by decide)) (Qch (c:=hexD (c.toNat / 16)) hB5 (Knt hO.1 hO5.1) (by simp only [Kla,Klc,Kln];omega)) ?_ (fun ch m' h=>h.elim)
    rintro r m6 ⟨rfl,v6,hB6,hO6,-⟩
    subst hQ
    refine Qal fun Q' hQ=>?_
    simp [s2,i2,-Int.natCast_emod]
    refine Qak (Qad (by decide)) (Qch (c:=hexD (c.toNat%16)) hB6 (Knt hO.1 (hO5.trans hO6).1) (by simp only [Kla,Klc,Kln];omega)) ?_ (fun ch m' h=>h.elim)
    rintro r m7 ⟨rfl,v7,hB7,hO7,-⟩
    subst hQ
    exact Qdy ⟨rfl,rfl,v7,Sl.mk rfl rfl,by rw [hq];simpa using hB7,hO.trans (hO5.trans (hO6.trans hO7))⟩
  ·rintro e l' ds' m' ⟨rfl,rfl,v4,⟨ts',hts',rfl⟩,hB4,hO4⟩
   refine Qal fun Q' hQ=>?_
   simp [hts',Ja5]
   rw [wr64 _ (by omega) (by omega)]
   subst hQ
   refine⟨bs.length-(k+1),by omega,k+1,v4,_,y6,rfl,by omega,rfl,Sl.mk rfl (by simp [hts']),?_,hO4⟩
   rw [htk];simpa using hB4
 ·simp only [decide_eq_false_iff_not] at h
  obtain rfl:k=bs.length:=by omega
  rw [List.take_length] at hB hlen
  refine xsr fun Q' hQ=>?_
  simp
  refine Qak (Qad (by decide)) (Qch (c:=34) hB hO.1 (by simp only [Kla,Klc,Kln];omega)) ?_ (fun ch m' h=>h.elim)
  rintro r m6 ⟨rfl,v6,hB6,hO6,-⟩
  subst hQ
  refine xsr fun Q' hQ=>?_
  simp
  refine Qak (Qad (by decide)) (Qrr hB6 (by simp) (by simp only [Kla,Klc,Kln];omega)) ?_ (fun ch m' h=>h.elim)
  rintro r m7 ⟨rfl,hK7,hO7⟩
  subst hQ
  refine xret ?_
  exact⟨rfl,_,Qat _,by simp [gx,Qde],hO.trans (hO6.trans hO7)⟩
end Go.Proofs.YtgmkbdmgifdfeaaGreatDoor

set_option maxRecDepth 8000
namespace Go.Proofs.YtgmkbdmgifdfeaaGreatDoor
open Go Go.Ev
def Kp (S:List Nat) (m m':Mem):Prop:=m.next≤m'.next∧∀ x,x<m.next→x∉S→m'.objs.get x=m.objs.get x
theorem Kp.refl (S:List Nat) (m:Mem):Kp S m m:=⟨Knr _,fun _ _ _=>rfl⟩
theorem Kp.trans {S:List Nat} {a b c:Mem} (h:Kp S a b) (k:Kp S b c):Kp S a c:=⟨Knt h.1 k.1,fun x hx hs=>(k.2 x (Nat.lt_of_lt_of_le hx h.1) hs).trans (h.2 x hx hs)⟩
theorem Kp.mono {S S':List Nat} {a b:Mem} (h:Kp S a b) (k:∀ x∈S,x∈S'):Kp S' a b:=⟨h.1,fun x hx hs=>h.2 x hx fun e=>hs (k x e)⟩
theorem Kp.vw {S:List Nat} {a b:Mem} (h:Kp S a b) {x:Nat} (hx:x<a.next) (hs:x∉S):Go.Ev.vw b x=Go.Ev.vw a x:=by unfold Go.Ev.vw;rw [h.2 x hx hs]
theorem Kp.of_old {S:List Nat} {a b:Mem} (h:Old a.next a b):Kp S a b:=⟨h.1,fun x hx _=>h.2 x hx⟩
theorem Kp.st {S:List Nat} {a b:Mem} (h:Kp S a b) {k:Nat} (hk:k∈S) (i:Nat) (l:List Value):Kp S a (stM b k i l) :=
 ⟨by rw [Qav];exact h.1,fun x hx hs=>by rw [Qcu (fun e=>hs (by rw [e];exact hk))];exact h.2 x hx hs⟩
theorem Kp.st' {S:List Nat} {a b:Mem} (h:Kp S a b) {k:Nat} (hk:a.next≤k) (i:Nat) (l:List Value):Kp S a (stM b k i l) :=
 ⟨by rw [Qav];exact h.1,fun x hx hs=>by rw [Qcu (by omega)];exact h.2 x hx hs⟩
theorem Kp.new {S:List Nat} {a b:Mem} (h:Kp S a b) (o:AObj):Kp S a (Qah b o) :=
 ⟨by rw [Qaf];have:=h.1;omega,fun x hx hs=>by rw [Qan,if_neg (by have:=h.1;omega)];exact h.2 x hx hs⟩
theorem Qcv.kp {S:List Nat} {m m':Mem} (h:Qcv m) (k:Kp S m m') (hS:∀ x∈S,8≤x):Qcv m':=by
 obtain⟨h1,⟨e,t,a,h2⟩,e',t',a',h3⟩:=h
 exact⟨Nat.lt_of_lt_of_le h1 k.1,⟨e,t,a,by rw [k.vw (by omega) (fun h=>by have:=hS 6 h;omega)];exact h2⟩,e',t',a',by rw [k.vw h1 (fun h=>by have:=hS 7 h;omega)];exact h3⟩
theorem Qek {F:FC} {a b:SCode} {l:List Value} {ds:List Deferred} {m:Mem} {Q:Qda} (PS:List Value→List Deferred→Mem→Prop) (g:∀ l' ds' m',PS l' ds' m'→wpX tb F b l' ds' m' Q) (h:wpX tb F a l ds m (Qhx PS Q)):wpX tb F (.seq a b) l ds m Q :=
 xseq (h.mono fun e l' ds' m' h=>by
  cases e with
  |normal=>exact g _ _ _ h
  |_=>exact h)
def wrongV:Value:=.iface 128 (.agg ⟨[]⟩)
def Qmm:PanicEntry := { v:=wrongV,recovered:=false }
def panR (P:Mem→Prop):OutA→Mem→Prop
 | .ret _,_=>False
 | .pan ch,m=>ch=[Qmm]∧P m
def optR {α : Type} (x:Option α) (S : α → Value→Mem→Prop) (P:Mem→Prop):OutA→Mem→Prop
 | .ret v,m=>∃ a,x=some a∧S a v m
 | .pan ch,m=>x=none∧ch=[Qmm]∧P m
theorem Jax (w:Bool):isB undef w=false:=_root_.id rfl
attribute [simp] Jax
theorem Qen (m:Mem):Qaw tb 75 [.bool true] m (retR fun r m'=>r=.tuple ⟨[]⟩∧m'=m):=by
 refine Qa5 Tryz.func75 e75 rfl rfl ?_
 simp only [s75,List.replicate,Klc,Kln,Kca,Kna,Nat.reduceAdd,Nat.reduceSub]
 refine xsr fun Q' hQ=>?_
 simp
 subst hQ
 refine xno rfl (Qbd ?_)
 exact⟨rfl,_,Qdd,rfl,rfl⟩
theorem Qdn (m:Mem):Qaw tb 75 [.bool false] m (panR fun m'=>m'=m):=by
 refine Qa5 Tryz.func75 e75 rfl rfl ?_
 simp only [s75,List.replicate,Klc,Kln,Kca,Kna,Nat.reduceAdd,Nat.reduceSub]
 refine xsr fun Q' hQ=>?_
 simp
 subst hQ
 refine xyes rfl ?_
 refine Qal fun Q' hQ=>?_
 simp
 subst hQ
 exact⟨rfl,rfl,rfl⟩
theorem Qe9 {α : Type} {l:List α} {n:Nat} (h:l.length=n+1):∃ x t,l=x::t∧t.length=n:=by
 cases l with
 |nil=>simp at h
 |cons x t=>exact⟨x,t,rfl,by simpa using h⟩
def Qkw (l:List (List UInt8)):List Value:=l.map fun w=>.string ⟨⟨w⟩⟩
theorem Qy0 (l:List (List UInt8)) (k:Nat):(Qkw l)[k]? = (l[k]?).map fun w=>.string ⟨⟨w⟩⟩:=by simp [Qkw]
theorem Qby {V:Vw} {i:Nat} {x:Value} (h1:V.w=true) (h2:i+1≤V.cs.length) (h3:oneC x=true):stOk V i [x]=true:=by
 unfold stOk
 rw [h1,List.all_cons,h3,List.all_nil,Bool.and_true,Bool.and_true,Bool.true_and,Nat.ble_eq]
 exact h2
def WordsV (m:Mem) (p:Nat) (v:Value) (ws:List (List UInt8)):Prop :=
 (v=.slice none 0 0∧ws=[])∨∃ b all,b<p∧vw m b=some ⟨true,9,true,Qkw all⟩ ∧
  ((∃ o,v=.slice (some ⟨b,o,none⟩) ws.length ws.length∧ws=all.drop o)∨(ws=[]∧∃ o k,v=.slice (some ⟨b,o,some (k+1)⟩) 0 0))
def Qa1 (m:Mem) (p:Nat) (ws:List (List UInt8)):Prop :=
 8≤p∧p<m.next∧ws.length≤2000000∧(∀ w∈ws,w.length≤2000000)∧∃ v,vw m p=some ⟨true,132,false,[v]⟩∧WordsV m p v ws
theorem Qa1.kp {S:List Nat} {m m':Mem} {p:Nat} {ws:List (List UInt8)} (h:Qa1 m p ws) (k:Kp S m m') (hS:∀ x∈S,p<x):Qa1 m' p ws:=by
 obtain⟨h1,h2,h3,h4,v,h5,h6⟩:=h
 refine⟨h1,Nat.lt_of_lt_of_le h2 k.1,h3,h4,v,by rw [k.vw h2 (fun e=>by have:=hS p e;omega)];exact h5,?_⟩
 rcases h6 with h6|⟨b,all,h7,h8,h9⟩
 ·exact .inl h6
 ·exact .inr ⟨b,all,h7,by rw [k.vw (by omega) (fun e=>by have:=hS b e;omega)];exact h8,h9⟩
theorem Qa1.len {m:Mem} {p:Nat} {ws:List (List UInt8)} (h:Qa1 m p ws):∃ a c,vw m p=some ⟨true,132,false,[.slice a ws.length c]⟩:=by
 obtain⟨h1,h2,h3,h4,v,h5,h6⟩:=h
 rcases h6 with ⟨rfl,rfl⟩|⟨b,all,h7,h8,⟨o,rfl,_⟩|⟨rfl,o,k,rfl⟩⟩<;>exact⟨_,_,h5⟩
theorem Qkt {m:Mem} {p:Nat} {ws:List (List UInt8)} (h:Qa1 m p ws) :
  Qaw tb 73 [.pointer (some ⟨p,0,none⟩)] m (optR ws.head? (fun w r m'=>r=.string ⟨⟨w⟩⟩∧Qa1 m' p ws.tail∧Kp [p] m m') (fun m'=>m'=m)):=by
 refine Qa5 Tryz.func73 e73 rfl rfl ?_
 simp only [s73,List.replicate,Klc,Kln,Kca,Kna,Nat.reduceAdd,Nat.reduceSub]
 refine xsr fun Q' hQ=>?_
 simp
 subst hQ
 refine xsr fun Q' hQ=>?_
 have hlen:=h.len
 cases ws with
 |nil =>
  obtain⟨a,c,hv⟩:=hlen
  simp [hv]
  refine Qak (Qad (by decide)) (Qdn m) (fun v m' h=>h.elim) ?_
  rintro ch m1 ⟨rfl,rfl⟩
  subst hQ
  exact⟨rfl,rfl,rfl,rfl⟩
 |cons w ws =>
  obtain⟨h1,h2,h3,h4,v,h5,h6⟩:=h
  rcases h6 with ⟨_,e⟩|⟨b,all,h7,h8,⟨o,rfl,h9⟩|⟨e,_⟩⟩
  ·cases e
  ·simp only [Klc] at h5
   have hal:all.length=o+(ws.length+1):=by
    have:=congrArg List.length h9
    simp only [Klc,List.length_drop] at this
    omega
   have hal1:(Qkw all)[o]? = some (.string ⟨⟨w⟩⟩):=by
    rw [Qy0]
    have:(all.drop o)[0]? = some w:=by rw [← h9];rfl
    rw [List.getElem?_drop,Nat.add_zero] at this
    rw [this];rfl
   have hdr:ws=all.drop (o+1):=by
    have:=congrArg List.tail h9
    simpa [List.tail_drop] using this
   simp [h5]
   refine Qak (Qad (by decide)) (Qen m) ?_ (fun ch m' h=>h.elim)
   rintro r m1 ⟨rfl,rfl⟩
   subst hQ
   refine xsr fun Q' hQ=>?_
   simp [h5,h8,hal1]
   subst hQ
   refine xsr fun Q' hQ=>?_
   have hbp:¬ b=p:=by omega
   have key:∀ (x:Value) (hx:oneC x=true) (l:List Value),WordsV m1 p x ws→wpX tb ⟨73,.normal,none⟩ (.seq (.reg [⟨some 25,.move (.tmp 3),9,.no⟩,⟨some 2,.assign (.tmp 25),9,.no⟩]) .ret) (.pointer (some ⟨p,0,none⟩)::undef::.string ⟨⟨[]⟩⟩::.string ⟨⟨w⟩⟩::l) [] (stM m1 p 0 [x])
     (endX tb [.tmp 2] (optR (some w) (fun w r m'=>r=.string ⟨⟨w⟩⟩∧Qa1 m' p ws∧Kp [p] m1 m') fun m'=>m'=m1))∨l.length≠22:=by
    intro x hx l hW
    by_cases hl:l.length=22
    ·left
     refine xsr fun Q' hQ=>?_
     simp [hl]
     subst hQ
     refine xret ⟨rfl,_,Qat _,w,rfl,by simp [hl],?_,(Kp.refl _ _).st (by simp) _ _⟩
     refine⟨h1,by rw [Qav];exact h2,by simp at h3;omega,fun w' hw=>h4 w' (.tail _ hw),x,?_,?_⟩
     ·rw [Qau h5 (Qby rfl (by simp) hx)];rfl
     ·rcases hW with hW|⟨b',all',g1,g2,g3⟩
      ·exact .inl hW
      ·exact .inr ⟨b',all',g1,by rw [Qa9 (by omega)];exact g2,g3⟩
    ·exact .inr hl
   rcases Decidable.em (ws=[]) with hz|hz
   ·simp [h5,h8,hal,hz]
    subst hQ
    refine ((key _ rfl _ (.inr ⟨b,all,h7,h8,.inr ⟨hz,_,_,rfl⟩⟩)).resolve_right ?_)
    simp
   ·simp [h5,h8,hal,hz]
    subst hQ
    refine ((key _ rfl _ (.inr ⟨b,all,h7,h8,.inl ⟨_,rfl,hdr⟩⟩)).resolve_right ?_)
    simp
  ·cases e
end Go.Proofs.YtgmkbdmgifdfeaaGreatDoor

set_option maxRecDepth 8000
namespace Go.Proofs.YtgmkbdmgifdfeaaGreatDoor
open Go Go.Ev
theorem foldl_ge (l:List UInt8):∀ a:Nat,a≤l.foldl (fun v c=>v*10+(c.toNat-48)) a:=by
 induction l with
 |nil=>intro a;exact Knr _
 |cons c l ih=>intro a;rw [List.foldl_cons];exact Knt (by omega) (ih _)
theorem pu_dig:∀ (l:List UInt8) (a:Nat),a≤18446744073709551615→l.all Qkd=true →
  Lib.parseUintM 18446744073709551615 a l=if l.foldl (fun v c=>v*10+(c.toNat-48)) a≤18446744073709551615 then .ok (l.foldl (fun v c=>v*10+(c.toNat-48)) a) else .range
 | [],a,ha,_=>by rw [List.foldl_nil,if_pos ha];rfl
 |c::r,a,ha,h=>by
  rw [List.all_cons,Kba] at h
  obtain⟨h1,h2⟩:=h
  have hd:48≤c.toNat∧c.toNat≤57:=of_decide_eq_true h1
  rw [List.foldl_cons]
  simp only [Lib.parseUintM]
  rw [if_pos hd]
  have hge:=foldl_ge r (a*10+(c.toNat-48))
  split
  ·rw [if_neg (by omega)]
  ·split
   ·rw [if_neg (by omega)]
   ·exact pu_dig r _ (by omega) h2
theorem pu_not:∀ (l:List UInt8) (a:Nat),l.all Qkd=false→∀ u,Lib.parseUintM 18446744073709551615 a l≠.ok u
 | [],a,h=>by simp at h
 |c::r,a,h=>by
  intro u
  simp only [Lib.parseUintM]
  split
  ·rename_i hd
   rw [List.all_cons,show Qkd c=true from decide_eq_true hd,Bool.true_and] at h
   split
   ·simp
   ·split
    ·simp
    ·exact pu_not r _ h u
  ·simp
theorem pu_eq {w:List UInt8} (hw:w≠[]):(∃ u,Lib.parseUintB 64 w=.ok u∧w.all Qkd=true∧Qjb w=u∧u≤18446744073709551615)∨((∀ u,Lib.parseUintB 64 w≠.ok u)∧∀ b,b≤18446744073709551615→Qel w b=none):=by
 have e:Lib.parseUintB 64 w=Lib.parseUintM 18446744073709551615 0 w:=by
  unfold Lib.parseUintB;rw [if_neg hw]
 rw [e]
 cases h:w.all Qkd with
 |false =>
  refine .inr ⟨pu_not w 0 h,fun b hb=>?_⟩
  unfold Qel;rw [if_neg];rintro⟨_,h2,_⟩;rw [h] at h2;cases h2
 |true =>
  rw [pu_dig w 0 (by omega) h,← show Qjb w=w.foldl (fun v c=>v*10+(c.toNat-48)) 0 from rfl]
  by_cases hv:Qjb w≤18446744073709551615
  ·exact .inl ⟨_,if_pos hv,rfl,rfl,hv⟩
  ·refine .inr ⟨fun u=>by rw [if_neg hv];simp,fun b hb=>?_⟩
   unfold Qel;rw [if_neg];rintro⟨_,_,_,h4⟩;omega
theorem if69:(match (tv 69).d with | .interface _=>true|_=>false)=true:=by kernel_rfl
theorem if20:(match (tv 20).d with | .interface _=>true|_=>false)=true:=by kernel_rfl
theorem Qv8 {m:Mem} {t:TypeId} {i:TI} (hi:ti tb t=some i) (hd:(match i.d with | .interface _=>true|_=>false)=true) (v:Value):eqA tb m 64 t v .nilIface=eqIf tb (eqA tb m 63) v .nilIface:=by
 rw [eqA]
 simp only [hi,oB]
 obtain⟨d,inf,agg,zc,hz,fl,gd,hl⟩:=i
 cases d<;>simp at hd ⊢
theorem b_if1 {m:Mem} {t:TypeId} {i:TI} (hi:ti tb t=some i) (hd:(match i.d with | .interface _=>true|_=>false)=true) (x:Operand) (u:TypeId) (v:Value):binA tb m .eql t x (.const .nilIface) (.iface u v) .nilIface=some (.bool false)∧binA tb m .neq t x (.const .nilIface) (.iface u v) .nilIface=some (.bool true):=by
 refine⟨?_,?_⟩<;>simp only [binA,eqOp,Qgm,Qk7,Bool.or_true,Qv8 hi hd,eqIf,oB,Bool.not_false,Bool.not_true]
theorem b_if0 {m:Mem} {t:TypeId} {i:TI} (hi:ti tb t=some i) (hd:(match i.d with | .interface _=>true|_=>false)=true) (x:Operand):binA tb m .eql t x (.const .nilIface) .nilIface .nilIface=some (.bool true)∧binA tb m .neq t x (.const .nilIface) .nilIface .nilIface=some (.bool false):=by
 refine⟨?_,?_⟩<;>simp only [binA,eqOp,Qgm,Qk7,Bool.or_true,Qv8 hi hd,eqIf,oB,Bool.not_false,Bool.not_true]
theorem e69s {m:Mem} (x:Operand) (u:TypeId) (v:Value):binA tb m .eql 69 x (.const .nilIface) (.iface u v) .nilIface=some (.bool false):=(b_if1 Ty.ti69 if69 x u v).1
theorem e69n {m:Mem} (x:Operand):binA tb m .eql 69 x (.const .nilIface) .nilIface .nilIface=some (.bool true):=(b_if0 Ty.ti69 if69 x).1
theorem n20s {m:Mem} (x:Operand) (u:TypeId) (v:Value):binA tb m .neq 20 x (.const .nilIface) (.iface u v) .nilIface=some (.bool true):=(b_if1 Ty.ti20 if20 x u v).2
theorem n20n {m:Mem} (x:Operand):binA tb m .neq 20 x (.const .nilIface) .nilIface .nilIface=some (.bool false):=(b_if0 Ty.ti20 if20 x).2
attribute [simp] e69s e69n n20s n20n
theorem Qn1 {m:Mem} {w:List UInt8} {b:Nat} (hE:Qcv m) (hl:w.length≤2000000) (hb:b≤18446744073709551615) :
  Qaw tb 119 [.string ⟨⟨w⟩⟩,.int .u64 (b:Int)] m (optR (Qel w b) (fun v r m'=>r=.int .u64 (v:Int)∧Kp [] m m') (fun m'=>Kp [] m m')):=by
 refine Qa5 Tryz.func119 e119 rfl rfl ?_
 simp only [s119,List.replicate,Klc,Kln,Kca,Kna,Nat.reduceAdd,Nat.reduceSub]
 refine xsr fun Q' hQ=>?_
 simp
 subst hQ
 refine Qek (fun l ds m'=>ds=[]∧m'=m∧w≠[]∧(w=[48]∨w.head? ≠ some 48)∧Sl [.string ⟨⟨w⟩⟩,.int .u64 (b:Int),undef,undef,.int .u64 0,undef,undef] 36 l) ?_ ?_
 ·rintro l ds m' ⟨rfl,rfl,hw,hz,ts,hts,rfl⟩
  refine xsr fun Q' hQ=>?_
  rcases pu_eq hw with ⟨u,hu,h1,h2,h3⟩|⟨hu,hno⟩
  ·simp [hts]
   refine Qwi (m':=m') (v:=.tuple ⟨[.int .u64 (u:Int),.nilIface]⟩) ov_pu ?_ ?_
   ·have:w.length≤281474976710656:=by omega
    simp [puOv,this,hE,hu]
   simp [hts,Qd0]
   subst hQ
   refine xsr fun Q' hQ=>?_
   by_cases hub:u≤b
   ·have hub':(u:Int)≤(b:Int):=by omega
    simp [hts,hub']
    refine Qak (Qad (by decide)) (Qen _) ?_ (fun ch m' h=>h.elim)
    rintro r m1 ⟨rfl,rfl⟩
    subst hQ
    refine xsr fun Q' hQ=>?_
    simp [hts]
    subst hQ
    refine xret ⟨rfl,_,Qat _,u,?_,?_,Kp.refl _ _⟩
    ·unfold Qel;rw [if_pos ⟨hw,h1,hz,by omega⟩,h2]
    ·simp [hts]
   ·have hub':¬ (u:Int)≤(b:Int):=by omega
    simp [hts,hub']
    refine Qak (Qad (by decide)) (Qdn _) (fun v m' h=>h.elim) ?_
    rintro ch m1 ⟨rfl,rfl⟩
    subst hQ
    refine⟨rfl,?_,rfl,Kp.refl _ _⟩
    unfold Qel;rw [if_neg];rintro⟨_,_,_,h4⟩;omega
  ·simp [hts]
   have hsz:w.length≤281474976710656:=by omega
   obtain⟨z,hz2⟩:∃ z:Int,puOv [.string ⟨⟨w⟩⟩,.int .i64 10,.int .i64 64] m'=some (.tuple ⟨[.int .u64 z,.iface 195 (.pointer (some ⟨m'.next,0,none⟩))]⟩,Qah m' .dead):=by
    cases hp:Lib.parseUintB 64 w
    ·exact absurd hp (hu _)
    ·exact⟨0,by simp [puOv,hsz,hE,hp]⟩
    ·exact⟨18446744073709551615,by simp [puOv,hsz,hE,hp]⟩
   refine Qwi ov_pu hz2 ?_
   simp [hts,Qd0]
   subst hQ
   refine xsr fun Q' hQ=>?_
   simp [hts]
   refine Qak (Qad (by decide)) (Qdn _) (fun v m' h=>h.elim) ?_
   rintro ch m1 ⟨rfl,rfl⟩
   subst hQ
   exact⟨rfl,hno b hb,rfl,(Kp.refl _ _).new _⟩
 ·refine Qal fun Q' hQ=>?_
  cases w with
  |nil =>
   simp
   refine Qak (Qad (by decide)) (Qdn m) (fun v m' h=>h.elim) ?_
   rintro ch m1 ⟨rfl,rfl⟩
   subst hQ
   exact⟨rfl,rfl,rfl,Kp.refl _ _⟩
  |cons c r =>
   have hc0:(c=48)↔c.toNat=48:=⟨fun h=>by rw [h];rfl,fun h=>by apply UInt8.toNat_inj.1;rw [h];rfl⟩
   have fin:∀ {l:List Value} {Q':Qda} {n:List Value→List Deferred→Mem→Prop},Q'=Qhx n (endX tb Tryz.f119.results.toList (optR (Qel (c::r) b) (fun v r m'=>r=.int .u64 (v:Int)∧Kp [] m m') (fun m'=>Kp [] m m')))→Qel (c::r) b=none →
     ∀ ch m1,panR (fun m'=>m'=m) (.pan ch) m1→Q' (.pan ch) l [] m1:=by
    rintro l Q' n rfl hno ch m1 ⟨rfl,rfl⟩
    exact⟨rfl,hno,rfl,Kp.refl _ _⟩
   by_cases h1:48≤c.toNat
   ·have e1:(48:Int)≤(c.toNat:Int):=by omega
    by_cases h2:c.toNat≤57
    ·have e2:(c.toNat:Int)≤57:=by omega
     by_cases h6:c=48
     ·subst h6
      by_cases hr:r=[]
      ·subst hr
       simp
       refine Qak (Qad (by decide)) (Qen _) ?_ (fun ch m' h=>h.elim)
       rintro r m1 ⟨rfl,rfl⟩
       subst hQ
       exact⟨rfl,rfl,by simp,.inl rfl,Sl.mk rfl rfl⟩
      ·simp [hr]
       refine Qak (Qad (by decide)) (Qdn m) (fun v m' h=>h.elim) (fin hQ ?_)
       unfold Qel;rw [if_neg];rintro⟨_,_,h4,_⟩;simp [hr] at h4
     ·have h7:¬ (c.toNat:Int)=48:=fun e=>h6 (hc0.2 (by omega))
      simp [e1,e2,h6,h7]
      refine Qak (Qad (by decide)) (Qen _) ?_ (fun ch m' h=>h.elim)
      rintro r m1 ⟨rfl,rfl⟩
      subst hQ
      exact⟨rfl,rfl,by simp,.inr (by simpa using h6),Sl.mk rfl rfl⟩
    ·have e2:¬ (c.toNat:Int)≤57:=by omega
     simp [e1,e2]
     refine Qak (Qad (by decide)) (Qdn m) (fun v m' h=>h.elim) (fin hQ ?_)
     unfold Qel;rw [if_neg];rintro⟨_,h3,_⟩;rw [List.all_cons,Kba] at h3;exact h2 (of_decide_eq_true h3.1).2
   ·have e1:¬ (48:Int)≤(c.toNat:Int):=by omega
    simp [e1]
    refine Qak (Qad (by decide)) (Qdn m) (fun v m' h=>h.elim) (fin hQ ?_)
    unfold Qel;rw [if_neg];rintro⟨_,h3,_⟩;rw [List.all_cons,Kba] at h3;exact h1 (of_decide_eq_true h3.1).1
end Go.Proofs.YtgmkbdmgifdfeaaGreatDoor

