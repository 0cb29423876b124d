/- A part of a proof: ScriptOwn. -/
import Derived.Test.YtgmkbdmgifdfeaaGreatDoorF14
set_option linter.unusedVariables false
set_option linter.unusedSimpArgs false
namespace Go.Proofs.YtgmkbdmgifdfeaaGreatDoor
open Go
def cutLines:List UInt8→List (List UInt8)
 | []=>[[]]
 |b::l=>if b=10 then []::cutLines l else match cutLines l with
  |x::r=>(b::x)::r
  | []=>[[b]]
theorem cutLines_ne (l:List UInt8):cutLines l≠[]:=by
 cases l with
 |nil=>simp [cutLines]
 |cons b l =>
  unfold cutLines
  split
  ·simp
  ·split<;>simp
def isBl (c:UInt8):Bool:=c==32||c==9
def atBl:List UInt8→Bool
 | []=>true
 |c::_=>isBl c
def splitGo:List UInt8→List (List UInt8)→Option (List UInt8)→Bool→Bool→Option (List (List UInt8))
 | [],acc,cur,q,_=>if q then none else some (acc++cur.toList)
 |c::r,acc,cur,q,e =>
  if e then splitGo r acc (cur.map (· ++ [c])) q false
  else if q then
   (if c=92 then splitGo r acc (cur.map (· ++ [c])) q true
    else if c=34 then (if atBl r then splitGo r acc (cur.map (· ++ [c])) false false else none)
    else splitGo r acc (cur.map (· ++ [c])) q false)
  else match cur with
   |none=>if isBl c then splitGo r acc none false false
    else if acc=[]∧c=35 then some []
    else splitGo r acc (some [c]) (c==34) false
   |some w=>if isBl c then splitGo r (acc++[w]) none false false
    else splitGo r acc (some (w++[c])) false false
def splitOf (l:List UInt8):Option (List (List UInt8)):=splitGo l [] none false false
def isDig (c:UInt8):Bool:=decide (48≤c.toNat∧c.toNat≤57)
def decVal (w:List UInt8):Nat:=w.foldl (fun v c=>v*10+(c.toNat-48)) 0
def numOf (w:List UInt8) (bound:Nat):Option Nat :=
 if w≠[]∧w.all isDig=true∧(w=[48]∨w.head? ≠ some 48)∧decVal w≤bound then some (decVal w) else none
def intOf (w:List UInt8):Option Int:=match w with
 |45::r=>match numOf r 2147483648 with
  |some v=>if 0<v then some (-(v:Int)) else none
  |none=>none
 |w=>(numOf w 2147483647).map fun v=>(v:Int)
def longOf (w:List UInt8):Option Int:=(numOf w 18446744073709551615).map fun v=>(v:Int)
def maskOf (w:List UInt8):Option Int:=(numOf w 4294967295).map fun v=>(v:Int)
def expressB:List UInt8:=[101,120,112,114,101,115,115]
def freightB:List UInt8:=[102,114,101,105,103,104,116]
def wayOf (w:List UInt8):Option Int:=if w=expressB then some 1 else if w=freightB then some 2 else none
def hexOf (c:UInt8):Option Nat:=if 48≤c.toNat∧c.toNat≤57 then some (c.toNat-48) else if 97≤c.toNat∧c.toNat≤102 then some (c.toNat-87) else none
def unqGo:List UInt8→Option (List UInt8)
 | []=>some []
 |c::r=>if 32≤c.toNat∧c.toNat≤126∧c≠34 then
   (if c=92 then match r with
    | []=>none
    |d::r2=>if d=110 then (unqGo r2).map (10 :: ·) else if d=116 then (unqGo r2).map (9 :: ·) else if d=34∨d=92 then (unqGo r2).map (d :: ·)
     else if d=120 then match r2 with
      |a::b::r3=>match hexOf a,hexOf b with
       |some x,some y=>(unqGo r3).map (UInt8.ofNat (16*x+y) :: ·)
       |_,_=>none
      |_=>none
     else none
    else (unqGo r).map (c :: ·))
  else none
theorem unq_bad {c:UInt8} (r:List UInt8) (h:¬ (32≤c.toNat∧c.toNat≤126∧c≠34)):unqGo (c::r)=none:=by rw [unqGo.eq_def];simp only [if_neg h]
theorem unq_plain {c:UInt8} (r:List UInt8) (h:32≤c.toNat∧c.toNat≤126∧c≠34) (h2:c≠92):unqGo (c::r)=(unqGo r).map (c :: ·):=by rw [unqGo.eq_def];simp only [if_pos h,if_neg h2]
theorem unq_esc0:unqGo [92]=none:=by rw [unqGo.eq_def];rfl
theorem unq_esc (d:UInt8) (r2:List UInt8):unqGo (92::d::r2)=if d=110 then (unqGo r2).map (10 :: ·) else if d=116 then (unqGo r2).map (9 :: ·) else if d=34∨d=92 then (unqGo r2).map (d :: ·)
  else if d=120 then match r2 with
   |a::b::r3=>match hexOf a,hexOf b with
    |some x,some y=>(unqGo r3).map (UInt8.ofNat (16*x+y) :: ·)
    |_,_=>none
   |_=>none
  else none:=by
 rw [unqGo.eq_def]
 have:32≤(92:UInt8).toNat∧(92:UInt8).toNat≤126∧(92:UInt8)≠34:=by decide
 simp only [if_pos this,if_true]
def textOf (w:List UInt8):Option (List UInt8):=if 2≤w.length∧w.head? = some 34∧w.getLast? = some 34 then unqGo ((w.drop 1).dropLast) else none
def allInts:List (List UInt8)→Option (List Int)
 | []=>some []
 |w::ws=>match intOf w with
  |some v=>(allInts ws).map (v :: ·)
  |none=>none
def Fd.read:Fd→Stp→List (List UInt8)→Option (Stp × List (List UInt8))
 | .choices,s,ws=>(allInts ws).map fun l=>({ s with choices:=s.choices++l },[])
 |_,s,[]=>none
 | .stream,s,w::ws=>(intOf w).map fun v=>({ s with stream:=v },ws)
 | .qc,s,w::ws=>(intOf w).map fun v=>({ s with qc:=v },ws)
 | .qb,s,w::ws=>(intOf w).map fun v=>({ s with qb:=v },ws)
 | .place,s,w::ws=>(intOf w).map fun v=>({ s with place:=v },ws)
 | .pos,s,w::ws=>(intOf w).map fun v=>({ s with pos:=v },ws)
 | .cursor,s,w::ws=>(intOf w).map fun v=>({ s with cursor:=v },ws)
 | .time,s,w::ws=>(longOf w).map fun v=>({ s with time:=v },ws)
 | .life,s,w::ws=>(longOf w).map fun v=>({ s with life:=v },ws)
 | .seq,s,w::ws=>(longOf w).map fun v=>({ s with seq:=v },ws)
 | .to,s,w::ws=>(longOf w).map fun v=>({ s with to:=v },ws)
 | .ticks,s,w::ws=>(longOf w).map fun v=>({ s with ticks:=v },ws)
 | .mask,s,w::ws=>(maskOf w).map fun v=>({ s with mask:=v },ws)
 | .way,s,w::ws=>(wayOf w).map fun v=>({ s with way:=v },ws)
 | .data,s,w::ws=>(textOf w).map fun v=>({ s with data:=v },ws)
def readFds:List Fd→Stp→List (List UInt8)→Option (Stp × List (List UInt8))
 | [],s,ws=>some (s,ws)
 |f::fs,s,ws=>match f.read s ws with
  |some (s,ws)=>readFds fs s ws
  |none=>none
def kindOf (w:List UInt8):Option Nat:=(List.range 23).find? fun k=>decide (1≤k)&&(wordOf k==w)
def stp0:Stp:=⟨0,0,0,0,0,[],0,0,0,0,0,0,0,0,[],0,0⟩
def stu0:Stu:=⟨0,0,0,0,0,0,0,0,0⟩
def worldB:List UInt8:=[119,111,114,108,100]
def headOf:List (List UInt8)→Option Stu
 | [a,b,c,d,e,f,g,h,i] =>
   match intOf a,intOf b,longOf c,intOf d,longOf e,longOf f,intOf g,intOf h,intOf i with
   |some a,some b,some c,some d,some e,some f,some g,some h,some i=>some ⟨d,e,f,g,h,i,a,b,c⟩
   |_,_,_,_,_,_,_,_,_=>none
 |_=>none
def nodeOf:List (List UInt8)→Option (Int × List UInt8 × List (List UInt8))
 | []=>none
 |w::ws=>if w=[49]∨w=[50] then match ws with
   | []=>none
   |v::vs=>some (if w=[49] then 1 else 2,v,vs)
  else some (0,w,ws)
def stepOf (ws:List (List UInt8)):Option Stp:=match nodeOf ws with
 |none=>none
 |some (n,w,ws)=>match kindOf w with
  |none=>none
  |some k=>if (k != 1)=decide (0<n) then match readFds (fieldsOf k) { stp0 with kind:=k,node:=n } ws with
    |some (s,[])=>some s
    |_=>none
   else none
inductive Ln where
 |nothing
 |head (x:Stu)
 |step (s:Stp)
def lineOf (l:List UInt8):Option Ln:=match splitOf l with
 |none=>none
 |some []=>some .nothing
 |some (w::ws)=>if w=worldB then (headOf ws).map .head else (stepOf (w::ws)).map .step
structure Scr where
 setup:Stu
 steps:List Stp
 begun:Bool
def takeLn (s:Scr) (l:List UInt8):Option Scr:=match lineOf l with
 |none=>none
 |some .nothing=>some s
 |some (.head x)=>if s.begun then none else some { s with setup:=x,begun:=true }
 |some (.step t)=>if s.begun then some { s with steps:=s.steps++[t] } else none
def parseGo:Scr→Int→List (List UInt8)→Stu × List Stp × Int × Int
 |s,_,[]=>if s.begun then (s.setup,s.steps,0,0) else (stu0,[],1,210)
 |s,n,l::ls=>match takeLn s l with
  |some s=>parseGo s (n+1) ls
  |none=>(stu0,[],n+1,210)
def parseOut (text:List UInt8):Stu × List Stp × Int × Int :=
 if 1048576<text.length then (stu0,[],0,81) else parseGo ⟨stu0,[],false⟩ 0 (cutLines text)
end Go.Proofs.YtgmkbdmgifdfeaaGreatDoor

set_option maxRecDepth 8000
namespace Go.Proofs.YtgmkbdmgifdfeaaGreatDoor
open Go Go.Ev
theorem bytesL_u8s:∀ l:List UInt8,bytesL (u8s l)=some l
 | []=>rfl
 |b::l=>by
  simp only [u8s,byteV,fNat_eq]
  show oB (bytesL (u8s l)) _=_
  rw [bytesL_u8s l]
  simp [oB]
end Go.Proofs.YtgmkbdmgifdfeaaGreatDoor

set_option maxRecDepth 8000
namespace Go.Proofs.YtgmkbdmgifdfeaaGreatDoor
open Go Go.Ev
def Kp (S:List Nat) (m m':Mem):Prop:=m.next≤m'.next∧∀ x,x<m.next→x∉S→m'.objs.get x=m.objs.get x
theorem Kp.refl (S:List Nat) (m:Mem):Kp S m m:=⟨Nat.le_refl _,fun _ _ _=>rfl⟩
theorem Kp.trans {S:List Nat} {a b c:Mem} (h:Kp S a b) (k:Kp S b c):Kp S a c:=⟨Nat.le_trans h.1 k.1,fun x hx hs=>(k.2 x (Nat.lt_of_lt_of_le hx h.1) hs).trans (h.2 x hx hs)⟩
theorem Kp.mono {S S':List Nat} {a b:Mem} (h:Kp S a b) (k:∀ x∈S,x∈S'):Kp S' a b:=⟨h.1,fun x hx hs=>h.2 x hx fun e=>hs (k x e)⟩
theorem Kp.vw {S:List Nat} {a b:Mem} (h:Kp S a b) {x:Nat} (hx:x<a.next) (hs:x∉S):Go.Ev.vw b x=Go.Ev.vw a x:=by unfold Go.Ev.vw;rw [h.2 x hx hs]
theorem Kp.of_old {S:List Nat} {a b:Mem} (h:Old a.next a b):Kp S a b:=⟨h.1,fun x hx _=>h.2 x hx⟩
theorem Kp.st {S:List Nat} {a b:Mem} (h:Kp S a b) {k:Nat} (hk:k∈S) (i:Nat) (l:List Value):Kp S a (stM b k i l) :=
 ⟨by rw [stM_next];exact h.1,fun x hx hs=>by rw [stM_get (fun e=>hs (by rw [e];exact hk))];exact h.2 x hx hs⟩
theorem Kp.st' {S:List Nat} {a b:Mem} (h:Kp S a b) {k:Nat} (hk:a.next≤k) (i:Nat) (l:List Value):Kp S a (stM b k i l) :=
 ⟨by rw [stM_next];exact h.1,fun x hx hs=>by rw [stM_get (by omega)];exact h.2 x hx hs⟩
theorem Kp.new {S:List Nat} {a b:Mem} (h:Kp S a b) (o:AObj):Kp S a (newObjA b o) :=
 ⟨by rw [next_newObjA];have:=h.1;omega,fun x hx hs=>by rw [get_newObjA,if_neg (by have:=h.1;omega)];exact h.2 x hx hs⟩
theorem ErrAt.kp {S:List Nat} {m m':Mem} (h:ErrAt m) (k:Kp S m m') (hS:∀ x∈S,8≤x):ErrAt m':=by
 obtain⟨h1,⟨e,t,a,h2⟩,e',t',a',h3⟩:=h
 exact⟨Nat.lt_of_lt_of_le h1 k.1,⟨e,t,a,by rw [k.vw (by omega) (fun h=>by have:=hS 6 h;omega)];exact h2⟩,e',t',a',by rw [k.vw h1 (fun h=>by have:=hS 7 h;omega)];exact h3⟩
theorem xseqN {F:FC} {a b:SCode} {l:List Value} {ds:List Deferred} {m:Mem} {Q:PostA} (PS:List Value→List Deferred→Mem→Prop) (g:∀ l' ds' m',PS l' ds' m'→wpX tb F b l' ds' m' Q) (h:wpX tb F a l ds m (thenA PS Q)):wpX tb F (.seq a b) l ds m Q :=
 xseq (h.mono fun e l' ds' m' h=>by
  cases e with
  |normal=>exact g _ _ _ h
  |_=>exact h)
def wrongV:Value:=.iface 128 (.agg ⟨[]⟩)
def wrongE:PanicEntry := { v:=wrongV,recovered:=false }
def panR (P:Mem→Prop):OutA→Mem→Prop
 | .ret _,_=>False
 | .pan ch,m=>ch=[wrongE]∧P m
def optR {α : Type} (x:Option α) (S : α → Value→Mem→Prop) (P:Mem→Prop):OutA→Mem→Prop
 | .ret v,m=>∃ a,x=some a∧S a v m
 | .pan ch,m=>x=none∧ch=[wrongE]∧P m
theorem isB_undef (w:Bool):isB undef w=false:=_root_.id rfl
attribute [simp] isB_undef
theorem need_t (m:Mem):CallsA tb 75 [.bool true] m (retR fun r m'=>r=.tuple ⟨[]⟩∧m'=m):=by
 refine callsS Tryz.func75 e75 rfl rfl ?_
 simp only [s75,List.replicate,List.length_cons,List.length_nil,List.cons_append,List.nil_append,Nat.reduceAdd,Nat.reduceSub]
 refine xsr fun Q' hQ=>?_
 simp
 subst hQ
 refine xno rfl (xskip ?_)
 exact⟨rfl,_,resX_nil,rfl,rfl⟩
theorem need_f (m:Mem):CallsA tb 75 [.bool false] m (panR fun m'=>m'=m):=by
 refine callsS Tryz.func75 e75 rfl rfl ?_
 simp only [s75,List.replicate,List.length_cons,List.length_nil,List.cons_append,List.nil_append,Nat.reduceAdd,Nat.reduceSub]
 refine xsr fun Q' hQ=>?_
 simp
 subst hQ
 refine xyes rfl ?_
 refine xregQ fun Q' hQ=>?_
 simp
 subst hQ
 exact⟨rfl,rfl,rfl⟩
theorem ln_succ {α : Type} {l:List α} {n:Nat} (h:l.length=n+1):∃ x t,l=x::t∧t.length=n:=by
 cases l with
 |nil=>simp at h
 |cons x t=>exact⟨x,t,rfl,by simpa using h⟩
def strsV (l:List (List UInt8)):List Value:=l.map fun w=>.string ⟨⟨w⟩⟩
theorem strsV_get (l:List (List UInt8)) (k:Nat):(strsV l)[k]? = (l[k]?).map fun w=>.string ⟨⟨w⟩⟩:=by simp [strsV]
theorem stOk_one {V:Vw} {i:Nat} {x:Value} (h1:V.w=true) (h2:i+1≤V.cs.length) (h3:oneC x=true):stOk V i [x]=true:=by
 unfold stOk
 rw [h1,List.all_cons,h3,List.all_nil,Bool.and_true,Bool.and_true,Bool.true_and,Nat.ble_eq]
 exact h2
def WordsV (m:Mem) (p:Nat) (v:Value) (ws:List (List UInt8)):Prop :=
 (v=.slice none 0 0∧ws=[])∨∃ b all,b<p∧vw m b=some ⟨true,9,true,strsV all⟩ ∧
  ((∃ o,v=.slice (some ⟨b,o,none⟩) ws.length ws.length∧ws=all.drop o)∨(ws=[]∧∃ o k,v=.slice (some ⟨b,o,some (k+1)⟩) 0 0))
def LineAt (m:Mem) (p:Nat) (ws:List (List UInt8)):Prop :=
 8≤p∧p<m.next∧ws.length≤2000000∧(∀ w∈ws,w.length≤2000000)∧∃ v,vw m p=some ⟨true,132,false,[v]⟩∧WordsV m p v ws
theorem LineAt.kp {S:List Nat} {m m':Mem} {p:Nat} {ws:List (List UInt8)} (h:LineAt m p ws) (k:Kp S m m') (hS:∀ x∈S,p<x):LineAt m' p ws:=by
 obtain⟨h1,h2,h3,h4,v,h5,h6⟩:=h
 refine⟨h1,Nat.lt_of_lt_of_le h2 k.1,h3,h4,v,by rw [k.vw h2 (fun e=>by have:=hS p e;omega)];exact h5,?_⟩
 rcases h6 with h6|⟨b,all,h7,h8,h9⟩
 ·exact .inl h6
 ·exact .inr ⟨b,all,h7,by rw [k.vw (by omega) (fun e=>by have:=hS b e;omega)];exact h8,h9⟩
theorem LineAt.len {m:Mem} {p:Nat} {ws:List (List UInt8)} (h:LineAt m p ws):∃ a c,vw m p=some ⟨true,132,false,[.slice a ws.length c]⟩:=by
 obtain⟨h1,h2,h3,h4,v,h5,h6⟩:=h
 rcases h6 with ⟨rfl,rfl⟩|⟨b,all,h7,h8,⟨o,rfl,_⟩|⟨rfl,o,k,rfl⟩⟩<;>exact⟨_,_,h5⟩
theorem word_ok {m:Mem} {p:Nat} {ws:List (List UInt8)} (h:LineAt m p ws) :
  CallsA tb 73 [.pointer (some ⟨p,0,none⟩)] m (optR ws.head? (fun w r m'=>r=.string ⟨⟨w⟩⟩∧LineAt m' p ws.tail∧Kp [p] m m') (fun m'=>m'=m)):=by
 refine callsS Tryz.func73 e73 rfl rfl ?_
 simp only [s73,List.replicate,List.length_cons,List.length_nil,List.cons_append,List.nil_append,Nat.reduceAdd,Nat.reduceSub]
 refine xsr fun Q' hQ=>?_
 simp
 subst hQ
 refine xsr fun Q' hQ=>?_
 have hlen:=h.len
 cases ws with
 |nil =>
  obtain⟨a,c,hv⟩:=hlen
  simp [hv]
  refine xcall (ov_none (by decide)) (need_f m) (fun v m' h=>h.elim) ?_
  rintro ch m1 ⟨rfl,rfl⟩
  subst hQ
  exact⟨rfl,rfl,rfl,rfl⟩
 |cons w ws =>
  obtain⟨h1,h2,h3,h4,v,h5,h6⟩:=h
  rcases h6 with ⟨_,e⟩|⟨b,all,h7,h8,⟨o,rfl,h9⟩|⟨e,_⟩⟩
  ·cases e
  ·simp only [List.length_cons] at h5
   have hal:all.length=o+(ws.length+1):=by
    have:=congrArg List.length h9
    simp only [List.length_cons,List.length_drop] at this
    omega
   have hal1:(strsV all)[o]? = some (.string ⟨⟨w⟩⟩):=by
    rw [strsV_get]
    have:(all.drop o)[0]? = some w:=by rw [← h9];rfl
    rw [List.getElem?_drop,Nat.add_zero] at this
    rw [this];rfl
   have hdr:ws=all.drop (o+1):=by
    have:=congrArg List.tail h9
    simpa [List.tail_drop] using this
   simp [h5]
   refine xcall (ov_none (by decide)) (need_t m) ?_ (fun ch m' h=>h.elim)
   rintro r m1 ⟨rfl,rfl⟩
   subst hQ
   refine xsr fun Q' hQ=>?_
   simp [h5,h8,hal1]
   subst hQ
   refine xsr fun Q' hQ=>?_
   have hbp:¬ b=p:=by omega
   have key:∀ (x:Value) (hx:oneC x=true) (l:List Value),WordsV m1 p x ws→wpX tb ⟨73,.normal,none⟩ (.seq (.reg [⟨some 25,.move (.tmp 3),9,.no⟩,⟨some 2,.assign (.tmp 25),9,.no⟩]) .ret) (.pointer (some ⟨p,0,none⟩)::undef::.string ⟨⟨[]⟩⟩::.string ⟨⟨w⟩⟩::l) [] (stM m1 p 0 [x])
     (endX tb [.tmp 2] (optR (some w) (fun w r m'=>r=.string ⟨⟨w⟩⟩∧LineAt m' p ws∧Kp [p] m1 m') fun m'=>m'=m1))∨l.length≠22:=by
    intro x hx l hW
    by_cases hl:l.length=22
    ·left
     refine xsr fun Q' hQ=>?_
     simp [hl]
     subst hQ
     refine xret ⟨rfl,_,resX_one _,w,rfl,by simp [hl],?_,(Kp.refl _ _).st (by simp) _ _⟩
     refine⟨h1,by rw [stM_next];exact h2,by simp at h3;omega,fun w' hw=>h4 w' (.tail _ hw),x,?_,?_⟩
     ·rw [vw_stM_eq h5 (stOk_one rfl (by simp) hx)];rfl
     ·rcases hW with hW|⟨b',all',g1,g2,g3⟩
      ·exact .inl hW
      ·exact .inr ⟨b',all',g1,by rw [vw_stM_ne (by omega)];exact g2,g3⟩
    ·exact .inr hl
   rcases Decidable.em (ws=[]) with hz|hz
   ·simp [h5,h8,hal,hz]
    subst hQ
    refine ((key _ rfl _ (.inr ⟨b,all,h7,h8,.inr ⟨hz,_,_,rfl⟩⟩)).resolve_right ?_)
    simp
   ·simp [h5,h8,hal,hz]
    subst hQ
    refine ((key _ rfl _ (.inr ⟨b,all,h7,h8,.inl ⟨_,rfl,hdr⟩⟩)).resolve_right ?_)
    simp
  ·cases e
end Go.Proofs.YtgmkbdmgifdfeaaGreatDoor

set_option maxRecDepth 8000
namespace Go.Proofs.YtgmkbdmgifdfeaaGreatDoor
open Go Go.Ev
theorem foldl_ge (l:List UInt8):∀ a:Nat,a≤l.foldl (fun v c=>v*10+(c.toNat-48)) a:=by
 induction l with
 |nil=>intro a;exact Nat.le_refl _
 |cons c l ih=>intro a;rw [List.foldl_cons];exact Nat.le_trans (by omega) (ih _)
theorem pu_dig:∀ (l:List UInt8) (a:Nat),a≤18446744073709551615→l.all isDig=true →
  Lib.parseUintM 18446744073709551615 a l=if l.foldl (fun v c=>v*10+(c.toNat-48)) a≤18446744073709551615 then .ok (l.foldl (fun v c=>v*10+(c.toNat-48)) a) else .range
 | [],a,ha,_=>by rw [List.foldl_nil,if_pos ha];rfl
 |c::r,a,ha,h=>by
  rw [List.all_cons,Bool.and_eq_true] at h
  obtain⟨h1,h2⟩:=h
  have hd:48≤c.toNat∧c.toNat≤57:=of_decide_eq_true h1
  rw [List.foldl_cons]
  simp only [Lib.parseUintM]
  rw [if_pos hd]
  have hge:=foldl_ge r (a*10+(c.toNat-48))
  split
  ·rw [if_neg (by omega)]
  ·split
   ·rw [if_neg (by omega)]
   ·exact pu_dig r _ (by omega) h2
theorem pu_not:∀ (l:List UInt8) (a:Nat),l.all isDig=false→∀ u,Lib.parseUintM 18446744073709551615 a l≠.ok u
 | [],a,h=>by simp at h
 |c::r,a,h=>by
  intro u
  simp only [Lib.parseUintM]
  split
  ·rename_i hd
   rw [List.all_cons,show isDig c=true from decide_eq_true hd,Bool.true_and] at h
   split
   ·simp
   ·split
    ·simp
    ·exact pu_not r _ h u
  ·simp
theorem pu_eq {w:List UInt8} (hw:w≠[]):(∃ u,Lib.parseUintB 64 w=.ok u∧w.all isDig=true∧decVal w=u∧u≤18446744073709551615)∨((∀ u,Lib.parseUintB 64 w≠.ok u)∧∀ b,b≤18446744073709551615→numOf w b=none):=by
 have e:Lib.parseUintB 64 w=Lib.parseUintM 18446744073709551615 0 w:=by
  unfold Lib.parseUintB;rw [if_neg hw]
 rw [e]
 cases h:w.all isDig with
 |false =>
  refine .inr ⟨pu_not w 0 h,fun b hb=>?_⟩
  unfold numOf;rw [if_neg];rintro⟨_,h2,_⟩;rw [h] at h2;cases h2
 |true =>
  rw [pu_dig w 0 (by omega) h,← show decVal w=w.foldl (fun v c=>v*10+(c.toNat-48)) 0 from rfl]
  by_cases hv:decVal w≤18446744073709551615
  ·exact .inl ⟨_,if_pos hv,rfl,rfl,hv⟩
  ·refine .inr ⟨fun u=>by rw [if_neg hv];simp,fun b hb=>?_⟩
   unfold numOf;rw [if_neg];rintro⟨_,_,_,h4⟩;omega
theorem if69:(match (tv 69).d with | .interface _=>true|_=>false)=true:=by kernel_rfl
theorem if20:(match (tv 20).d with | .interface _=>true|_=>false)=true:=by kernel_rfl
theorem eqIf_nil {m:Mem} {t:TypeId} {i:TI} (hi:ti tb t=some i) (hd:(match i.d with | .interface _=>true|_=>false)=true) (v:Value):eqA tb m 64 t v .nilIface=eqIf tb (eqA tb m 63) v .nilIface:=by
 rw [eqA]
 simp only [hi,oB]
 obtain⟨d,inf,agg,zc,hz,fl,gd,hl⟩:=i
 cases d<;>simp at hd ⊢
theorem b_if1 {m:Mem} {t:TypeId} {i:TI} (hi:ti tb t=some i) (hd:(match i.d with | .interface _=>true|_=>false)=true) (x:Operand) (u:TypeId) (v:Value):binA tb m .eql t x (.const .nilIface) (.iface u v) .nilIface=some (.bool false)∧binA tb m .neq t x (.const .nilIface) (.iface u v) .nilIface=some (.bool true):=by
 refine⟨?_,?_⟩<;>simp only [binA,eqOp,guardOk,isConst,Bool.or_true,eqIf_nil hi hd,eqIf,oB,Bool.not_false,Bool.not_true]
theorem b_if0 {m:Mem} {t:TypeId} {i:TI} (hi:ti tb t=some i) (hd:(match i.d with | .interface _=>true|_=>false)=true) (x:Operand):binA tb m .eql t x (.const .nilIface) .nilIface .nilIface=some (.bool true)∧binA tb m .neq t x (.const .nilIface) .nilIface .nilIface=some (.bool false):=by
 refine⟨?_,?_⟩<;>simp only [binA,eqOp,guardOk,isConst,Bool.or_true,eqIf_nil hi hd,eqIf,oB,Bool.not_false,Bool.not_true]
theorem e69s {m:Mem} (x:Operand) (u:TypeId) (v:Value):binA tb m .eql 69 x (.const .nilIface) (.iface u v) .nilIface=some (.bool false):=(b_if1 Ty.ti69 if69 x u v).1
theorem e69n {m:Mem} (x:Operand):binA tb m .eql 69 x (.const .nilIface) .nilIface .nilIface=some (.bool true):=(b_if0 Ty.ti69 if69 x).1
theorem n20s {m:Mem} (x:Operand) (u:TypeId) (v:Value):binA tb m .neq 20 x (.const .nilIface) (.iface u v) .nilIface=some (.bool true):=(b_if1 Ty.ti20 if20 x u v).2
theorem n20n {m:Mem} (x:Operand):binA tb m .neq 20 x (.const .nilIface) .nilIface .nilIface=some (.bool false):=(b_if0 Ty.ti20 if20 x).2
attribute [simp] e69s e69n n20s n20n
theorem digits_ok {m:Mem} {w:List UInt8} {b:Nat} (hE:ErrAt m) (hl:w.length≤2000000) (hb:b≤18446744073709551615) :
  CallsA tb 119 [.string ⟨⟨w⟩⟩,.int .u64 (b:Int)] m (optR (numOf w b) (fun v r m'=>r=.int .u64 (v:Int)∧Kp [] m m') (fun m'=>Kp [] m m')):=by
 refine callsS Tryz.func119 e119 rfl rfl ?_
 simp only [s119,List.replicate,List.length_cons,List.length_nil,List.cons_append,List.nil_append,Nat.reduceAdd,Nat.reduceSub]
 refine xsr fun Q' hQ=>?_
 simp
 subst hQ
 refine xseqN (fun l ds m'=>ds=[]∧m'=m∧w≠[]∧(w=[48]∨w.head? ≠ some 48)∧Sl [.string ⟨⟨w⟩⟩,.int .u64 (b:Int),undef,undef,.int .u64 0,undef,undef] 36 l) ?_ ?_
 ·rintro l ds m' ⟨rfl,rfl,hw,hz,ts,hts,rfl⟩
  refine xsr fun Q' hQ=>?_
  rcases pu_eq hw with ⟨u,hu,h1,h2,h3⟩|⟨hu,hno⟩
  ·simp [hts]
   refine xover (m':=m') (v:=.tuple ⟨[.int .u64 (u:Int),.nilIface]⟩) ov_pu ?_ ?_
   ·have:w.length≤281474976710656:=by omega
    simp [puOv,this,hE,hu]
   simp [hts,opExtract]
   subst hQ
   refine xsr fun Q' hQ=>?_
   by_cases hub:u≤b
   ·have hub':(u:Int)≤(b:Int):=by omega
    simp [hts,hub']
    refine xcall (ov_none (by decide)) (need_t _) ?_ (fun ch m' h=>h.elim)
    rintro r m1 ⟨rfl,rfl⟩
    subst hQ
    refine xsr fun Q' hQ=>?_
    simp [hts]
    subst hQ
    refine xret ⟨rfl,_,resX_one _,u,?_,?_,Kp.refl _ _⟩
    ·unfold numOf;rw [if_pos ⟨hw,h1,hz,by omega⟩,h2]
    ·simp [hts]
   ·have hub':¬ (u:Int)≤(b:Int):=by omega
    simp [hts,hub']
    refine xcall (ov_none (by decide)) (need_f _) (fun v m' h=>h.elim) ?_
    rintro ch m1 ⟨rfl,rfl⟩
    subst hQ
    refine⟨rfl,?_,rfl,Kp.refl _ _⟩
    unfold numOf;rw [if_neg];rintro⟨_,_,_,h4⟩;omega
  ·simp [hts]
   have hsz:w.length≤281474976710656:=by omega
   obtain⟨z,hz2⟩:∃ z:Int,puOv [.string ⟨⟨w⟩⟩,.int .i64 10,.int .i64 64] m'=some (.tuple ⟨[.int .u64 z,.iface 195 (.pointer (some ⟨m'.next,0,none⟩))]⟩,newObjA m' .dead):=by
    cases hp:Lib.parseUintB 64 w
    ·exact absurd hp (hu _)
    ·exact⟨0,by simp [puOv,hsz,hE,hp]⟩
    ·exact⟨18446744073709551615,by simp [puOv,hsz,hE,hp]⟩
   refine xover ov_pu hz2 ?_
   simp [hts,opExtract]
   subst hQ
   refine xsr fun Q' hQ=>?_
   simp [hts]
   refine xcall (ov_none (by decide)) (need_f _) (fun v m' h=>h.elim) ?_
   rintro ch m1 ⟨rfl,rfl⟩
   subst hQ
   exact⟨rfl,hno b hb,rfl,(Kp.refl _ _).new _⟩
 ·refine xregQ fun Q' hQ=>?_
  cases w with
  |nil =>
   simp
   refine xcall (ov_none (by decide)) (need_f m) (fun v m' h=>h.elim) ?_
   rintro ch m1 ⟨rfl,rfl⟩
   subst hQ
   exact⟨rfl,rfl,rfl,Kp.refl _ _⟩
  |cons c r =>
   have hc0:(c=48)↔c.toNat=48:=⟨fun h=>by rw [h];rfl,fun h=>by apply UInt8.toNat_inj.1;rw [h];rfl⟩
   have fin:∀ {l:List Value} {Q':PostA} {n:List Value→List Deferred→Mem→Prop},Q'=thenA n (endX tb Tryz.f119.results.toList (optR (numOf (c::r) b) (fun v r m'=>r=.int .u64 (v:Int)∧Kp [] m m') (fun m'=>Kp [] m m')))→numOf (c::r) b=none →
     ∀ ch m1,panR (fun m'=>m'=m) (.pan ch) m1→Q' (.pan ch) l [] m1:=by
    rintro l Q' n rfl hno ch m1 ⟨rfl,rfl⟩
    exact⟨rfl,hno,rfl,Kp.refl _ _⟩
   by_cases h1:48≤c.toNat
   ·have e1:(48:Int)≤(c.toNat:Int):=by omega
    by_cases h2:c.toNat≤57
    ·have e2:(c.toNat:Int)≤57:=by omega
     by_cases h6:c=48
     ·subst h6
      by_cases hr:r=[]
      ·subst hr
       simp
       refine xcall (ov_none (by decide)) (need_t _) ?_ (fun ch m' h=>h.elim)
       rintro r m1 ⟨rfl,rfl⟩
       subst hQ
       exact⟨rfl,rfl,by simp,.inl rfl,Sl.mk rfl rfl⟩
      ·simp [hr]
       refine xcall (ov_none (by decide)) (need_f m) (fun v m' h=>h.elim) (fin hQ ?_)
       unfold numOf;rw [if_neg];rintro⟨_,_,h4,_⟩;simp [hr] at h4
     ·have h7:¬ (c.toNat:Int)=48:=fun e=>h6 (hc0.2 (by omega))
      simp [e1,e2,h6,h7]
      refine xcall (ov_none (by decide)) (need_t _) ?_ (fun ch m' h=>h.elim)
      rintro r m1 ⟨rfl,rfl⟩
      subst hQ
      exact⟨rfl,rfl,by simp,.inr (by simpa using h6),Sl.mk rfl rfl⟩
    ·have e2:¬ (c.toNat:Int)≤57:=by omega
     simp [e1,e2]
     refine xcall (ov_none (by decide)) (need_f m) (fun v m' h=>h.elim) (fin hQ ?_)
     unfold numOf;rw [if_neg];rintro⟨_,h3,_⟩;rw [List.all_cons,Bool.and_eq_true] at h3;exact h2 (of_decide_eq_true h3.1).2
   ·have e1:¬ (48:Int)≤(c.toNat:Int):=by omega
    simp [e1]
    refine xcall (ov_none (by decide)) (need_f m) (fun v m' h=>h.elim) (fin hQ ?_)
    unfold numOf;rw [if_neg];rintro⟨_,h3,_⟩;rw [List.all_cons,Bool.and_eq_true] at h3;exact h1 (of_decide_eq_true h3.1).1
end Go.Proofs.YtgmkbdmgifdfeaaGreatDoor

set_option maxRecDepth 8000
namespace Go.Proofs.YtgmkbdmgifdfeaaGreatDoor
open Go Go.Ev
def rd1 {α : Type} (f:List UInt8→Option α):List (List UInt8)→Option (α × List (List UInt8))
 | []=>none
 |w::ws=>(f w).map fun a=>(a,ws)
theorem optR_mono {α β : Type} {x:Option α} {y:Option β} {S : α → Value→Mem→Prop} {S' : β → Value→Mem→Prop} {P P':Mem→Prop} (h1:∀ a v m,x=some a→S a v m→∃ b,y=some b∧S' b v m) (h2:∀ m,x=none→P m→y=none∧P' m):∀ o m,optR x S P o m→optR y S' P' o m
 | .ret v,m,⟨a,h,k⟩=>h1 a v m h k
 | .pan ch,m,⟨h,e,k⟩=>by obtain⟨e1,e2⟩:=h2 m h k;exact⟨e1,e,e2⟩
theorem number_ok {m:Mem} {p b:Nat} {ws:List (List UInt8)} (h:LineAt m p ws) (hE:ErrAt m) (hb:b≤18446744073709551615) :
  CallsA tb 100 [.pointer (some ⟨p,0,none⟩),.int .u64 (b:Int)] m (optR (rd1 (fun w=>numOf w b) ws) (fun a r m'=>r=.int .u64 (a.1:Int)∧LineAt m' p a.2∧Kp [p] m m') (fun m'=>Kp [p] m m')):=by
 refine callsS Tryz.func100 e100 rfl rfl ?_
 simp only [s100,List.replicate,List.length_cons,List.length_nil,List.cons_append,List.nil_append,Nat.reduceAdd,Nat.reduceSub]
 refine xsr fun Q' hQ=>?_
 simp
 subst hQ
 refine xsr fun Q' hQ=>?_
 simp
 refine xcall (ov_none (by decide)) (word_ok h) ?_ ?_
 ·rintro r m1 ⟨w,hw,rfl,hL,hK⟩
  cases ws with
  |nil=>cases hw
  |cons w' ws =>
   obtain rfl:=Option.some.inj hw
   refine xcall (ov_none (by decide)) (digits_ok (hE.kp hK (by simpa using h.1)) (h.2.2.2.1 _ (.head _)) hb) ?_ ?_
   ·rintro r m2 ⟨v,hv,rfl,hK2⟩
    subst hQ
    refine xret ⟨rfl,_,resX_one _,(v,ws),by simp [rd1,hv],rfl,hL.kp hK2 (by simp),hK.trans (hK2.mono (by simp))⟩
   ·rintro ch m2 ⟨hv,rfl,hK2⟩
    subst hQ
    exact⟨rfl,by simp [rd1,hv],rfl,hK.trans (hK2.mono (by simp))⟩
 ·rintro ch m1 ⟨hw,rfl,rfl⟩
  subst hQ
  cases ws with
  |nil=>exact⟨rfl,rfl,rfl,Kp.refl _ _⟩
  |cons w' ws=>cases hw
theorem long_ok' {m:Mem} {p:Nat} {ws:List (List UInt8)} (h:LineAt m p ws) (hE:ErrAt m) :
  CallsA tb 87 [.pointer (some ⟨p,0,none⟩)] m (optR (rd1 longOf ws) (fun a r m'=>r=.int .u64 a.1∧LineAt m' p a.2∧Kp [p] m m') (fun m'=>Kp [p] m m')):=by
 refine callsS Tryz.func87 e87 rfl rfl ?_
 simp only [s87,List.replicate,List.length_cons,List.length_nil,List.cons_append,List.nil_append,Nat.reduceAdd,Nat.reduceSub]
 refine xsr fun Q' hQ=>?_
 simp
 subst hQ
 refine xsr fun Q' hQ=>?_
 simp
 refine xcall (ov_none (by decide)) (number_ok (b:=18446744073709551615) h hE (by omega)) ?_ ?_
 ·rintro r m1 ⟨a,ha,rfl,hL,hK⟩
  subst hQ
  refine xret ⟨rfl,_,resX_one _,((a.1:Int),a.2),?_,rfl,hL,hK⟩
  cases ws with
  |nil=>cases ha
  |cons w ws =>
   simp only [rd1,Option.map_eq_some_iff] at ha
   obtain⟨v,hv,rfl⟩:=ha
   simp [rd1,longOf,hv]
 ·rintro ch m1 ⟨ha,rfl,hK⟩
  subst hQ
  refine⟨rfl,?_,rfl,hK⟩
  cases ws with
  |nil=>rfl
  |cons w ws =>
   simp only [rd1,Option.map_eq_none_iff] at ha
   simp [rd1,longOf,ha]
theorem way_ok' {m:Mem} {p:Nat} {ws:List (List UInt8)} (h:LineAt m p ws) :
  CallsA tb 95 [.pointer (some ⟨p,0,none⟩)] m (optR (rd1 wayOf ws) (fun a r m'=>r=.int .i64 a.1∧LineAt m' p a.2∧Kp [p] m m') (fun m'=>Kp [p] m m')):=by
 refine callsS Tryz.func95 e95 rfl rfl ?_
 simp only [s95,List.replicate,List.length_cons,List.length_nil,List.cons_append,List.nil_append,Nat.reduceAdd,Nat.reduceSub]
 refine xsr fun Q' hQ=>?_
 simp
 subst hQ
 refine xseq (xseq (xregQ fun Q' hQ=>?_))
 simp
 refine xcall (ov_none (by decide)) (word_ok h) ?_ ?_
 ·rintro r m1 ⟨w,hw,rfl,hL,hK⟩
  cases ws with
  |nil=>cases hw
  |cons w' ws =>
   obtain rfl:=Option.some.inj hw
   subst hQ
   refine xblock (xseq (xregQ fun Q' hQ=>?_))
   simp
   subst hQ
   refine xif (v:=decide (w'=expressB)) rfl (fun h=>?_) (fun h=>?_)
   ·simp only [decide_eq_true_eq] at h
    subst h
    refine xsr fun Q' hQ=>?_
    simp
    subst hQ
    refine xret ⟨rfl,_,resX_one _,(1,ws),by simp [rd1,wayOf],rfl,hL,hK⟩
   ·simp only [decide_eq_false_iff_not] at h
    refine xsr fun Q' hQ=>?_
    simp
    subst hQ
    refine xif (v:=decide (w'=freightB)) rfl (fun h2=>?_) (fun h2=>?_)
    ·simp only [decide_eq_true_eq] at h2
     refine xsr fun Q' hQ=>?_
     simp
     subst hQ
     refine xret ⟨rfl,_,resX_one _,(2,ws),by simp only [rd1,wayOf,if_neg h,if_pos h2];rfl,rfl,hL,hK⟩
    ·simp only [decide_eq_false_iff_not] at h2
     refine xskip ?_
     simp
     refine xregQ fun Q' hQ=>?_
     simp
     subst hQ
     exact⟨rfl,by simp [rd1,wayOf,h,h2],rfl,hK⟩
 ·rintro ch m1 ⟨hw,rfl,rfl⟩
  subst hQ
  cases ws with
  |nil=>exact⟨rfl,rfl,rfl,Kp.refl _ _⟩
  |cons w' ws=>cases hw
theorem cut_pos (r:List UInt8):Lib.hasPrefix (45::r) [45]=true∧Lib.trimPrefix (45::r) [45]=r:=by
 have h:Lib.hasPrefix (45::r) [45]=true:=by simp [Lib.hasPrefix,List.isPrefixOf]
 exact⟨h,by unfold Lib.trimPrefix;rw [if_pos h];rfl⟩
theorem cut_neg {w:List UInt8} (h:w.head? ≠ some 45):Lib.hasPrefix w [45]=false∧Lib.trimPrefix w [45]=w:=by
 have h':Lib.hasPrefix w [45]=false:=by
  cases w with
  |nil=>rfl
  |cons c r =>
   have:¬ (45:UInt8)=c:=fun e=>h (by rw [← e];rfl)
   simp [Lib.hasPrefix,List.isPrefixOf,this]
 exact⟨h',by unfold Lib.trimPrefix;rw [h'];rfl⟩
theorem intOf_neg {w:List UInt8} (h:w.head? ≠ some 45):intOf w=(numOf w 2147483647).map fun v=>(v:Int):=by
 unfold intOf
 split
 ·exact absurd rfl h
 ·rfl
theorem numOf_le {w:List UInt8} {b v:Nat} (h:numOf w b=some v):v≤b:=by
 unfold numOf at h
 split at h
 ·rename_i hc;cases h;exact hc.2.2.2
 ·cases h
theorem whole_ok' {m:Mem} {p:Nat} {ws:List (List UInt8)} (h:LineAt m p ws) (hE:ErrAt m) :
  CallsA tb 84 [.pointer (some ⟨p,0,none⟩)] m (optR (rd1 intOf ws) (fun a r m'=>r=.int .i64 a.1∧LineAt m' p a.2∧Kp [p] m m') (fun m'=>Kp [p] m m')):=by
 refine callsS Tryz.func84 e84 rfl rfl ?_
 simp only [s84,List.replicate,List.length_cons,List.length_nil,List.cons_append,List.nil_append,Nat.reduceAdd,Nat.reduceSub]
 refine xsr fun Q' hQ=>?_
 simp
 subst hQ
 refine xsr fun Q' hQ=>?_
 simp
 refine xcall (ov_none (by decide)) (word_ok h) ?_ ?_
 rotate_left
 ·rintro ch m1 ⟨hw,rfl,rfl⟩
  subst hQ
  cases ws with
  |nil=>exact⟨rfl,rfl,rfl,Kp.refl _ _⟩
  |cons w' ws=>cases hw
 rintro r m1 ⟨w,hw,rfl,hL,hK⟩
 cases ws with
 |nil=>cases hw
 |cons w' ws =>
  obtain rfl:=Option.some.inj hw
  subst hQ
  have hE1:=hE.kp hK (by simpa using h.1)
  have hlen:=h.2.2.2.1 _ (.head _)
  refine xseq (xseq (xregQ fun Q' hQ=>?_))
  simp
  by_cases hm:w'.head? = some 45
  ·cases w' with
   |nil=>cases hm
   |cons c r =>
    obtain rfl:=Option.some.inj hm
    obtain⟨h1,h2⟩:=cut_pos r
    refine xover (m':=m1) (v:=.tuple ⟨[.string ⟨⟨r⟩⟩,.bool true]⟩) ov_cut (by simp [cutOv,h1,h2]) ?_
    simp [opExtract]
    subst hQ
    refine xsr fun Q' hQ=>?_
    simp
    subst hQ
    refine xyes rfl ?_
    refine xsr fun Q' hQ=>?_
    simp
    refine xcall (ov_none (by decide)) (digits_ok (b:=2147483648) hE1 (by simp at hlen;omega) (by omega)) ?_ ?_
    ·rintro r' m2 ⟨v,hv,rfl,hK2⟩
     subst hQ
     refine xsr fun Q' hQ=>?_
     have hK3:=hK.trans (hK2.mono (by simp))
     by_cases hv0:0<v
     ·have hv0':(0:Int)<(v:Int):=by omega
      simp [hv0]
      refine xcall (ov_none (by decide)) (need_t _) ?_ (fun ch m' h=>h.elim)
      rintro r'' m3 ⟨rfl,rfl⟩
      subst hQ
      refine xsr fun Q' hQ=>?_
      have hle:=numOf_le hv
      simp
      rw [wr64 (v:Int) (by omega) (by omega),wr64 (-(v:Int)) (by omega) (by omega)]
      subst hQ
      refine xret ⟨rfl,_,resX_one _,(-(v:Int),ws),by simp [rd1,intOf,hv,hv0],rfl,hL.kp hK2 (by simp),hK3⟩
     ·have hv0':¬ (0:Int)<(v:Int):=by omega
      simp [hv0]
      refine xcall (ov_none (by decide)) (need_f _) (fun v m' h=>h.elim) ?_
      rintro ch m3 ⟨rfl,rfl⟩
      subst hQ
      exact⟨rfl,by simp [rd1,intOf,hv,hv0],rfl,hK3⟩
    ·rintro ch m2 ⟨hv,rfl,hK2⟩
     subst hQ
     exact⟨rfl,by simp [rd1,intOf,hv],rfl,hK.trans (hK2.mono (by simp))⟩
  ·obtain⟨h1,h2⟩:=cut_neg hm
   refine xover (m':=m1) (v:=.tuple ⟨[.string ⟨⟨w'⟩⟩,.bool false]⟩) ov_cut (by simp [cutOv,h1,h2]) ?_
   simp [opExtract]
   subst hQ
   refine xsr fun Q' hQ=>?_
   simp
   subst hQ
   refine xno rfl (xskip ?_)
   refine xsr fun Q' hQ=>?_
   simp
   refine xcall (ov_none (by decide)) (digits_ok (b:=2147483647) hE1 hlen (by omega)) ?_ ?_
   ·rintro r' m2 ⟨v,hv,rfl,hK2⟩
    have hle:=numOf_le hv
    simp
    rw [wr64 (v:Int) (by omega) (by omega)]
    subst hQ
    refine xret ⟨rfl,_,resX_one _,((v:Int),ws),by simp [rd1,intOf_neg hm,hv],rfl,hL.kp hK2 (by simp),hK.trans (hK2.mono (by simp))⟩
   ·rintro ch m2 ⟨hv,rfl,hK2⟩
    subst hQ
    exact⟨rfl,by simp [rd1,intOf_neg hm,hv],rfl,hK.trans (hK2.mono (by simp))⟩
end Go.Proofs.YtgmkbdmgifdfeaaGreatDoor

set_option maxRecDepth 8000
namespace Go.Proofs.YtgmkbdmgifdfeaaGreatDoor
open Go Go.Ev
def hexList:List UInt8:=[48,49,50,51,52,53,54,55,56,57,97,98,99,100,101,102]
theorem hex_at':∀ n:Fin 256,Lib.indexByte hexList (UInt8.ofNat n.val)=(match hexOf (UInt8.ofNat n.val) with|some x=>(x:Int)|none => -1):=by decide +kernel
theorem hex_at (c:UInt8):Lib.indexByte hexList c=(match hexOf c with|some x=>(x:Int)|none => -1):=by
 have:=hex_at' ⟨c.toNat,c.toNat_lt⟩
 simpa using this
theorem hexOf_lt {c:UInt8} {x:Nat} (h:hexOf c=some x):x<16:=by
 unfold hexOf at h
 split at h
 ·cases h;omega
 ·split at h
  ·cases h;omega
  ·cases h
theorem nibble_ok (m:Mem) (c:UInt8):CallsA tb 120 [.int .u8 (c.toNat:Int)] m (optR (hexOf c) (fun x r m'=>r=.int .u8 (x:Int)∧m'=m) (fun m'=>m'=m)):=by
 refine callsS Tryz.func120 e120 rfl rfl ?_
 simp only [s120,List.replicate,List.length_cons,List.length_nil,List.cons_append,List.nil_append,Nat.reduceAdd,Nat.reduceSub]
 refine xsr fun Q' hQ=>?_
 simp
 subst hQ
 refine xsr fun Q' hQ=>?_
 simp
 have hx:=hex_at c
 have hib:ibOv [.string ⟨⟨hexList⟩⟩,.int .u8 (c.toNat:Int)] m=some (.int .i64 (Lib.indexByte hexList c),m):=by
  simp [ibOv]
 refine xover ov_ib hib ?_
 subst hQ
 refine xsr fun Q' hQ=>?_
 cases hc:hexOf c with
 |none =>
  rw [hc] at hx
  simp [hx]
  refine xcall (ov_none (by decide)) (need_f m) (fun v m' h=>h.elim) ?_
  rintro ch m1 ⟨rfl,rfl⟩
  subst hQ
  exact⟨rfl,hc,rfl,rfl⟩
 |some x =>
  have hlt:=hexOf_lt hc
  rw [hc] at hx
  simp only at hx
  have h0:(0:Int)≤(x:Int):=by omega
  simp [hx]
  refine xcall (ov_none (by decide)) (need_t m) ?_ (fun ch m' h=>h.elim)
  rintro r m1 ⟨rfl,rfl⟩
  subst hQ
  refine xsr fun Q' hQ=>?_
  simp
  rw [wru8 (x:Int) (by omega) (by omega)]
  subst hQ
  exact xret ⟨rfl,_,resX_one _,x,hc,rfl,rfl⟩
theorem app1 {n0:Nat} {m:Mem} {v:Value} {o:List UInt8} (h:Own n0 m v 5 o.length (u8s o)) (hn:n0≤m.next) (c:UInt8) :
  ∃ aw v' m3,v=.slice aw o.length o.length∧appendTo (newObjA m (.row ⟨T.setL [.int .u8 (c.toNat:Int)] 0 .lf,1,[.int .u8 0],5,.none,false⟩)) 5 1 (.slice aw o.length o.length) 1 [.int .u8 (c.toNat:Int)]=some (v',m3)∧Own n0 m3 v' 5 (o++[c]).length (u8s (o++[c]))∧Old n0 m m3:=by
 obtain⟨aw,rfl⟩:=h.shape
 obtain⟨v',m3,h5,h6,h7,h8,_⟩:=h.append (k:=0) (sz:=1) (new:=[.int .u8 (c.toNat:Int)]) ((Old.refl _ m).new (Nat.le_refl _) (.row ⟨T.setL [.int .u8 (c.toNat:Int)] 0 .lf,1,[.int .u8 0],5,.none,false⟩)) hn (by simp) (by simp) (by simp)
 have e1:u8s (o++[c])=u8s o++[.int .u8 (c.toNat:Int)]:=by simp [u8s_map]
 exact⟨aw,v',m3,rfl,h5,by rw [e1,List.length_append];exact h6,((Old.refl n0 m).new hn _).trans h8⟩
theorem _root_.Go.Ev.Own.le {n0 n1 n:Nat} {m:Mem} {v:Value} {e:TypeId} {cells:List Value} (h:Own n1 m v e n cells) (k:n0≤n1):Own n0 m v e n cells:=by
 rcases h with h|⟨b,h1,h2,h3,h4⟩
 ·exact .inl h
 ·exact .inr ⟨b,h1,by omega,h3,h4⟩
theorem shl4 {m:Mem} (X Y:Operand) {x:Nat} (h:x<16):binA tb m .shl 5 X Y (.int .u8 (x:Int)) (.int .u64 4)=some (.int .u8 ((16*x:Nat):Int)):=by
 have:=b_shl (tb:=tb) (m:=m) .u8 .u64 5 X Y x 4
 rw [show ((4:Nat):Int)=4 from rfl] at this
 rw [this]
 have e:x*2 ^ Nat.min 4 (IntKind.bits .u8)=16*x:=by show x*2 ^ 4=_;omega
 rw [e,wru8 _ (by omega) (by omega)]
theorem or4 {m:Mem} (X Y:Operand) {x y:Nat} (h:x<16) (h2:y<16):binA tb m .or 5 X Y (.int .u8 ((16*x:Nat):Int)) (.int .u8 (y:Int))=some (.int .u8 ((UInt8.ofNat (16*x+y)).toNat:Int)):=by
 rw [b_or]
 have e:16*x ||| y=16*x+y:=(Nat.two_pow_add_eq_or_of_lt (i:=4) h2 x).symm
 rw [e,wru8 _ (by omega) (by omega),UInt8.toNat_ofNat_of_lt' (by show 16*x+y<256;omega)]
theorem unq_done {i o:List UInt8} (h:unqGo i=(unqGo []).map (o ++ ·)):unqGo i=some o:=by rw [h];simp [unqGo]
theorem text_ok {m:Mem} {p:Nat} {ws:List (List UInt8)} (h:LineAt m p ws) :
  CallsA tb 91 [.pointer (some ⟨p,0,none⟩)] m (optR (rd1 textOf ws) (fun a r m'=>Own m.next m' r 5 a.1.length (u8s a.1)∧a.1.length≤2000000∧LineAt m' p a.2∧Kp [p] m m') (fun m'=>Kp [p] m m')):=by
 refine callsS Tryz.func91 e91 rfl rfl ?_
 simp only [s91,List.replicate,List.length_cons,List.length_nil,List.cons_append,List.nil_append,Nat.reduceAdd,Nat.reduceSub]
 refine xsr fun Q' hQ=>?_
 simp
 subst hQ
 refine xsr fun Q' hQ=>?_
 simp
 refine xcall (ov_none (by decide)) (word_ok h) ?_ ?_
 rotate_left
 ·rintro ch m1 ⟨hw,rfl,rfl⟩
  subst hQ
  cases ws with
  |nil=>exact⟨rfl,rfl,rfl,Kp.refl _ _⟩
  |cons w' ws=>cases hw
 rintro r m1 ⟨w,hw,rfl,hL,hK⟩
 cases ws with
 |nil=>cases hw
 |cons w' ws =>
  obtain rfl:=Option.some.inj hw
  subst hQ
  have hlen:=h.2.2.2.1 _ (.head _)
  have hpn:p<m1.next:=hL.2.1
  have bad:textOf w'=none→∀ {N:List Value→List Deferred→Mem→Prop} {Q':PostA},Q'=thenA N (endX tb Tryz.f91.results.toList (optR (rd1 textOf (w'::ws)) (fun a r m'=>Own m.next m' r 5 a.1.length (u8s a.1)∧a.1.length≤2000000∧LineAt m' p a.2∧Kp [p] m m') (fun m'=>Kp [p] m m'))) →
    ∀ {l:List Value} (ch:List PanicEntry) (m2:Mem),panR (fun m'=>m'=m1) (.pan ch) m2→Q' (.pan ch) l [] m2:=by
   rintro hno N Q' rfl l ch m2 ⟨rfl,rfl⟩
   exact⟨rfl,by simp [rd1,hno],rfl,hK⟩
  refine xseqN (fun l ds m'=>ds=[]∧m'=m1∧(2≤w'.length∧w'.head? = some 34∧w'.getLast? = some 34)∧Sl [.pointer (some ⟨p,0,none⟩),undef,.slice none 0 0,.string ⟨⟨w'⟩⟩,undef,undef,undef,undef] 107 l) ?_ ?_
  rotate_left
  ·refine xregQ fun Q' hQ=>?_
   obtain⟨N,hN⟩:∃ N,w'.length=N:=⟨_,rfl⟩
   by_cases h2:2≤N
   ·have h2':(2:Int)≤(N:Int):=by omega
    obtain⟨n,hn⟩:∃ n,n+1=N:=⟨N-1,by omega⟩
    have hw1:IntKind.wrap .i64 ((N:Int)-1)=(n:Int):=by rw [wr64 _ (by omega) (by omega)];omega
    obtain⟨c,hc⟩:∃ c,w'[0]? = some c:=⟨_,List.getElem?_eq_getElem (by omega)⟩
    obtain⟨d,hd⟩:∃ d,w'[n]? = some d:=⟨_,List.getElem?_eq_getElem (by omega)⟩
    have hlast:w'.getLast? = some d:=by rw [List.getLast?_eq_getElem?,← hd];congr 1;omega
    have hhead:w'.head? = some c:=by rw [List.head?_eq_getElem?];exact hc
    by_cases hc1:c=34
    ·subst hc1
     by_cases hd1:d=34
     ·subst hd1
      simp [hN,h2',hc,hw1,hd]
      refine xcall (ov_none (by decide)) (need_t _) ?_ (fun ch m' h=>h.elim)
      rintro r m2 ⟨rfl,rfl⟩
      subst hQ
      exact⟨rfl,rfl,⟨by omega,hhead,hlast⟩,Sl.mk rfl rfl⟩
     ·have hd2:¬ (d.toNat:Int)=34:=fun e=>hd1 (by apply UInt8.toNat_inj.1;show d.toNat=34;omega)
      simp [hN,h2',hc,hw1,hd,hd2]
      refine xcall (ov_none (by decide)) (need_f _) (fun v m' h=>h.elim) (bad ?_ hQ)
      unfold textOf;rw [if_neg];rintro⟨_,_,h3⟩;rw [hlast] at h3;exact hd1 (Option.some.inj h3)
    ·have hc2:¬ (c.toNat:Int)=34:=fun e=>hc1 (by apply UInt8.toNat_inj.1;show c.toNat=34;omega)
     simp [hN,h2',hc,hc2]
     refine xcall (ov_none (by decide)) (need_f _) (fun v m' h=>h.elim) (bad ?_ hQ)
     unfold textOf;rw [if_neg];rintro⟨_,h3,_⟩;rw [hhead] at h3;exact hc1 (Option.some.inj h3)
   ·have h2':¬ (2:Int)≤(N:Int):=by omega
    simp [hN,h2']
    refine xcall (ov_none (by decide)) (need_f _) (fun v m' h=>h.elim) (bad ?_ hQ)
    unfold textOf;rw [if_neg];rintro⟨h3,_⟩;omega
  rintro l ds m2 ⟨rfl,rfl,hq,ts,hts,rfl⟩
  refine xsr fun Q' hQ=>?_
  have htx:textOf w'=unqGo ((w'.drop 1).dropLast):=by unfold textOf;rw [if_pos hq]
  obtain⟨N,hN⟩:∃ N,w'.length=N:=⟨_,rfl⟩
  obtain⟨n1,hn1⟩:∃ n1,n1+1=N:=⟨N-1,by omega⟩
  have hw1:IntKind.wrap .i64 ((N:Int)-1)=(n1:Int):=by rw [wr64 _ (by omega) (by omega)];omega
  have hinl:((w'.drop 1).dropLast).length=n1-1:=by simp;omega
  have hcut:(w'.drop 1).take (n1-1)=(w'.drop 1).dropLast:=by rw [List.dropLast_eq_take];congr 1;simp;omega
  generalize hin:(w'.drop 1).dropLast=inn at htx hinl hcut
  rw [List.drop_one] at hcut
  have hx1:1≤n1:=by omega
  have hx2:n1≤N:=by omega
  have hx3:inn.length≤2000000:=by omega
  simp [hts,hN,hw1,hx1,hx2,hcut]
  subst hQ
  refine xsr fun Q' hQ=>?_
  simp [hts]
  subst hQ
  refine xseq (xseq (xregQ fun Q' hQ=>?_))
  simp [hts]
  subst hQ
  refine xblock (xwhile (N:=inn.length) (I:=fun q l ds m3=>∃ k o v,q=inn.length-k∧k≤inn.length∧ds=[]∧Old m2.next m2 m3∧Own m2.next m3 v 5 o.length (u8s o)∧o.length≤k∧unqGo inn=(unqGo (inn.drop k)).map (o ++ ·) ∧
    Sl [.pointer (some ⟨p,0,none⟩),undef,.slice none 0 0,.string ⟨⟨w'⟩⟩,.string ⟨⟨inn⟩⟩,v,.int .i64 (k:Nat)] 108 l) ?_ ?_)
  ·refine⟨0,[],.slice none 0 0,rfl,by omega,rfl,.refl _ _,.inl ⟨rfl,rfl,rfl⟩,by simp,by simp,?_⟩
   exact Sl.mk rfl (by simp [hts])
  rintro q l ds m3 ⟨k,o,v,rfl,hk,rfl,hO,hown,hok,hun,us,hus,rfl⟩
  have bad3:unqGo inn=none→rd1 textOf (w'::ws)=none:=fun e=>by simp [rd1,htx,e]
  have hK3:Kp [p] m m3:=hK.trans ((Kp.of_old (S:=[]) hO).mono (by simp))
  have hL3:LineAt m3 p ws:=hL.kp (Kp.of_old (S:=[]) hO) (by simp)
  refine xseq (xseq (xregQ fun Q' hQ=>?_))
  simp [hus]
  subst hQ
  refine xif (v:=decide (k<inn.length)) (by simp [hus]) (fun h=>xskip ?_) (fun h=>xexit ?_)
  ·simp only [decide_eq_true_eq] at h
   obtain⟨c,hc⟩:∃ c,inn[k]? = some c:=⟨_,List.getElem?_eq_getElem h⟩
   have hdr:inn.drop k=c::inn.drop (k+1):=by
    rw [List.drop_eq_getElem_cons h];congr 1;rw [List.getElem?_eq_getElem h] at hc;exact Option.some.inj hc
   obtain⟨k1,hk1⟩:∃ k1,k1=k+1:=⟨_,rfl⟩
   have hw2:IntKind.wrap .i64 ((k:Int)+1)=(k1:Int):=by rw [wr64 _ (by omega) (by omega)];omega
   rw [hdr] at hun
   refine xseqN (fun l ds m4=>ds=[]∧∃ j o v,k≤j∧j+1≤inn.length∧Old m2.next m2 m4∧Own m2.next m4 v 5 o.length (u8s o)∧o.length≤j+1∧unqGo inn=(unqGo (inn.drop (j+1))).map (o ++ ·) ∧
    Sl [.pointer (some ⟨p,0,none⟩),undef,.slice none 0 0,.string ⟨⟨w'⟩⟩,.string ⟨⟨inn⟩⟩,v,.int .i64 (j:Nat)] 108 l) ?_ ?_
   ·rintro l ds m4 ⟨rfl,j,o,v,hj1,hj2,hO,hown,hok,hun,us,hus,rfl⟩
    refine xregQ fun Q' hQ=>?_
    obtain⟨j1,hj⟩:∃ j1,j1=j+1:=⟨_,rfl⟩
    have hw2:IntKind.wrap .i64 ((j:Int)+1)=(j1:Int):=by rw [wr64 _ (by omega) (by omega)];omega
    simp [hus,hw2]
    subst hQ
    subst hj
    exact⟨inn.length-(j+1),by omega,j+1,o,v,rfl,hj2,rfl,hO,hown,hok,hun,Sl.mk rfl (by simp [hus])⟩
   refine xblock ?_
   refine xsr fun Q' hQ=>?_
   simp [hus,hc]
   subst hQ
   obtain⟨u7,us',rfl,hus'⟩:=ln_succ (n:=107) hus
   refine xseqN (fun l ds m'=>ds=[]∧m'=m3∧(32≤c.toNat∧c.toNat≤126∧c≠34)∧Sl [.pointer (some ⟨p,0,none⟩),undef,.slice none 0 0,.string ⟨⟨w'⟩⟩,.string ⟨⟨inn⟩⟩,v,.int .i64 (k:Nat),.int .u8 (c.toNat:Int)] 107 l) ?_ ?_
   rotate_left
   ·refine xregQ fun Q' hQ=>?_
    have hno:¬ (32≤c.toNat∧c.toNat≤126∧c≠34)→unqGo inn=none:=fun e=>by rw [hun,unq_bad _ e];rfl
    by_cases h1:32≤c.toNat
    ·have h1':(32:Int)≤(c.toNat:Int):=by omega
     by_cases h2:c.toNat≤126
     ·have h2':(c.toNat:Int)≤126:=by omega
      by_cases h3:c=34
      ·subst h3
       simp [hus']
       refine xcall (ov_none (by decide)) (need_f _) (fun v m' h=>h.elim) ?_
       rintro ch m4 ⟨rfl,rfl⟩
       subst hQ
       exact⟨rfl,bad3 (hno (by simp)),rfl,hK3⟩
      ·have h3':¬ (c.toNat:Int)=34:=fun e=>h3 (by apply UInt8.toNat_inj.1;show c.toNat=34;omega)
       simp [hus',h1',h2',h3']
       refine xcall (ov_none (by decide)) (need_t _) ?_ (fun ch m' h=>h.elim)
       rintro r m4 ⟨rfl,rfl⟩
       subst hQ
       exact⟨rfl,rfl,⟨h1,h2,h3⟩,Sl.mk rfl (by simp [hus'])⟩
     ·have h2':¬ (c.toNat:Int)≤126:=by omega
      simp [hus',h1',h2']
      refine xcall (ov_none (by decide)) (need_f _) (fun v m' h=>h.elim) ?_
      rintro ch m4 ⟨rfl,rfl⟩
      subst hQ
      exact⟨rfl,bad3 (hno (fun e=>h2 e.2.1)),rfl,hK3⟩
    ·have h1':¬ (32:Int)≤(c.toNat:Int):=by omega
     simp [hus',h1']
     refine xcall (ov_none (by decide)) (need_f _) (fun v m' h=>h.elim) ?_
     rintro ch m4 ⟨rfl,rfl⟩
     subst hQ
     exact⟨rfl,bad3 (hno (fun e=>h1 e.1)),rfl,hK3⟩
   clear us' hus' hus
   rintro l ds m4 ⟨rfl,rfl,hcr,us,hus,rfl⟩
   refine xseq (xseq (xregQ fun Q' hQ=>?_))
   by_cases h92:c=92
   rotate_left
   ·have h92':¬ (c.toNat:Int)=92:=fun e=>h92 (by apply UInt8.toNat_inj.1;show c.toNat=92;omega)
    simp [hus,h92']
    subst hQ
    refine xyes (by simp [hus]) ?_
    obtain⟨aw,v',m5,rfl,g1,g2,g3⟩:=app1 hown hO.1 c
    refine xsr fun Q' hQ=>?_
    simp [hus,fits_true _ o.length o.length 1 1 (by omega),g1]
    subst hQ
    refine xexit ?_
    rw [unq_plain _ hcr h92] at hun
    simp only [thenA_jump,blockA_exit,if_true]
    refine⟨rfl,k,o++[c],v',by omega,by omega,hO.trans g3,g2,by simp;omega,?_,Sl.mk rfl (by simp [hus])⟩
    rw [hun,Option.map_map];congr 1;funext x;simp
   ·subst h92
    simp [hus]
    subst hQ
    refine xno (by simp [hus]) (xskip ?_)
    refine xsr fun Q' hQ=>?_
    simp [hus,hw2]
    subst hQ
    refine xseqN (fun l ds m'=>ds=[]∧m'=m4∧k1<inn.length∧Sl [.pointer (some ⟨p,0,none⟩),undef,.slice none 0 0,.string ⟨⟨w'⟩⟩,.string ⟨⟨inn⟩⟩,v,.int .i64 (k1:Nat),.int .u8 92] 107 l) ?_ ?_
    rotate_left
    ·refine xregQ fun Q' hQ=>?_
     by_cases h1:k1<inn.length
     ·simp [hus,h1]
      refine xcall (ov_none (by decide)) (need_t _) ?_ (fun ch m' h=>h.elim)
      rintro r m4 ⟨rfl,rfl⟩
      subst hQ
      exact⟨rfl,rfl,h1,Sl.mk rfl (by simp [hus])⟩
     ·simp [hus,h1]
      refine xcall (ov_none (by decide)) (need_f _) (fun v m' h=>h.elim) ?_
      rintro ch m4 ⟨rfl,rfl⟩
      subst hQ
      refine⟨rfl,bad3 ?_,rfl,hK3⟩
      rw [hun,List.drop_eq_nil_of_le (by omega),unq_esc0];rfl
    clear hus
    rintro l ds m5 ⟨rfl,rfl,hk2,us,hus,rfl⟩
    obtain⟨d,hd⟩:∃ d,inn[k1]? = some d:=⟨_,List.getElem?_eq_getElem hk2⟩
    have hdr2:inn.drop (k+1)=d::inn.drop (k1+1):=by
     rw [← hk1,List.drop_eq_getElem_cons hk2];congr 1;rw [List.getElem?_eq_getElem hk2] at hd;exact Option.some.inj hd
    rw [hdr2,unq_esc] at hun
    have d1:∀ n:Nat,n<256→¬ d=UInt8.ofNat n→¬ (d.toNat:Int)=(n:Int):=fun n hn e e2=>e (by apply UInt8.toNat_inj.1;rw [UInt8.toNat_ofNat_of_lt' (by simpa using hn)];omega)
    refine xsr fun Q' hQ=>?_
    simp [hus,hd]
    subst hQ
    refine xblock (xseq (xregQ fun Q' hQ=>?_))
    have put:∀ (b:UInt8),unqGo inn=((unqGo (inn.drop (k1+1))).map (b :: ·)).map (o ++ ·)→unqGo inn=(unqGo (inn.drop (k1+1))).map ((o++[b]) ++ ·):=fun b e=>by rw [e,Option.map_map];congr 1;funext x;simp
    by_cases hd1:d=110
    ·subst hd1
     simp [hus]
     subst hQ
     refine xyes (by simp [hus]) ?_
     obtain⟨aw,v',m6,rfl,g1,g2,g3⟩:=app1 hown hO.1 10
     refine xregQ fun Q' hQ=>?_
     simp at g1
     simp [hus,fits_true _ o.length o.length 1 1 (by omega),g1]
     subst hQ
     exact⟨rfl,k1,o++[10],v',by omega,by omega,hO.trans g3,g2,by simp;omega,put 10 (by rw [hun,if_pos rfl]),Sl.mk rfl (by simp [hus])⟩
    have hd1':=d1 110 (by omega) hd1
    simp at hd1'
    simp [hus,hd1']
    subst hQ
    refine xno (by simp [hus]) ?_
    rw [if_neg hd1] at hun
    refine xsr fun Q' hQ=>?_
    by_cases hd2:d=116
    ·subst hd2
     simp [hus]
     subst hQ
     refine xyes (by simp [hus]) ?_
     obtain⟨aw,v',m6,rfl,g1,g2,g3⟩:=app1 hown hO.1 9
     refine xregQ fun Q' hQ=>?_
     simp at g1
     simp [hus,fits_true _ o.length o.length 1 1 (by omega),g1]
     subst hQ
     exact⟨rfl,k1,o++[9],v',by omega,by omega,hO.trans g3,g2,by simp;omega,put 9 (by rw [hun,if_pos rfl]),Sl.mk rfl (by simp [hus])⟩
    have hd2':=d1 116 (by omega) hd2
    simp at hd2'
    simp [hus,hd2']
    subst hQ
    refine xno (by simp [hus]) ?_
    rw [if_neg hd2] at hun
    refine xseqN (fun l ds m'=>ds=[]∧m'=m5∧gx l 80=.bool (decide (d=34∨d=92))∧Sl [.pointer (some ⟨p,0,none⟩),undef,.slice none 0 0,.string ⟨⟨w'⟩⟩,.string ⟨⟨inn⟩⟩,v,.int .i64 (k1:Nat),.int .u8 92] 107 l∧gx l 67=.int .u8 (d.toNat:Int)) ?_ ?_
    rotate_left
    ·refine xsr fun Q' hQ=>?_
     by_cases hd3:d=34
     ·subst hd3
      simp [hus]
      subst hQ
      refine xyes (by simp [hus]) (xskip ?_)
      refine⟨rfl,rfl,by simp [hus],Sl.mk rfl (by simp [hus]),by simp [hus]⟩
     ·have hd3':=d1 34 (by omega) hd3
      simp at hd3'
      simp [hus,hd3']
      subst hQ
      refine xno (by simp [hus]) ?_
      refine xregQ fun Q' hQ=>?_
      by_cases hd4:d=92
      ·subst hd4
       simp [hus]
       subst hQ
       exact⟨rfl,rfl,by simp [hus],Sl.mk rfl (by simp [hus]),by simp [hus]⟩
      ·have hd4':=d1 92 (by omega) hd4
       simp at hd4'
       simp [hus,hd4']
       subst hQ
       exact⟨rfl,rfl,by simp [hus,hd3,hd4],Sl.mk rfl (by simp [hus]),by simp [hus]⟩
    clear hus
    rintro l ds m6 ⟨rfl,rfl,h80,⟨us,hus,rfl⟩,h67⟩
    simp at h80 h67
    by_cases hd5:d=34∨d=92
    ·refine xif (v:=true) (by rw [evL_tmp'];simp [h80,hd5]) (fun _=>?_) (fun h=>by cases h)
     obtain⟨aw,v',m7,rfl,g1,g2,g3⟩:=app1 hown hO.1 d
     refine xregQ fun Q' hQ=>?_
     simp [hus,hd,fits_true _ o.length o.length 1 1 (by omega),g1]
     subst hQ
     exact⟨rfl,k1,o++[d],v',by omega,by omega,hO.trans g3,g2,by simp;omega,put d (by rw [hun,if_pos hd5]),Sl.mk rfl (by simp [hus])⟩
    have hd5':=not_or.1 hd5
    refine xif (v:=false) (by rw [evL_tmp'];simp [h80,hd5'.1,hd5'.2]) (fun h=>by cases h) (fun _=>?_)
    rw [if_neg hd5] at hun
    refine xsr fun Q' hQ=>?_
    by_cases hd6:d=120
    rotate_left
    ·have hd6':=d1 120 (by omega) hd6
     simp at hd6'
     rw [if_neg hd6] at hun
     simp [hus,h67,hd6']
     subst hQ
     refine xno (by simp [hus]) ?_
     refine xregQ fun Q' hQ=>?_
     simp [hus]
     subst hQ
     exact⟨rfl,bad3 (by rw [hun];rfl),rfl,hK3⟩
    subst hd6
    rw [if_pos rfl] at hun
    simp [hus,h67]
    subst hQ
    refine xyes (by simp [hus]) ?_
    refine xsr fun Q' hQ=>?_
    obtain⟨k2,hk3⟩:∃ k2,k2=k1+1:=⟨_,rfl⟩
    obtain⟨k3,hk4⟩:∃ k3,k3=k1+2:=⟨_,rfl⟩
    have hw3:IntKind.wrap .i64 ((k1:Int)+1)=(k2:Int):=by rw [wr64 _ (by omega) (by omega)];omega
    have hw4:IntKind.wrap .i64 ((k1:Int)+2)=(k3:Int):=by rw [wr64 _ (by omega) (by omega)];omega
    by_cases h3:k3<inn.length
    rotate_left
    ·simp [hus,hw4,h3]
     refine xcall (ov_none (by decide)) (need_f _) (fun v m' h=>h.elim) ?_
     rintro ch m4 ⟨rfl,rfl⟩
     subst hQ
     refine⟨rfl,bad3 ?_,rfl,hK3⟩
     rw [hun]
     have:(inn.drop (k1+1)).length≤1:=by simp;omega
     match hx:inn.drop (k1+1),this with
     | [],_=>rfl
     | [_],_=>rfl
     |_::_::_,h=>simp at h
    simp [hus,hw4,h3]
    refine xcall (ov_none (by decide)) (need_t _) ?_ (fun ch m' h=>h.elim)
    rintro r m4 ⟨rfl,rfl⟩
    subst hQ
    obtain⟨a,ha⟩:∃ a,inn[k2]? = some a:=⟨_,List.getElem?_eq_getElem (by omega)⟩
    obtain⟨b,hb⟩:∃ b,inn[k3]? = some b:=⟨_,List.getElem?_eq_getElem (by omega)⟩
    have hdr3:inn.drop (k1+1)=a::b::inn.drop (k3+1):=by
     rw [List.drop_eq_getElem_cons (by omega),List.drop_eq_getElem_cons (by omega)]
     rw [List.getElem?_eq_getElem (by omega)] at ha hb
     have e1:=Option.some.inj ha
     have e2:=Option.some.inj hb
     subst hk3;subst hk4
     rw [e1];congr 2
    rw [hdr3] at hun
    simp only at hun
    have hx0:∀ (l:List Value),l.length=115→True:=fun _ _=>trivial
    obtain⟨aw0,rfl⟩:=hown.shape
    refine xseq (xdrw 5 fun Q' hQ=>?_)
    simp [hus,hw3,ha,hw4,hb]
    refine xcall (ov_none (by decide)) (nibble_ok _ a) ?_ ?_
    rotate_left
    ·rintro ch m7 ⟨hx,rfl,rfl⟩
     subst hQ
     exact⟨rfl,bad3 (by rw [hun,hx];rfl),rfl,hK3⟩
    rintro r m7 ⟨x,hx,rfl,rfl⟩
    obtain⟨z,hz⟩:∃ z,z=16*x:=⟨_,rfl⟩
    have hshl:∀ (m:Mem) (X Y:Operand),binA tb m .shl 5 X Y (.int .u8 (x:Int)) (.int .u64 4)=some (.int .u8 (z:Int)):=fun _ X Y=>by rw [shl4 X Y (hexOf_lt hx),hz]
    simp [hus,hshl]
    refine xcall (ov_none (by decide)) (nibble_ok _ b) ?_ ?_
    rotate_left
    ·rintro ch m7 ⟨hy,rfl,rfl⟩
     subst hQ
     exact⟨rfl,bad3 (by rw [hun,hx,hy];rfl),rfl,hK3⟩
    rintro r m8 ⟨y,hy,rfl,rfl⟩
    obtain⟨c8,hc8⟩:∃ c8,c8=UInt8.ofNat (16*x+y):=⟨_,rfl⟩
    have hor:∀ (m:Mem) (X Y:Operand),binA tb m .or 5 X Y (.int .u8 (z:Int)) (.int .u8 (y:Int))=some (.int .u8 (c8.toNat:Int)):=fun _ X Y=>by rw [hz,or4 X Y (hexOf_lt hx) (hexOf_lt hy),hc8]
    obtain⟨aw,v',m9,he,g1,g2,g3⟩:=app1 hown hO.1 c8
    cases he
    obtain⟨aw1,hv'⟩:=g2.shape
    subst hv'
    simp [hus,hor,hshl,hw3,hw4,fits_true _ o.length o.length 1 1 (by omega),g1]
    subst hQ
    refine xregQ fun Q' hQ=>?_
    simp [hus,hw4]
    subst hQ
    refine⟨rfl,k3,o++[c8],_,by omega,by omega,hO.trans g3,g2,by simp;omega,?_,Sl.mk ?_ (by simp [hus])⟩
    ·rw [hun,hx,hy]
     simp only
     rw [Option.map_map,← hc8];congr 1;funext x;simp
    ·simp
  ·simp only [decide_eq_false_iff_not] at h
   obtain rfl:k=inn.length:=by omega
   rw [List.drop_length] at hun
   refine xsr fun Q' hQ=>?_
   simp [hus]
   subst hQ
   refine xret ?_
   refine⟨rfl,_,resX_one _,(o,ws),by simp [rd1,htx,unq_done hun],?_,by show o.length≤2000000;omega,hL3,hK3⟩
   simp [hus]
   exact hown.le hK.1
end Go.Proofs.YtgmkbdmgifdfeaaGreatDoor

set_option maxRecDepth 8000
namespace Go.Proofs.YtgmkbdmgifdfeaaGreatDoor
open Go Go.Ev
def stpCells (s:Stp) (d c:Value):List Value :=
 [.int .i64 s.kind,.int .i64 s.node,.int .i64 s.stream,.int .u64 s.time,.int .u64 s.life,d,.int .u64 s.seq,.int .i64 s.qc,.int .i64 s.qb,.int .i64 s.way,.int .i64 s.place,.int .i64 s.pos,.int .u32 s.mask,.int .u64 s.ticks,c,.int .i64 s.cursor,.int .u64 s.to]
def Adr (g o:Nat):Prop:=tb.ov.get g=none∧∀ (m:Mem) (b:Nat),CallsA tb g [.pointer (some ⟨b,0,none⟩)] m (retR fun r m'=>r=.pointer (some ⟨b,o,none⟩)∧m'=m)
theorem adr82:Adr 82 2:=by
 refine⟨ov_none (by decide),fun m b=>?_⟩
 refine callsS Tryz.func82 e82 rfl rfl ?_
 simp only [s82,List.replicate,List.length_cons,List.length_nil,List.cons_append,List.nil_append,Nat.reduceAdd,Nat.reduceSub]
 refine xsr fun Q' hQ=>?_
 simp
 subst hQ
 refine xsr fun Q' hQ=>?_
 simp
 subst hQ
 refine xret ?_
 exact⟨rfl,_,resX_one _,rfl,rfl⟩
theorem adr89:Adr 89 3:=by
 refine⟨ov_none (by decide),fun m b=>?_⟩
 refine callsS Tryz.func89 e89 rfl rfl ?_
 simp only [s89,List.replicate,List.length_cons,List.length_nil,List.cons_append,List.nil_append,Nat.reduceAdd,Nat.reduceSub]
 refine xsr fun Q' hQ=>?_
 simp
 subst hQ
 refine xsr fun Q' hQ=>?_
 simp
 subst hQ
 refine xret ?_
 exact⟨rfl,_,resX_one _,rfl,rfl⟩
theorem adr55:Adr 55 4:=by
 refine⟨ov_none (by decide),fun m b=>?_⟩
 refine callsS Tryz.func55 e55 rfl rfl ?_
 simp only [s55,List.replicate,List.length_cons,List.length_nil,List.cons_append,List.nil_append,Nat.reduceAdd,Nat.reduceSub]
 refine xsr fun Q' hQ=>?_
 simp
 subst hQ
 refine xsr fun Q' hQ=>?_
 simp
 subst hQ
 refine xret ?_
 exact⟨rfl,_,resX_one _,rfl,rfl⟩
theorem adr54:Adr 54 6:=by
 refine⟨ov_none (by decide),fun m b=>?_⟩
 refine callsS Tryz.func54 e54 rfl rfl ?_
 simp only [s54,List.replicate,List.length_cons,List.length_nil,List.cons_append,List.nil_append,Nat.reduceAdd,Nat.reduceSub]
 refine xsr fun Q' hQ=>?_
 simp
 subst hQ
 refine xsr fun Q' hQ=>?_
 simp
 subst hQ
 refine xret ?_
 exact⟨rfl,_,resX_one _,rfl,rfl⟩
theorem adr51:Adr 51 7:=by
 refine⟨ov_none (by decide),fun m b=>?_⟩
 refine callsS Tryz.func51 e51 rfl rfl ?_
 simp only [s51,List.replicate,List.length_cons,List.length_nil,List.cons_append,List.nil_append,Nat.reduceAdd,Nat.reduceSub]
 refine xsr fun Q' hQ=>?_
 simp
 subst hQ
 refine xsr fun Q' hQ=>?_
 simp
 subst hQ
 refine xret ?_
 exact⟨rfl,_,resX_one _,rfl,rfl⟩
theorem adr52:Adr 52 8:=by
 refine⟨ov_none (by decide),fun m b=>?_⟩
 refine callsS Tryz.func52 e52 rfl rfl ?_
 simp only [s52,List.replicate,List.length_cons,List.length_nil,List.cons_append,List.nil_append,Nat.reduceAdd,Nat.reduceSub]
 refine xsr fun Q' hQ=>?_
 simp
 subst hQ
 refine xsr fun Q' hQ=>?_
 simp
 subst hQ
 refine xret ?_
 exact⟨rfl,_,resX_one _,rfl,rfl⟩
theorem adr97:Adr 97 10:=by
 refine⟨ov_none (by decide),fun m b=>?_⟩
 refine callsS Tryz.func97 e97 rfl rfl ?_
 simp only [s97,List.replicate,List.length_cons,List.length_nil,List.cons_append,List.nil_append,Nat.reduceAdd,Nat.reduceSub]
 refine xsr fun Q' hQ=>?_
 simp
 subst hQ
 refine xsr fun Q' hQ=>?_
 simp
 subst hQ
 refine xret ?_
 exact⟨rfl,_,resX_one _,rfl,rfl⟩
theorem adr98:Adr 98 11:=by
 refine⟨ov_none (by decide),fun m b=>?_⟩
 refine callsS Tryz.func98 e98 rfl rfl ?_
 simp only [s98,List.replicate,List.length_cons,List.length_nil,List.cons_append,List.nil_append,Nat.reduceAdd,Nat.reduceSub]
 refine xsr fun Q' hQ=>?_
 simp
 subst hQ
 refine xsr fun Q' hQ=>?_
 simp
 subst hQ
 refine xret ?_
 exact⟨rfl,_,resX_one _,rfl,rfl⟩
theorem adr57:Adr 57 13:=by
 refine⟨ov_none (by decide),fun m b=>?_⟩
 refine callsS Tryz.func57 e57 rfl rfl ?_
 simp only [s57,List.replicate,List.length_cons,List.length_nil,List.cons_append,List.nil_append,Nat.reduceAdd,Nat.reduceSub]
 refine xsr fun Q' hQ=>?_
 simp
 subst hQ
 refine xsr fun Q' hQ=>?_
 simp
 subst hQ
 refine xret ?_
 exact⟨rfl,_,resX_one _,rfl,rfl⟩
theorem adr104:Adr 104 15:=by
 refine⟨ov_none (by decide),fun m b=>?_⟩
 refine callsS Tryz.func104 e104 rfl rfl ?_
 simp only [s104,List.replicate,List.length_cons,List.length_nil,List.cons_append,List.nil_append,Nat.reduceAdd,Nat.reduceSub]
 refine xsr fun Q' hQ=>?_
 simp
 subst hQ
 refine xsr fun Q' hQ=>?_
 simp
 subst hQ
 refine xret ?_
 exact⟨rfl,_,resX_one _,rfl,rfl⟩
theorem adr56:Adr 56 16:=by
 refine⟨ov_none (by decide),fun m b=>?_⟩
 refine callsS Tryz.func56 e56 rfl rfl ?_
 simp only [s56,List.replicate,List.length_cons,List.length_nil,List.cons_append,List.nil_append,Nat.reduceAdd,Nat.reduceSub]
 refine xsr fun Q' hQ=>?_
 simp
 subst hQ
 refine xsr fun Q' hQ=>?_
 simp
 subst hQ
 refine xret ?_
 exact⟨rfl,_,resX_one _,rfl,rfl⟩
end Go.Proofs.YtgmkbdmgifdfeaaGreatDoor

