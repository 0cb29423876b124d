/- A part of a proof: ScriptParses. -/
import Derived.Test.YtgmkbdmgifdfeaaGreatDoorA15
set_option linter.unusedVariables false
set_option linter.unusedSimpArgs false
namespace Go.Ev
open Go.RowKit
structure Lp where
 fn:FuncId
 t:T Value
 n:Nat
 ps:List Tmp
 a:Code
 b:Code
 d:Nat
def Lp.ob (L:Lp) (st:LoopState) (pe:Option Code):AObj:=.loop st pe L.fn L.t L.n L.ps L.a L.b L.d
def coll (b:Nat):Deferred := { target:=.collected b,args := #[] }
section
variable {tb:Tabs}
def endR (lp:Nat) (L:Lp) (R:OutA→Mem→Prop):PostA
 | .normal,l,ds,m=>ds=[]∧(∃ st pe,m.objs.get lp=some (L.ob st pe))∧R (.ret (.bool true)) (putObj m lp (L.ob .ready none))
 | .jump .ret,l,ds,m=>ds=[]∧(∃ st pe,m.objs.get lp=some (L.ob st pe))∧R (.ret (.bool false)) (putObj m lp (L.ob .done (some .ret)))
 |_,_,_,_=>False
theorem roundsA_of {lp:Nat} {L:Lp} {m:Mem} {v:Value} {p:Nat} {l:List Value} {R:OutA→Mem→Prop} {pe:Option Code} {sa sb:SCode} (hl:m.objs.get lp=some (L.ob .ready pe)) (hok:(codeOk tb.g L.a&&codeOk tb.g L.b&&(tb.funcs.get L.fn).isSome)=true) (hp:L.ps=[p]) (hpl:p<l.length) (hs:SlotsR l L.t) (hn:L.n=l.length)
  (ha:strip L.a=sa) (hb:strip L.b=sb)
  (h:wpX tb ⟨L.fn,.normal,some lp⟩ sa (l.set p v) [] m (fun e l2 ds2 m2=>e=.normal∧ds2=[]∧(∃ pe2,m2.objs.get lp=some (L.ob .ready pe2)∧wpX tb ⟨L.fn,.normal,some lp⟩ sb l2 [] (putObj m2 lp (L.ob .busy pe2)) (endR lp L R)))):RoundsA tb lp [v] m R:=by
 obtain⟨t1,ht1,hs1⟩:=hs.put (d:=some p) (v:=v) (fun x e=>by cases e;exact hpl)
 have hf:foldPut L.n L.ps [v] L.t=some t1:=by
  rw [hp,hn];simp only [foldPut,ht1,oB]
 refine⟨⟨L.fn,t1,L.n,[.code L.a,.beginRound,.code L.b],[],.run,.normal,some lp⟩,?_,fun c cs=>?_⟩
 ·unfold roundFr
  rw [hl]
  simp only [Lp.ob,hok,hf]
 obtain⟨e,l2,t2,ds2,m2,b2,h1,h2,h3,h4,h5⟩:=h L.a ha t1 [.beginRound,.code L.b] (c::cs) hs1
 obtain⟨rfl,rfl,pe2,h6,h7⟩:=h3
 obtain rfl:=h4
 have hn2:(l.set p v).length=L.n:=by rw [List.length_set,hn]
 rw [hn2] at h5 h2
 have st1:stepA tb ⟨mkF ⟨L.fn,.normal,some lp⟩ t2 L.n [.beginRound,.code L.b] [],c::cs,m2⟩=some ⟨mkF ⟨L.fn,.normal,some lp⟩ t2 L.n [.code L.b] [],c::cs,putObj m2 lp (L.ob .busy pe2)⟩:=by
  simp only [stepA,stepFr,mkF,runFrame,itemA,beginA,h6,Lp.ob,mkA]
 obtain⟨e,l3,t3,ds3,m3,b3,g1,g2,g3,g4,g5⟩:=h7 L.b hb t2 [] (c::cs) h1
 rw [h2] at g4 g5
 have start:=h5.trans (.step st1 g5)
 cases e with
 |normal =>
  obtain rfl:=g4
  obtain⟨rfl,⟨st,pe,h8⟩,hR⟩:=g3
  refine⟨.ret (.bool true),_,hR,fun c1 hc=>start.trans (.one ?_)⟩
  simp only [Lp.ob] at h8 hc ⊢
  simp only [stepA,stepFr,mkF,runFrame,leaveA,frm,h8,hc,am]
 |jump c2 =>
  obtain⟨k',rfl,_,_⟩:=g4
  cases c2<;>first|exact g3.elim|skip
  obtain⟨rfl,⟨st,pe,h8⟩,hR⟩:=g3
  refine⟨.ret (.bool false),_,hR,fun c1 hc=>start.trans (.one ?_)⟩
  simp only [Lp.ob] at h8 hc ⊢
  simp only [stepA,stepFr,mkF,runFrame,itemA,codeA,leaveA,frm,h8,hc,am]
 |pan ch=>exact g3.elim
def aftL (lp:Nat) (L:Lp) (Q:PostA) (l:List Value) (ds:List Deferred) (m:Mem):Prop :=
 (∃ st,st≠.busy∧m.objs.get lp=some (L.ob st none)∧Q .normal l ds (putObj m lp (L.ob .exhausted none))) ∨
 (∃ st,st≠.busy∧m.objs.get lp=some (L.ob st (some .ret))∧Q (.jump .ret) l ds (putObj m lp (L.ob .exhausted (some .ret))))
theorem wp_rng {F:FC} {f:Operand} {ps:Array Tmp} {a b:Code} {l:List Value} {ds:List Deferred} {m:Mem} {Q:PostA} (hro:F.ro=none)
  (h:∀ t,SlotsR l t→∀ L,L=Lp.mk F.fn t l.length ps.toList a b m.next→wpNext tb (callValue tb (evL l f) [.func (.yield (m.next+1)) #[] #[]] (newObjA (newObjA m (.dfr (some []))) (L.ob .ready none))) (coll m.next::ds) (newObjA (newObjA m (.dfr (some []))) (L.ob .ready none))
   (fun _ ds' m'=>aftL (m.next+1) L Q l ds' m') (fun ch m'=>Q (.pan ch) l (coll m.next::ds) m')):wpC tb F (.rangeFunc f ps a b) l ds m Q:=fun t k cs ht=>by
 have h:=h t ht _ rfl
 generalize hL:Lp.mk F.fn t l.length ps.toList a b m.next=L at h
 have key:GoesOn tb F Q l.length k cs ⟨mkF F t l.length (.code (.rangeFunc f ps a b)::k) ds,cs,m⟩:=by
  refine next_ok (kk:=.inRangeFunc (m.next+1)::k) rfl ht (fun ch m' h=>⟨.inr rfl,h⟩) h (fun v m' hk=>?_) fun b2 hb=>?_
  ·refine⟨⟨F.fn,t,l.length,.endRangeFunc (m.next+1)::k,coll m.next::ds,.run,F.kind,F.ro⟩,rfl,?_⟩
   rcases hk with ⟨st,hst,hg,hq⟩|⟨st,hst,hg,hq⟩
   ·refine⟨.normal,l,t,_,_,_,ht,rfl,hq,rfl,.step ?_ (.refl _)⟩
    simp only [Lp.ob] at hg ⊢
    cases st<;>first|exact absurd rfl hst|simp only [stepA,stepFr,runFrame,itemA,endA,hg,mkA,mkF]
   ·refine⟨.jump .ret,l,t,_,_,_,ht,rfl,hq,⟨k,rfl,rfl,rfl⟩,.step ?_ (.refl _)⟩
    simp only [Lp.ob] at hg ⊢
    cases st<;>first|exact absurd rfl hst|simp only [stepA,stepFr,runFrame,itemA,endA,hg,mkA,mkF,codeOk]
  ·subst hL
   rw [← ht.ev f] at hb
   simp only [stepA,stepFr,mkF,runFrame,itemA,codeA,rangeFuncA,hro,frm,coll,Lp.ob] at hb ⊢
   exact hb
 obtain⟨e,l',t',ds',m',b',h1,h2,h3,h4,h5⟩:=key
 exact⟨e,l',t',ds',m',b',h1,h2,h3,h4,h5.to⟩
theorem xrng {F:FC} {f:Operand} {ps:List Tmp} {a b:SCode} {l:List Value} {ds:List Deferred} {m:Mem} {Q:PostA} (hro:F.ro=none) (hg:tb.g=8) (hfn:(tb.funcs.get F.fn).isSome=true)
  (h:∀ L:Lp,L.fn=F.fn→SlotsR l L.t→L.n=l.length→L.ps=ps→strip L.a=a→strip L.b=b→L.d=m.next→(codeOk tb.g L.a&&codeOk tb.g L.b&&(tb.funcs.get L.fn).isSome)=true →
   wpNext tb (callValue tb (evL l f) [.func (.yield (m.next+1)) #[] #[]] (newObjA (newObjA m (.dfr (some []))) (L.ob .ready none))) (coll m.next::ds) (newObjA (newObjA m (.dfr (some []))) (L.ob .ready none))
   (fun _ ds' m'=>aftL (m.next+1) L Q l ds' m') (fun ch m'=>Q (.pan ch) l (coll m.next::ds) m')):wpX tb F (.rng f ps a b true) l ds m Q:=fun c' hs=>by
 unfold strip at hs
 split at hs<;>first|contradiction|skip
 rename_i f' ps' a' b'
 simp only [SCode.rng.injEq] at hs
 obtain⟨rfl,rfl,rfl,rfl,hok⟩:=hs
 refine wp_rng hro fun t ht L hL=>?_
 subst hL
 exact h _ rfl ht rfl rfl rfl rfl rfl (by rw [hg,hfn,Bool.and_true];exact hok)
def endC (tb:Tabs) (rs:List ResultVar) (R:OutA→Mem→Prop):PostA
 | .normal,l,ds,m=>(ds=[]∧∃ v,resX tb rs l m=some v∧R (.ret v) m)∨∃ b,ds=[coll b]∧m.objs.get b=some (.dfr (some []))∧∃ v,resX tb rs l (putObj m b (.dfr none))=some v∧R (.ret v) (putObj m b (.dfr none))
 | .jump .ret,l,ds,m=>(ds=[]∧∃ v,resX tb rs l m=some v∧R (.ret v) m)∨∃ b,ds=[coll b]∧m.objs.get b=some (.dfr (some []))∧∃ v,resX tb rs l (putObj m b (.dfr none))=some v∧R (.ret v) (putObj m b (.dfr none))
 |_,_,_,_=>False
theorem callsXC {f:FuncId} {fd:Func} {c:Code} {s:SCode} {n:Nat} {rs:List ResultVar} {args:List Value} {m:Mem} {R:OutA→Mem→Prop} (hf:tb.funcs.get f=some fd) (hb:fd.body=some c) (hs:strip c=s) (hn:fd.ntmps=n) (hr:fd.results.toList=rs)
  (h:wpX tb ⟨f,.normal,none⟩ s (args++List.replicate (n-args.length) undef) [] m (endC tb rs R)):CallsA tb f args m R:=by
 subst hn;subst hr
 refine⟨⟨f,T.ofList args,max fd.ntmps args.length,[.code c],[],.run,.normal,none⟩,by simp only [enterF,hf,hb],fun cs=>?_⟩
 have hs2:SlotsR (args++List.replicate (fd.ntmps-args.length) undef) (T.ofList args):=fun x=>by
  rw [slots_ofList args x]
  simp only [List.getD_eq_getElem?_getD,List.getElem?_append]
  split
  ·rfl
  ·rename_i hx
   rw [List.getElem?_eq_none (by omega),List.getElem?_replicate]
   split<;>rfl
 have hl:(args++List.replicate (fd.ntmps-args.length) undef).length=max fd.ntmps args.length:=by
  simp only [List.length_append,List.length_replicate];omega
 obtain⟨e,l',t',ds',m',b,h1,h2,h3,h4,h5⟩:=h c hs (T.ofList args) [] cs hs2
 rw [hl] at h5 h4
 have hres:∀ m2,resultsA tb fd t' m2=resX tb fd.results.toList l' m2:=fun m2=>by
  show resultsA tb fd t' m2=resultsA tb fd (T.ofList l') m2
  unfold resultsA
  rw [resA_congr fun x=>(h1.ev (.tmp x)).trans ((slots_ofList l').ev (.tmp x)).symm]
 have fin:∀ {k':List AItem},((ds'=[]∧∃ v,resX tb fd.results.toList l' m'=some v∧R (.ret v) m')∨∃ b,ds'=[coll b]∧m'.objs.get b=some (.dfr (some []))∧∃ v,resX tb fd.results.toList l' (putObj m' b (.dfr none))=some v∧R (.ret v) (putObj m' b (.dfr none))) →
   To tb ⟨⟨f,T.ofList args,max fd.ntmps args.length,[.code c],[],.run,.normal,none⟩,cs,m⟩ ⟨⟨f,t',max fd.ntmps args.length,k',ds',.returning,.normal,none⟩,cs,m'⟩ →
   ∃ out m2 fr,R out m2∧To tb ⟨⟨f,T.ofList args,max fd.ntmps args.length,[.code c],[],.run,.normal,none⟩,cs,m⟩ ⟨fr,cs,m2⟩∧Leav tb f fr m2 out:=by
  intro k' hx hto
  rcases hx with ⟨rfl,v,hv,hR⟩|⟨b,rfl,hg,v,hv,hR⟩
  ·exact⟨.ret v,m',_,hR,hto,rfl,rfl,rfl,rfl,fd,hf,(hres _).trans hv⟩
  ·refine⟨.ret v,_,⟨f,t',max fd.ntmps args.length,k',[],.returning,.normal,none⟩,hR,hto.trans (.one ?_),rfl,rfl,rfl,rfl,fd,hf,(hres _).trans hv⟩
   simp only [stepA,stepFr,unwindA,coll,hg,List.nil_append]
 cases e with
 |normal =>
  obtain rfl:=h4
  exact fin h3 (h5.trans (.one rfl))
 |jump c2 =>
  obtain⟨k',rfl,hk,hj⟩:=h4
  cases c2<;>first|exact h3.elim|skip
  exact fin h3 (h5.trans (.one rfl))
 |pan ch=>exact h3.elim
end
end Go.Ev

