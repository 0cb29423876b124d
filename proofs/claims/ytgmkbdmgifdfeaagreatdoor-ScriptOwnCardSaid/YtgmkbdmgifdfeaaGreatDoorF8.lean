/- A part of a proof: ScriptOwn. -/
import Derived.KernelRfl
import Derived.Lib.Bytealg
import Derived.Test.YtgmkbdmgifdfeaaGreatDoorF7
set_option linter.unusedVariables false
set_option linter.unusedSimpArgs false
namespace Go.Ev
open Go.RowKit
section
variable {tb:Tabs} {N G:Nat} {w0:World} {base:List Frame} {E:Env} {m:Mem} {lo hi:Nat} {cs:List AFrame} {fr':Frame} {cs':List Frame} {w:World} {am:AM} {m0:Machine}
variable {fn:FuncId} {t:T Value} {nt:Nat} {ds:List Deferred} {kind:CallKind} {ro:Option Nat}
theorem resA_ok (ok:TabsOk tb) (HM:MR tb.p N w0 E m w) {tm:Array Value} (hs:TR E t nt tm) (f:ResultVar→Sem Value) (h1:∀ i,f (.tmp i)=pure (tm.getD i undef)) (h2:∀ a ty,f (.cell a ty)=do loadVar ty (← asAddr (tm.getD a undef))) :
  ∀ {l:List ResultVar} {vs:List Value},resA tb t m l=some vs→∃ vs',(l.mapM f).run tb.p w=.ok vs' w∧VRs E vs vs'
 | [],vs,h=>by
   simp only [resA,Option.some.injEq] at h;subst h
   exact⟨[],rfl,.nil⟩
 | .tmp i::l,vs,h=>by
   simp only [resA] at h
   obtain⟨vs1,h3,h4⟩:=oB_some.1 h
   simp only [Option.some.injEq] at h4;subst h4
   obtain⟨vs',a,b⟩:=resA_ok ok HM hs f h1 h2 h3
   refine⟨tm.getD i undef::vs',?_,.cons (hs.2 i (by simp)) b⟩
   rw [List.mapM_cons]
   simp only [Sem.run_bind,h1,pure,Sem.run,Result.andThen_ok,a]
 | .cell r ty::l,vs,h=>by
   simp only [resA] at h
   split at h<;>first|(simp at h;done)|skip
   rename_i a ha
   obtain⟨v,h3,h4⟩:=oB_some.1 h
   obtain⟨vs1,h5,h6⟩:=oB_some.1 h4
   simp only [Option.some.injEq] at h6;subst h6
   obtain⟨vs',q1,q2⟩:=resA_ok ok HM hs f h1 h2 h5
   have hp:=hs.2 r (by simp)
   simp only [ev,ha] at hp
   generalize hq:tm.getD r undef=q at hp
   cases hp with
   | @ptr b o i hE =>
   obtain⟨v',g1,g2⟩:=run_loadA ok HM hE h3
   refine⟨v'::vs',?_,.cons g2 q2⟩
   rw [List.mapM_cons]
   simp only [Sem.run_bind,h2,hq,asAddr,pure,Sem.run,Result.andThen_ok,g1,q1]
theorem results_ok (ok:TabsOk tb) (HM:MR tb.p N w0 E m w) {tm:Array Value} (hs:TR E t nt tm) {fd:Func} {v:Value} (h:resultsA tb fd t m=some v):∃ v',(results fd tm).run tb.p w=.ok v' w∧VR E v v':=by
 have key:∀ vs,resA tb t m fd.results.toList=some vs→∃ vs',(results fd tm).run tb.p w=.ok (if h:(⟨vs'⟩:Array Value).size=1 then (⟨vs'⟩:Array Value)[0] else .tuple ⟨vs'⟩) w∧VRs E vs vs':=by
  intro vs hvs
  obtain⟨vs',a,b⟩:=resA_ok ok HM hs (fun | .tmp t=>pure (tm.getD t undef) | .cell a t=>do loadVar t (← asAddr (tm.getD a undef))) (fun _=>rfl) (fun _ _=>rfl) hvs
  refine⟨vs',?_,b⟩
  unfold results
  rw [Array.mapM_eq_mapM_toList]
  simp only [Sem.run_bind,map_eq_pure_bind,pure,Sem.run]
  erw [a]
  rfl
 unfold resultsA at h
 split at h<;>first|(simp at h;done)|skip
 ·rename_i v0 hv
  simp only [Option.some.injEq] at h;subst h
  obtain⟨vs',a,b⟩:=key _ hv
  cases b with
  |cons h t=>cases t;exact⟨_,a,h⟩
 ·rename_i vs hne hv
  simp only [Option.some.injEq] at h;subst h
  obtain⟨vs',a,b⟩:=key _ hv
  have hl:¬ (⟨vs'⟩:Array Value).size=1:=by
   intro e
   have e1:vs.length=1:=by rw [b.length];simpa using e
   obtain⟨x,rfl⟩:=List.length_eq_one_iff.1 e1
   exact hne x rfl
  rw [dif_neg hl] at a
  exact⟨_,a,.tuple b⟩
theorem returnA_ok [E0C] (ok:TabsOk tb) {k:List AItem} (S:StR tb N G w0 base ⟨⟨fn,t,nt,k,[],.returning,kind,ro⟩,cs,m⟩ fr' cs' w E lo) (h:returnA tb fn t kind cs m=some am):StepOutM tb N G w0 base am (lone fr' cs' w):=by
 have hT:=S.top
 cases hT with
 | @ret _ _ _ _ _ _ _ tm k' ds' ro' hf hs hd hr hk =>
 cases hd
 unfold returnA at h
 split at h<;>first|(simp at h;done)|skip
 rename_i c rest
 split at h<;>first|(simp at h;done)|skip
 rename_i fd hfd
 split at h<;>first|(simp at h;done)|skip
 rename_i v hv
 have hfd':=ok.funcs fn fd hfd
 obtain⟨v',hrun,hvr⟩:=results_ok ok S.mem hs hv
 have hC:=S.callers
 cases hC with
 | @cons _ lo1 _ c' _ rest' hc hct hcl =>
 split at h<;>first|(simp at h;done)|skip
 ·simp only [Go.Ev.am] at h
  split at h<;>first|(simp at h;done)|skip
  rename_i fr1 hf1
  obtain rfl:=Option.some.inj h
  refine back_ok hc hct hcl S.lo S.glob S.mem (.refl _ _ _) hvr hf1 (.one (step_lone_go ?_))
  simp [stepG,unwind,doReturn,hfd',Sem.runT_eq,hrun]
 ·have back:∀ {c1:AFrame} {c1':Frame},FR tb E m lo1 m.next G false c1 c1'→some (⟨c1,rest,m⟩:AM)=some am →
    step tb.p (lone { fn,tmps:=tm,todo:=k',defers:=[],mode:=.returning,kind:=.deferred,roundOf:=ro' } (c'::rest') w)=.next (lone c1' rest' w) →
    StepOutM tb N G w0 base am (lone { fn,tmps:=tm,todo:=k',defers:=[],mode:=.returning,kind:=.deferred,roundOf:=ro' } (c'::rest') w):=by
   intro c1 c1' hF h hst
   obtain rfl:=Option.some.inj h
   exact⟨_,_,_,E,lo1,.one hst,⟨S.mem,S.glob,hF,hct,Nat.le_trans hcl S.lo⟩⟩
  split at h
  ·rename_i p older hmode
   cases hc with
   |run=>simp at hmode
   |ret=>simp at hmode
   | @pan fnc tc ntc kc dsc kindc roc tmc kc' dsc' roc' ch ch' X hfc hsc hX hp hdc hrc hk2 =>
   simp only [FrameMode.panicking.injEq] at hmode
   subst hmode
   cases hp with
   | @cons _ p' _ older' hv e1 e2 hold =>
   obtain⟨pv,pr,pg⟩:=p
   obtain⟨pv',pr',pg'⟩:=p'
   simp only at hv e1 e2 h
   subst e1;subst e2
   split at h
   ·split at h<;>first|(simp at h;done)|skip
    cases hold
    split at h<;>first|(simp at h;done)|skip
    rename_i hdr
    have hX':∀ x,¬ X x:=by
     rcases hX with e|e
     ·exact absurd (hdr.symm.trans e) (by simp)
     ·exact e
    refine back (.ret (k':=kc') hfc ⟨hsc.1,fun x _=>hsc.2 x (hX' x)⟩ hdc hrc hk2) h (step_lone_go ?_)
    simp [stepG,unwind,doReturn,hfd',Sem.runT_eq,hrun]
   ·refine back (.pan (k':=kc') hfc hsc hX (PeR.cons (p := { v:=pv,recovered:=false,goexit:=pg }) (p' := { v:=pv',recovered:=false,goexit:=pg }) hv rfl rfl hold) hdc hrc hk2) h (step_lone_go ?_)
    simp [stepG,unwind,doReturn,hfd',Sem.runT_eq,hrun]
  ·simp at h
  ·rename_i hmode
   cases hc with
   |run=>simp at hmode
   |pan=>simp at hmode
   | @ret fnc tc ntc kc dsc kindc roc tmc kc' dsc' roc' hfc hsc hdc hrc hk2 =>
   refine back (.ret (k':=kc') hfc hsc hdc hrc hk2) h (step_lone_go ?_)
   simp [stepG,unwind,doReturn,hfd',Sem.runT_eq,hrun]
  ·simp at h
theorem unwindA_ok [E0C] (pk:ProgOk tb N G w0) {k:List AItem} {mode:FrameMode} (S:StR tb N G w0 base ⟨⟨fn,t,nt,k,ds,mode,kind,ro⟩,cs,m⟩ fr' cs' w E lo) (hm:mode≠.run) (h:unwindA tb ⟨fn,t,nt,k,ds,mode,kind,ro⟩ cs m=some am):StepOutM tb N G w0 base am (lone fr' cs' w):=by
 unfold unwindA at h
 have parts:∃ tm k' ds' mode' ro',fr' = { fn,tmps:=tm,todo:=k',defers:=ds',mode:=mode',kind,roundOf:=ro' }∧DefsR E ds ds'∧mode'≠.run ∧
   ∀ {ds2:List Deferred} {ds2':List Deferred} {E2:Env} {m2:Mem} {lo2 hi2:Nat} {wait:Bool},Env.le E E2→DefsR E2 ds2 ds2'→FR tb E2 m2 lo2 hi2 G wait ⟨fn,t,nt,k,ds2,mode,kind,ro⟩ { fn,tmps:=tm,todo:=k',defers:=ds2',mode:=mode',kind,roundOf:=ro' }:=by
  have hT:=S.top
  cases hT with
  |run=>exact absurd rfl hm
  |ret hf hs hd hr hk=>exact⟨_,_,_,_,_,rfl,hd,by simp,fun hle h=>.ret hf (hs.mono hle) h (hr.mono hle) hk⟩
  |pan hf hs hX hp hd hr hk=>exact⟨_,_,_,_,_,rfl,hd,by simp,fun hle h=>.pan hf (hs.mono hle) hX (hp.mono hle) h (hr.mono hle) hk⟩
 obtain⟨tm,k',ds',mode',ro',rfl,hd,hm',hF⟩:=parts
 cases ds with
 |cons d ds =>
  simp only at h
  cases hd with
  |cons hd hds =>
  rename_i d' ds'
  cases hd with
  | @coll b i hE =>
    simp only at h
    split at h<;>first|(simp at h;done)|skip
    rename_i calls hb
    obtain rfl:=Option.some.inj h
    obtain⟨ob,hob,hR⟩:=S.mem.objs b i _ hE hb rfl
    cases hR with
    | @dfr _ calls' hcs =>
    obtain⟨p1,p2⟩:=putIter S.mem hE hb rfl (o2:=.dfr none) rfl hob (by simp) (ob2:=.deferred none) .dfr0
    have hrun:(Instr.takeDeferred i.blk).run tb.p w=.ok calls' { w with heap:=w.heap.setIfInBounds i.blk (.deferred none) }:=by
     simp [Instr.takeDeferred,Sem.run_bind,Sem.run,pure,setObj,getObj,hob,Result.andThen]
    have hx:∀ hi,MExt hi E m E (putObj m b (.dfr none)):=fun hi=>MExt.put _ hE
    refine⟨_,_,_,E,lo,.one (step_lone_go ?_),⟨p2,S.glob,hF (.refl _) (hcs.append hds),S.callers.ext (hx _),S.lo⟩⟩
    cases mode' with
    |run=>exact absurd rfl hm'
    |_=>simp [stepG,unwind,Sem.runT_eq,hrun]
  | @fn fv fv' c c' a a' hv ha =>
    simp only at h
    have hn:=invokeA_ok pk S.mem S.glob hv ha
    split at h<;>first|(simp at h;done)|skip
    rename_i f args hi
    rw [hi] at hn
    split at h<;>first|(simp at h;done)|skip
    rename_i g hg
    obtain rfl:=Option.some.inj h
    obtain⟨args',h1,h2⟩:=hn
    have hg0:=hg
    unfold enterF at hg0
    split at hg0<;>first|(simp at hg0;done)|skip
    rename_i fnd hfd
    split at hg0<;>first|(simp at hg0;done)|skip
    rename_i cd hb
    have hrun:=h1 fnd cd hfd hb
    refine⟨_,_,_,E,m.next,.one (step_lone_go ?_),⟨S.mem,S.glob,FR.enter pk hg h2 (.inr rfl),.cons (hF (.refl _) hds) S.callers S.lo,Nat.le_refl _⟩⟩
    cases mode' with
    |run=>exact absurd rfl hm'
    |_=>simp [stepG,unwind,callDeferred,Sem.runT_eq,hrun]
 |nil =>
  cases hd
  simp only at h
  cases mode with
  |run=>exact absurd rfl hm
  |returning=>exact returnA_ok pk.tabs S h
  |panicking chain =>
   simp only at h
   split at h<;>first|(simp at h;done)|skip
   rename_i c rest
   obtain rfl:=Option.some.inj h
   have hT:=S.top
   have hC:=S.callers
   cases hC with
   | @cons _ lo1 _ c' _ rest' hc hct hcl =>
   cases hT with
   |pan hf hs hX hp hd hr hk =>
   refine⟨_,_,_,E,lo1,.one (step_lone_go ?_),⟨S.mem,S.glob,hc.raise hp,hct,Nat.le_trans hcl S.lo⟩⟩
   obtain⟨fd,hfd⟩:=Option.isSome_iff_exists.1 hf
   simp [stepG,unwind,Frame.catches,hfd]
end
end Go.Ev

namespace Go.Ev
open Go.RowKit
section
variable {tb:Tabs} {N G:Nat} {w0:World} {base:List Frame} {E:Env} {m:Mem} {lo hi:Nat} {cs:List AFrame} {fr':Frame} {cs':List Frame} {w:World} {am:AM} {m0:Machine}
variable {fn:FuncId} {t:T Value} {nt:Nat} {ds:List Deferred} {kind:CallKind} {ro:Option Nat} {k:List AItem}
theorem beginA_ok [E0C] {l:Nat} (S:StR tb N G w0 base ⟨⟨fn,t,nt,.beginRound::k,ds,.run,kind,some l⟩,cs,m⟩ fr' cs' w E lo) (h:beginA l k fn t nt ds kind cs m=some am):StepOutM tb N G w0 base am (lone fr' cs' w):=by
 obtain⟨tm,k',ds',ro',X,rfl,ht,hs,hd,hr,hki,hf⟩:=S.top.run_inv
 obtain⟨x',k1,rfl,hx,hk,rfl⟩:=ht.item_inv (by simp) (by simp)
 cases hx
 cases hr with
 | @some _ i hE =>
 unfold beginA at h
 split at h<;>first|(simp at h;done)|skip
 rename_i pe f tl n ps a b d hl
 obtain rfl:=Option.some.inj h
 obtain⟨ob,hob,hR⟩:=S.mem.objs l i _ hE hl rfl
 cases hR with
 | @loop _ _ _ _ _ tml _ _ _ _ jd htl hEd =>
 obtain⟨p1,p2⟩:=putIter S.mem hE hl rfl (o2:=.loop .busy pe f tl n ps a b d) rfl hob (by simp) (ob2:=.loop { state:=.busy,pending:=pe,fn:=f,tmps:=tml,params:=⟨ps⟩,assign:=a,body:=b,defers:=jd.blk }) (.loop htl hEd)
 have hx:∀ hi,MExt hi E m E (putObj m l (.loop .busy pe f tl n ps a b d)):=fun hi=>MExt.put _ hE
 have hrun:(Instr.beginRound i.blk).run tb.p w=.ok () { w with heap:=w.heap.setIfInBounds i.blk (.loop { state:=.busy,pending:=pe,fn:=f,tmps:=tml,params:=⟨ps⟩,assign:=a,body:=b,defers:=jd.blk }) }:=by
  simp [Instr.beginRound,Instr.getLoop,Sem.run_bind,Sem.run,pure,setObj,getObj,hob,Result.andThen]
 refine⟨_,_,_,E,lo,.one (step_lone_go (fr':=rf fn tm ds' kind (some i.blk) k1) ?_),⟨p2,S.glob,FR.plain hk hs hd (.some hE) hki hf,S.callers.ext (hx _),S.lo⟩⟩
 simp [stepG,stepG.exec,rf,stepG.apply,Sem.runT_eq,Sem.run_bind,hrun,pure,Sem.run,Result.andThen,Frame.finish]
theorem endA_ok [E0C] (pk:ProgOk tb N G w0) {l:Nat} (S:StR tb N G w0 base ⟨⟨fn,t,nt,.endRangeFunc l::k,ds,.run,kind,ro⟩,cs,m⟩ fr' cs' w E lo) (h:endA tb l k fn t nt ds kind ro cs m=some am):StepOutM tb N G w0 base am (lone fr' cs' w):=by
 obtain⟨tm,k',ds',ro',X,rfl,ht,hs,hd,hr,hki,hf⟩:=S.top.run_inv
 obtain⟨x',k1,rfl,hx,hk,rfl⟩:=ht.item_inv (by simp) (by simp)
 cases hx with
 | @endRangeFunc _ i hE =>
 unfold endA at h
 split at h<;>first|(simp at h;done)|skip
 rename_i st pe f tl n ps a b d hl
 obtain⟨ob,hob,hR⟩:=S.mem.objs l i _ hE hl rfl
 cases hR with
 | @loop _ _ _ _ _ tml _ _ _ _ jd htl hEd =>
 have go:∀ (k2:List AItem) (k2':List Item),st≠.busy→ItsR E G k2 k2'→mkA fn t nt ds kind ro cs (putObj m l (.loop .exhausted pe f tl n ps a b d)) k2=some am→(pe.map Item.code).toList++k1=k2'→StepOutM tb N G w0 base am (lone (rf fn tm ds' kind ro' (.endRangeFunc i.blk::k1)) cs' w):=by
  intro k2 k2' hst hk2 h he
  obtain rfl:=Option.some.inj h
  obtain⟨p1,p2⟩:=putIter S.mem hE hl rfl (o2:=.loop .exhausted pe f tl n ps a b d) rfl hob (by simp) (ob2:=.loop { state:=.exhausted,pending:=pe,fn:=f,tmps:=tml,params:=⟨ps⟩,assign:=a,body:=b,defers:=jd.blk }) (.loop htl hEd)
  have hx:∀ hi,MExt hi E m E (putObj m l (.loop .exhausted pe f tl n ps a b d)):=fun hi=>MExt.put _ hE
  have hrun:(Instr.endLoop i.blk).run tb.p w=.ok pe { w with heap:=w.heap.setIfInBounds i.blk (.loop { state:=.exhausted,pending:=pe,fn:=f,tmps:=tml,params:=⟨ps⟩,assign:=a,body:=b,defers:=jd.blk }) }:=by
   have:(st==LoopState.busy)=false:=by cases st<;>first|rfl|exact absurd rfl hst
   simp [Instr.endLoop,Instr.getLoop,Sem.run_bind,Sem.run,pure,setObj,getObj,hob,Result.andThen,this,hst]
  refine⟨_,_,_,E,lo,.one (step_lone_go (fr':=rf fn tm ds' kind ro' k2') ?_),⟨p2,S.glob,FR.plain hk2 hs hd hr hki hf,S.callers.ext (hx _),S.lo⟩⟩
  rw [← he]
  simp [stepG,stepG.exec,rf,Sem.runT_eq,hrun]
 split at h<;>first|(simp at h;done)|skip
 rename_i hst
 split at h
 ·rename_i c
  split at h<;>first|(simp at h;done)|skip
  rename_i hc
  rw [pk.g] at hc
  exact go _ _ (fun e=>hst e) (.cons (.code hc) hk) h rfl
 ·exact go _ _ (fun e=>hst e) hk h rfl
theorem rangeFuncA_ok [E0C] (pk:ProgOk tb N G w0) {f:Operand} {ps:Array Tmp} {a b:Code} (S:StR tb N G w0 base ⟨⟨fn,t,nt,.code (.rangeFunc f ps a b)::k,ds,.run,kind,ro⟩,cs,m⟩ fr' cs' w E lo) (h:rangeFuncA tb (ev t f) ps.toList a b k fn t nt ds kind ro cs m=some am):StepOutM tb N G w0 base am (lone fr' cs' w):=by
 obtain⟨tm,k',ds',ro',X,rfl,ht,hs,hd,hr,hki,hf⟩:=S.top.run_inv
 obtain⟨x',k1,rfl,hx,hk,rfl⟩:=ht.item_inv (by simp) (by simp)
 cases hx with
 |code hc =>
 simp only [codeOk,Bool.and_eq_true] at hc
 have main:∀ (l:Nat) (bl:Nat) (m1:Mem) (w1:World) (E1:Env) (ds1:List Deferred) (mark:List Deferred),MR tb.p N w0 E1 m1 w1→MExt m.next E m E1 m1→(∃ i,E1 l=some i∧i.blk=bl)→DefsR E1 ds1 (mark++ds') →
   (Instr.enterLoop fn tm ps a b ro').run tb.p w=.ok (bl,mark) w1→goA tb (callValue tb (ev t f) [.func (.yield l) #[] #[]] m1) (frm fn t nt (.inRangeFunc l::k) ds1 kind ro) cs m1=some am →
   StepOutM tb N G w0 base am (lone (rf fn tm ds' kind ro' (.code (.rangeFunc f ps a b)::k1)) cs' w):=by
  rintro l bl m1 w1 E1 ds1 mark HM hx ⟨i,hE,rfl⟩ hd1 hrun h
  have hG1:GlobE G E1:=fun g hg=>hx.le _ _ (S.glob g hg)
  have hs1:TR E1 t nt tm:=hs.mono hx.le
  have S1:StR tb N G w0 base ⟨frm fn t nt (.inRangeFunc l::k) ds1 kind ro,cs,m1⟩ (rf fn tm (mark++ds') kind ro' (.inRangeFunc i.blk::k1)) cs' w1 E1 lo :=
   ⟨HM,hG1,FR.plain (.cons (.inRangeFunc hE) (hk.mono hx.le)) hs1 hd1 (hr.mono hx.le) hki hf,S.callers.ext (hx.lower S.lo),Nat.le_trans S.lo hx.next⟩
  have hfv:VR E1 (ev t f) ((rf fn tm (mark++ds') kind ro' (.inRangeFunc i.blk::k1)).eval f):=operand_rel hG1 hs1 hc.1.1 (by simp)
  have hn:=callValue_ok pk HM hG1 hfv (a:=[.func (.yield l) #[] #[]]) (a':=[.func (.yield i.blk) #[] #[]]) (.cons (.yield hE) .nil)
  have hn2:NextR tb N G w0 E1 m1 w1 (do let d ← resolve (rf fn tm (mark++ds') kind ro' (.inRangeFunc i.blk::k1)).eval { callee:=.value f,args := #[.const (.func (.yield i.blk) #[] #[])],argTypes := #[] } 0;invoke d.target d.args) (callValue tb (ev t f) [.func (.yield l) #[] #[]] m1):=by
   refine NextR.congr ?_ hn
   have he:(#[Operand.const (.func (.yield i.blk) #[] #[])]:Array Operand).map (rf fn tm (mark++ds') kind ro' (.inRangeFunc i.blk::k1)).eval=⟨[.func (.yield i.blk) #[] #[]]⟩:=Array.ext' (by simp [Frame.eval])
   simp only [resolve,he]
  refine goA_ok pk S1 (by simp [frm]) hn2 ?_ (by simp [rf]) h
  intro fr2 cs2 w2 hb
  refine step_lone_go ?_
  rw [← hb]
  simp only [stepG,stepG.exec,rf,Sem.runT_eq,hrun,GStep.bare_after]
 unfold rangeFuncA at h
 have HM:MR tb.p N w0 E m w:=S.mem
 cases hr with
 |none =>
  simp only at h
  have d0:=HM.dom m.next (Nat.le_refl _)
  have HM0:MR tb.p N w0 (E.add m.next ⟨w.heap.size,0,0⟩) (newObjA m (.dfr (some []))) { w with heap:=w.heap.push (.deferred (some [])) } :=
   (HM.lay (.dfr (some []))).mat (w' := { w with heap:=w.heap.push (.deferred (some [])) }) (ob:=.deferred (some [])) (sh:=0) (ex:=0) d0.2 (by rw [get_newObjA,if_pos rfl]) (by rw [next_newObjA];omega) rfl rfl rfl rfl rfl (.dfr .nil)
  have hx0:MExt m.next E m (E.add m.next ⟨w.heap.size,0,0⟩) (newObjA m (.dfr (some []))):=(MExt.lay HM _).trans (MExt.mat d0.2 (Nat.le_refl _))
  have d1:=HM0.dom (m.next+1) (by rw [next_newObjA];omega)
  have e0:(E.add m.next ⟨w.heap.size,0,0⟩) m.next=some ⟨w.heap.size,0,0⟩:=Env.add_at
  have hle1:Env.le (E.add m.next ⟨w.heap.size,0,0⟩) ((E.add m.next ⟨w.heap.size,0,0⟩).add (m.next+1) ⟨w.heap.size+1,0,0⟩):=Env.add_le d1.2
  have HM1:MR tb.p N w0 ((E.add m.next ⟨w.heap.size,0,0⟩).add (m.next+1) ⟨w.heap.size+1,0,0⟩) (newObjA (newObjA m (.dfr (some []))) (.loop .ready none fn t nt ps.toList a b m.next))
    { w with heap:=(w.heap.push (.deferred (some []))).push (.loop { state:=.ready,pending:=none,fn,tmps:=tm,params:=ps,assign:=a,body:=b,defers:=w.heap.size }) }:=by
   have:=(HM0.lay (.loop .ready none fn t nt ps.toList a b m.next)).mat (b:=m.next+1) d1.2 (o:=.loop .ready none fn t nt ps.toList a b m.next) (ob:=.loop { state:=.ready,pending:=none,fn,tmps:=tm,params:=ps,assign:=a,body:=b,defers:=w.heap.size })
    (w' := { w with heap:=(w.heap.push (.deferred (some []))).push (.loop { state:=.ready,pending:=none,fn,tmps:=tm,params:=ps,assign:=a,body:=b,defers:=w.heap.size }) }) (sh:=0) (ex:=0)
    (by rw [get_newObjA,if_pos (by rw [next_newObjA])]) (by rw [next_newObjA,next_newObjA];omega) rfl rfl rfl rfl rfl (by
     have:(⟨ps.toList⟩:Array Tmp)=ps:=rfl
     simp only [Array.size_push]
     exact .loop (j:=⟨w.heap.size,0,0⟩) (hs.mono (hx0.le.trans hle1)) (hle1 _ _ e0))
   simpa using this
  have hx1:MExt m.next E m _ _:=hx0.trans (((MExt.lay HM0 (.loop .ready none fn t nt ps.toList a b m.next)).lower (by rw [next_newObjA];omega)).trans (MExt.mat (i:=⟨w.heap.size+1,0,0⟩) d1.2 (by omega)))
  refine main (m.next+1) (w.heap.size+1) _ _ _ _ [{ target:=.collected w.heap.size,args := #[] }] HM1 hx1 ⟨_,Env.add_at,rfl⟩ (.cons (.coll (i:=⟨w.heap.size,0,0⟩) (hle1 _ _ e0)) (hd.mono hx1.le)) ?_ h
  simp [Instr.enterLoop,newObj,Sem.run_bind,Sem.run,pure,Result.andThen]
  exact⟨rfl,rfl,rfl⟩
 | @some l i hE =>
   simp only at h
   split at h<;>first|(simp at h;done)|skip
   rename_i st pe f2 tl n ps2 a2 b2 d hl
   obtain⟨ob,hob,hR⟩:=HM.objs l i _ hE hl rfl
   cases hR with
   | @loop _ _ _ _ _ tml _ _ _ _ jd htl hEd =>
   have d0:=HM.dom m.next (Nat.le_refl _)
   have hle0:Env.le E (E.add m.next ⟨w.heap.size,0,0⟩):=Env.add_le d0.2
   have HM0:MR tb.p N w0 (E.add m.next ⟨w.heap.size,0,0⟩) (newObjA m (.loop .ready none fn t nt ps.toList a b d)) { w with heap:=w.heap.push (.loop { state:=.ready,pending:=none,fn,tmps:=tm,params:=ps,assign:=a,body:=b,defers:=jd.blk }) } :=
    (HM.lay (.loop .ready none fn t nt ps.toList a b d)).mat (w' := { w with heap:=w.heap.push (.loop { state:=.ready,pending:=none,fn,tmps:=tm,params:=ps,assign:=a,body:=b,defers:=jd.blk }) }) (ob:=.loop { state:=.ready,pending:=none,fn,tmps:=tm,params:=ps,assign:=a,body:=b,defers:=jd.blk }) (sh:=0) (ex:=0) d0.2 (by rw [get_newObjA,if_pos rfl]) (by rw [next_newObjA];omega) rfl rfl rfl rfl rfl (.loop (hs.mono hle0) (hle0 _ _ hEd))
   have hx0:MExt m.next E m (E.add m.next ⟨w.heap.size,0,0⟩) (newObjA m (.loop .ready none fn t nt ps.toList a b d)):=(MExt.lay HM _).trans (MExt.mat d0.2 (Nat.le_refl _))
   refine main m.next w.heap.size _ _ _ _ [] HM0 hx0 ⟨_,Env.add_at,rfl⟩ (hd.mono hx0.le) ?_ h
   simp [Instr.enterLoop,Instr.getLoop,getObj,hob,newObj,Sem.run_bind,Sem.run,pure,Result.andThen]
end
end Go.Ev

namespace Go.Ev
open Go.RowKit
section
variable {tb:Tabs} {N G:Nat} {w0:World} {base:List Frame} {E:Env} {m:Mem} {lo hi:Nat} {cs:List AFrame} {fr':Frame} {cs':List Frame} {w:World} {am:AM}
variable {fn:FuncId} {t:T Value} {nt:Nat} {ds:List Deferred} {kind:CallKind} {ro:Option Nat} {k:List AItem}
theorem range'_cons {n s:Nat} (h:n<s):List.range' n (s-n)=n::List.range' (n+1) (s-(n+1)):=by
 obtain⟨q,hq⟩:∃ q,s-n=q+1:=⟨s-n-1,by omega⟩
 rw [hq,List.range'_succ,show s-(n+1)=q from by omega]
theorem itemA_ok [E0C] (pk:ProgOk tb N G w0) {i:AItem} (S:StR tb N G w0 base ⟨⟨fn,t,nt,i::k,ds,.run,kind,ro⟩,cs,m⟩ fr' cs' w E lo) (h:itemA tb i k fn t nt ds kind ro cs m=some am):StepOutM tb N G w0 base am (lone fr' cs' w):=by
 cases i with
 |inBlock id=>exact plainItem_ok S h (.inl ⟨_,rfl⟩)
 |inScope b=>exact plainItem_ok S h (.inr (.inl ⟨_,rfl⟩))
 |inLoop b=>exact plainItem_ok S h (.inr (.inr ⟨_,rfl⟩))
 |inRangeFunc l=>simp [itemA] at h
 |beginRound =>
  simp only [itemA] at h
  split at h
  ·exact beginA_ok S h
  ·simp at h
 |endRangeFunc l=>exact endA_ok pk S h
 |code c =>
  refine codeA_ok S h (fun j hj hc=>?_) (fun f ps a b e=>?_)
  ·obtain⟨tm,k',ds',ro',X,rfl,ht,hs,hd,hr,hki,hf⟩:=S.top.run_inv
   obtain⟨x',k1,rfl,hx,hk,rfl⟩:=ht.item_inv (by simp) (by simp)
   cases hx
   refine leaveA_ok S hs hd hr hki hf ?_ hj
   rcases hc with ⟨rfl,rfl⟩|⟨id,rfl,rfl,he⟩|⟨l,rfl,rfl,he⟩
   ·exact .ret _
   ·exact .exit ((exitTo_rel (id:=id) hk).2 he)
   ·exact .goto ((gotoIn_rel (l:=l) hk).2 he)
  ·subst e
   exact rangeFuncA_ok pk S h
 |ops ops l =>
  refine opsItem_ok pk.tabs S h fun o l1 t1 m1 fr2 w2 E2 S2 hw hcall=>?_
  obtain⟨tm,k',ds',ro',X,rfl,ht,hs,hd,hr,hki,hf⟩:=S2.top.run_inv
  obtain⟨n,k1,rfl,hl,hk,hok,rfl⟩:=ht.ops_inv
  obtain⟨h1,h2,h3⟩:=drop_cons hl
  have hlt:n<ops.size:=by simpa using h3
  exact doCall_ok pk S2 (HeadR.of S2.glob hs rfl (by rw [rf,range'_cons hlt]) h1 hok (fun _ _ h=>h) hw) (by simp [frm]) hcall
 |dr ops rem hist mask =>
  refine drItem_ok pk.tabs S h fun i o l hist1 mask1 rest k1 tm ds' ro' t1 m1 w2 E2 S2 ho hdep hw hwr=>?_
  obtain⟨tm2,k',ds2,ro2,X,e,ht,hs,hd,hr,hki,hf⟩:=S2.top.run_inv
  simp only [rf,Frame.mk.injEq,true_and,and_true] at e
  obtain⟨rfl,rfl,rfl,rfl⟩:=e
  obtain⟨sched,k2,e2,hdr,hk,hok,rfl⟩:=ht.dr_inv
  simp only [List.cons.injEq,Item.inRegion.injEq,true_and] at e2
  obtain⟨rfl,rfl⟩:=e2
  have hhd:∀ ops' rem' hist' mask' sched' k3 k3',(frm fn t1 nt (.dr ops ((i,o)::l) hist1 mask1::k) ds kind ro).todo=.dr ops' rem' hist' mask'::k3→(rf fn tm ds' kind ro' (.inRegion ops (i::rest)::k1)).todo=.inRegion ops' sched'::k3'→∃ i o l rest,rem'=(i,o)::l∧sched'=i::rest:=by
   intro ops' rem' hist' mask' sched' k3 k3' g1 g2
   simp only [frm,List.cons.injEq,AItem.dr.injEq] at g1
   simp only [rf,List.cons.injEq,Item.inRegion.injEq] at g2
   obtain⟨⟨_,rfl,_⟩,_⟩:=g1
   obtain⟨⟨_,rfl⟩,_⟩:=g2
   exact⟨_,_,_,_,rfl,rfl⟩
  have HH:=HeadR.of (tb:=tb) (nt:=nt) (fr':=rf fn tm ds' kind ro' (.inRegion ops (i::rest)::k1)) (rest:=rest) (k1:=k1) S2.glob hs rfl rfl ho hok (hdr.reads_done ho hdep) hw
  unfold drWrite at hwr
  simp only at hwr
  split at hwr<;>first|(simp at hwr;done)|skip
  split at hwr<;>first|(simp at hwr;done)|skip
  ·rename_i v m' he
   simp only [Go.Ev.am] at hwr
   split at hwr<;>first|(simp at hwr;done)|skip
   rename_i fr1 hf1
   obtain rfl:=Option.some.inj hwr
   exact write_ok pk.tabs S2 HH hhd he hf1
  ·exact doCall_ok pk S2 HH hhd hwr
theorem stepA_ok [E0C] (pk:ProgOk tb N G w0) {a:AM} (S:StR tb N G w0 base a fr' cs' w E lo) (h:stepA tb a=some am):StepOutM tb N G w0 base am (lone fr' cs' w):=by
 obtain⟨⟨fn,t,nt,todo,ds,mode,kind,ro⟩,cs,m⟩:=a
 unfold stepA stepFr at h
 cases mode with
 |run =>
  simp only [runFrame] at h
  cases todo with
  |nil =>
   obtain⟨tm,k',ds',ro',X,rfl,ht,hs,hd,hr,hki,hf⟩:=S.top.run_inv
   cases ht with
   |plain hk =>
   cases hk
   exact leaveA_ok S hs hd hr hki hf .fin h
  |cons i k=>exact itemA_ok pk S h
 |returning=>exact unwindA_ok pk S (by simp) h
 |panicking chain=>exact unwindA_ok pk S (by simp) h
theorem runA_ok [E0C] (pk:ProgOk tb N G w0):∀ (n:Nat) {a:AM} {fr':Frame} {cs':List Frame} {w:World} {E:Env} {lo:Nat},StR tb N G w0 base a fr' cs' w E lo→runA tb n a=some am→StepOutM tb N G w0 base am (lone fr' cs' w)
 |0,a,fr',cs',w,E,lo,S,h=>by
  obtain rfl:=Option.some.inj h
  exact⟨_,_,_,_,_,.refl _ _,S⟩
 |n+1,a,fr',cs',w,E,lo,S,h=>by
  have h':(match doneA a with|true=>some a|false=>match stepA tb a with|some b=>runA tb n b|none=>none)=some am:=h
  split at h'
  ·obtain rfl:=Option.some.inj h'
   exact⟨_,_,_,_,_,.refl _ _,S⟩
  ·split at h'<;>first|(simp at h';done)|skip
   rename_i b hb
   obtain⟨fr2,cs2,w2,E2,lo2,h1,S2⟩:=stepA_ok pk S hb
   obtain⟨fr3,cs3,w3,E3,lo3,h3,S3⟩:=runA_ok pk n S2 h'
   exact⟨fr3,cs3,w3,E3,lo3,h1.trans h3,S3⟩
end
end Go.Ev

namespace Go.Ev
open Go.RowKit
def Env.globs (G:Nat):Env:=fun b=>if b<G then some ⟨b,0,0⟩ else none
@[reducible] def E0C.none:E0C:=⟨fun _=>Option.none⟩
theorem globs_ok (G:Nat) : @GlobE .none G (Env.globs G) := @GlobE.of .none G _ (fun b hb=>by simp [Env.globs,hb]) (fun _ _ h=>by cases h)
section
variable (tb:Tabs)
noncomputable def finalA (f:FuncId) (am:AM):Option (Value × Mem) :=
 match am with
 | ⟨⟨fn,t,_,_,ds,mode,kind,_⟩,cs,m⟩=>match cs,ds,mode,kind with
   | [],[],.returning,.normal=>match Nat.beq fn f with
     |true=>match tb.funcs.get fn with
      |some fd=>match resultsA tb fd t m with
       |some v=>some (v,m)
       |none=>none
      |none=>none
     |false=>none
   |_,_,_,_=>none
noncomputable def runF (n:Nat) (f:FuncId) (args:List Value) (m:Mem):Option (Value × Mem) :=
 match enterF tb f args .normal with
 |some g=>match runA tb n ⟨g,[],m⟩ with
  |some am=>finalA tb f am
  |none=>none
 |none=>none
end
section
variable {tb:Tabs} {N G:Nat} {w0:World} {E:Env} {m m':Mem} {w:World}
theorem calls_of_runF [E0C] (pk:ProgOk tb N G w0) {f:FuncId} {args args':List Value} {v:Value} (HM:MR tb.p N w0 E m w) (HG:GlobE G E) (ha:VRs E args args') (n:Nat) (h:runF tb n f args m=some (v,m')) :
  Calls tb.p f ⟨args'⟩ w fun e w'=>∃ v' E',e=.returned v'∧VR E' v v'∧MR tb.p N w0 E' m' w':=by
 intro cs
 unfold runF at h
 split at h<;>first|(simp at h;done)|skip
 rename_i g hg
 split at h<;>first|(simp at h;done)|skip
 rename_i am hr
 have S:StR tb N G w0 cs ⟨g,[],m⟩ (Frame.enter tb.p f ⟨args'⟩ .normal) cs w E m.next:=⟨HM,HG,FR.enter pk hg ha (.inl rfl),.nil _,Nat.le_refl _⟩
 obtain⟨fr2,cs2,w2,E2,lo2,hs,S2⟩:=runA_ok pk n S hr
 obtain⟨⟨fn,t,nt,k,ds,mode,kind,ro⟩,cs1,m2⟩:=am
 unfold finalA at h
 simp only at h
 split at h<;>first|(simp at h;done)|skip
 split at h<;>first|(simp at h;done)|skip
 rename_i hfn
 split at h<;>first|(simp at h;done)|skip
 rename_i fd hfd
 split at h<;>first|(simp at h;done)|skip
 rename_i v2 hv2
 simp only [Option.some.injEq,Prod.mk.injEq] at h
 obtain⟨rfl,rfl⟩:=h
 obtain rfl:=Nat.eq_of_beq_eq_true hfn
 have hC:=S2.callers
 cases hC
 have hT:=S2.top
 cases hT with
 | @ret _ _ _ _ _ _ _ tm k' ds' ro' hf hts hd hrr hk =>
 cases hd
 obtain⟨v',hrun,hvr⟩:=results_ok pk.tabs S2.mem hts hv2
 exact⟨.returned v',w2,_,⟨v',E2,rfl,hvr,S2.mem⟩,hs,rfl,rfl,rfl,rfl,fd,pk.tabs.funcs _ _ hfd,hrun⟩
end
theorem mkTabs_ok (P:Program) (g:Nat) (ov:T (List Value→Mem→Option (Value × Mem))):TabsOk (mkTabs P g ov):=by
 refine⟨fun t i h=>?_,fun f fn h=>?_⟩
 ·simp only [ti,mkTabs,T.get_ofList] at h
  split at h
  ·rename_i x hx
   subst h
   rw [List.getElem?_map,Option.map_eq_some_iff] at hx
   obtain⟨a,ha,hb⟩:=hx
   rw [List.getElem?_eq_some_iff] at ha
   obtain⟨_,ha⟩:=ha
   simp only [List.getElem_range] at ha
   rw [ha];exact hb
  ·simp at h
 ·simp only [mkTabs,T.get_ofList] at h
  show P.funcs[f]? = some fn
  simpa using h
theorem find_indexByte {fn:Func} (h:fn.name = "internal/bytealg.IndexByteString"):Extern.find fn=some Extern.BytealgIndexByte.indexByte:=by
 obtain⟨name⟩:=fn
 simp only at h
 subst h
 kernel_rfl
theorem find_noEscape {fn:Func} (h:fn.name = "internal/abi.NoEscape"):Extern.find fn=some Extern.AbiNoEscape.same:=by
 obtain⟨name⟩:=fn
 simp only at h
 subst h
 kernel_rfl
theorem indexByte_eq (c:Nat) (hc:c<256):∀ (l:List UInt8) (i:Nat),indexByte c l i=if Lib.indexByte l c.toUInt8 = -1 then -1 else Lib.indexByte l c.toUInt8+i
 | [],i=>rfl
 |b::l,i=>by
  have hb:(Nat.beq b.toNat c=true)↔b=c.toUInt8:=by
   rw [Nat.beq_eq,← UInt8.toNat_inj]
   simp [Nat.mod_eq_of_lt hc]
  have hge:=Lib.indexByte_ge l c.toUInt8
  unfold indexByte Lib.indexByte
  by_cases e:b=c.toUInt8
  ·rw [hb.2 e];simp [e]
  ·have:Nat.beq b.toNat c=false:=by
    cases h:Nat.beq b.toNat c with
    |false=>rfl
    |true=>exact absurd (hb.1 h) e
   rw [this]
   simp only [indexByte_eq c hc l (i+1)]
   simp only [beq_iff_eq,e,if_false]
   split
   ·rename_i h;simp
   ·rename_i h
    rw [if_neg (by omega)]
    omega
def goodFn (G:Nat) (fn:Func):Bool :=
 match fn.body with
 |some c=>!(fn.name == "runtime.NumGoroutine")&&codeOk G c
 |none=>!(fn.name == "runtime.NumGoroutine")&&(Extern.findNext fn).isNone
theorem progOk_of [E0C] {P:Program} {G N:Nat} {w0:World} (h:P.funcs.toList.all (goodFn G)=true):ProgOk (mkTabs P G .lf) N G w0:=by
 have hget:∀ f fn,(mkTabs P G .lf).funcs.get f=some fn→goodFn G fn=true:=by
  intro f fn hf
  simp only [mkTabs,T.get_ofList] at hf
  exact List.all_eq_true.1 h fn (List.mem_of_getElem? hf)
 refine⟨mkTabs_ok _ _ _,rfl,fun f fn hf=>?_,fun f fn c hf hb=>?_,fun f fn args v hf hb he E args' w ha=>?_,fun f g args m v m' hg=>?_⟩
 ·have:=hget f fn hf
  unfold goodFn at this
  split at this<;>(simp only [Bool.and_eq_true,Bool.not_eq_true'] at this;exact this.1)
 ·have:=hget f fn hf
  unfold goodFn at this
  rw [hb] at this
  simp only [Bool.and_eq_true] at this
  exact this.2
 ·have hg:=hget f fn hf
  unfold goodFn at hg
  rw [hb] at hg
  simp only [Bool.and_eq_true,Bool.not_eq_true',Option.isNone_iff_eq_none] at hg
  obtain⟨g1,g2⟩:=hg
  have hfn:(mkTabs P G .lf).p.funcs[f]? = some fn:=(mkTabs_ok P G .lf).funcs f fn hf
  have hcall:∀ {e:Array Value→Sem Value} {v':Value},Extern.find fn=some e→(e ⟨args'⟩).run (mkTabs P G .lf).p w=.ok v' w→(callFunc f ⟨args'⟩).run (mkTabs P G .lf).p w=.ok (.value v') w:=by
   intro e v' h1 h2
   have g1':¬ fn.name = "runtime.NumGoroutine" := by simpa using g1
   unfold callFunc
   simp [hfn,g1',hb,g2,h1,h2]
  unfold externA at he
  split at he
  ·rename_i hn
   split at he<;>first|(simp at he;done)|skip
   split at he<;>first|(simp at he;done)|skip
   rename_i s c _ hc
   simp only [ANext.value.injEq] at he
   subst he
   obtain⟨_,_,rfl,h1,h2⟩:=ha.two
   cases h1
   cases h2
   have hc':c<256:=by simpa [Nat.blt_eq] using hc
   refine⟨_,hcall (find_indexByte (by simpa using hn)) (Lib.run_indexByteString s _ w),?_⟩
   rw [vInt_eq,indexByte_eq c hc']
   have:(if Lib.indexByte s.data.toList c.toUInt8 = -1 then -1 else Lib.indexByte s.data.toList c.toUInt8+(0:Nat))=Lib.indexByte s.data.toList (Int.ofNat c).toNat.toUInt8:=by
    show _=Lib.indexByte s.data.toList c.toUInt8
    split
    ·rename_i h;exact h.symm
    ·simp
   rw [this]
   exact .int _ _
  ·split at he<;>first|(simp at he;done)|skip
   rename_i hn
   split at he<;>first|(simp at he;done)|skip
   simp only [ANext.value.injEq] at he
   subst he
   obtain⟨_,rfl,h1⟩:=ha.one
   exact⟨_,hcall (find_noEscape (by simpa using hn)) rfl,h1⟩
 ·simp [mkTabs,T.get_lf] at hg
end Go.Ev

namespace Go.Ev
open Go.RowKit
section
variable (tb:Tabs)
noncomputable def stepsA:Nat→AM→Option AM
 |0,a=>some a
 |n+1,a=>match stepA tb a with|some b=>stepsA n b|none=>none
def To (a b:AM):Prop:=∃ n,stepsA tb n a=some b
def To1 (a b:AM):Prop:=∃ n,stepsA tb (n+1) a=some b
variable {tb} {a b c:AM}
theorem To.refl (a:AM):To tb a a:=⟨0,rfl⟩
theorem To.step (h:stepA tb a=some b) (k:To tb b c):To tb a c:=by
 obtain⟨n,k⟩:=k
 exact⟨n+1,by simp only [stepsA,h];exact k⟩
theorem To.one (h:stepA tb a=some b):To tb a b:=.step h (.refl b)
theorem stepsA_add:∀ {n k:Nat} {a b c:AM},stepsA tb n a=some b→stepsA tb k b=some c→stepsA tb (n+k) a=some c
 |0,k,a,b,c,h,g=>by
  obtain rfl:=Option.some.inj h
  rw [Nat.zero_add];exact g
 |n+1,k,a,b,c,h,g=>by
  rw [Nat.succ_add]
  simp only [stepsA] at h ⊢
  split at h<;>first|(simp at h;done)|skip
  exact stepsA_add h g
theorem To.trans (h:To tb a b) (k:To tb b c):To tb a c:=by
 obtain⟨n,h⟩:=h
 obtain⟨j,k⟩:=k
 exact⟨_,stepsA_add h k⟩
theorem To1.to (h:To1 tb a b):To tb a b:=by obtain⟨n,h⟩:=h;exact⟨_,h⟩
theorem To1.trans (h:To1 tb a b) (k:To tb b c):To1 tb a c:=by
 obtain⟨n,h⟩:=h
 obtain⟨j,k⟩:=k
 refine⟨n+j,?_⟩
 rw [show n+j+1=(n+1)+j from by omega]
 exact stepsA_add h k
theorem To1.step (h:stepA tb a=some b) (k:To tb b c):To1 tb a c:=by
 obtain⟨n,k⟩:=k
 exact⟨n,by simp only [stepsA,h];exact k⟩
theorem To1.congr {a2:AM} (e:stepA tb a=stepA tb a2) (h:To1 tb a2 b):To1 tb a b:=by
 obtain⟨n,h⟩:=h
 refine⟨n,?_⟩
 simp only [stepsA] at h ⊢
 rw [e];exact h
theorem To.ok [E0C] {N G:Nat} {w0:World} {base:List Frame} (pk:ProgOk tb N G w0) (h:To tb a b):∀ {fr':Frame} {cs':List Frame} {w:World} {E:Env} {lo:Nat},StR tb N G w0 base a fr' cs' w E lo→StepOutM tb N G w0 base b (lone fr' cs' w):=by
 obtain⟨n,h⟩:=h
 induction n generalizing a with
 |zero =>
  intro fr' cs' w E lo S
  obtain rfl:=Option.some.inj h
  exact⟨_,_,_,_,_,.refl _ _,S⟩
 |succ n ih =>
  intro fr' cs' w E lo S
  simp only [stepsA] at h
  split at h<;>first|(simp at h;done)|skip
  rename_i q hq
  obtain⟨fr2,cs2,w2,E2,lo2,h1,S2⟩:=stepA_ok pk S hq
  obtain⟨fr3,cs3,w3,E3,lo3,h3,S3⟩:=ih h S2
  exact⟨fr3,cs3,w3,E3,lo3,h1.trans h3,S3⟩
end
inductive OutA where
 |ret (v:Value)
 |pan (ch:List PanicEntry)
section
variable (tb:Tabs)
def Leav (f:FuncId) (fr:AFrame) (m:Mem):OutA→Prop
 | .ret v=>fr.defers=[]∧fr.mode=.returning∧fr.kind=.normal∧fr.fn=f∧∃ fd,tb.funcs.get f=some fd∧resultsA tb fd fr.tmps m=some v
 | .pan ch=>fr.defers=[]∧fr.mode=.panicking ch
def CallsA (f:FuncId) (args:List Value) (m:Mem) (R:OutA→Mem→Prop):Prop :=
 ∃ g,enterF tb f args .normal=some g∧∀ cs,∃ out m' fr,R out m'∧To tb ⟨g,cs,m⟩ ⟨fr,cs,m'⟩∧Leav tb f fr m' out
variable {tb}
theorem CallsA.mono {f:FuncId} {args:List Value} {m:Mem} {R R':OutA→Mem→Prop} (h:CallsA tb f args m R) (k:∀ o m',R o m'→R' o m'):CallsA tb f args m R':=by
 obtain⟨g,h1,h2⟩:=h
 exact⟨g,h1,fun cs=>by obtain⟨o,m',fr,a,b⟩:=h2 cs;exact⟨o,m',fr,k _ _ a,b⟩⟩
theorem leav_ret {f:FuncId} {fr c:AFrame} {cs:List AFrame} {m:Mem} {v:Value} {c1:AFrame} (h:Leav tb f fr m (.ret v)) (hf:finishA tb c v m=some c1):stepA tb ⟨fr,c::cs,m⟩=some ⟨c1,cs,m⟩:=by
 obtain⟨fn,t,nt,todo,ds,mode,kind,ro⟩:=fr
 obtain⟨h1,h2,h3,h4,fd,h5,h6⟩:=h
 simp only at h1 h2 h3 h4 h6
 subst h1;subst h2;subst h3;subst h4
 simp only [stepA,stepFr,unwindA,returnA,h5,h6,hf,am]
theorem leav_pan {f:FuncId} {fr c:AFrame} {cs:List AFrame} {m:Mem} {ch:List PanicEntry} (h:Leav tb f fr m (.pan ch)):stepA tb ⟨fr,c::cs,m⟩=some ⟨raiseA c ch,cs,m⟩:=by
 obtain⟨fn,t,nt,todo,ds,mode,kind,ro⟩:=fr
 obtain⟨h1,h2⟩:=h
 simp only at h1 h2
 subst h1;subst h2
 simp only [stepA,stepFr,unwindA]
theorem calls_of_callsE [I:E0C] {N G:Nat} {w0:World} {E:Env} {m:Mem} {w:World} (pk:ProgOk tb N G w0) {f:FuncId} {args args':List Value} {R:Value→Mem→Prop} (HM:MR tb.p N w0 E m w) (HG:GlobE G E) (ha:VRs E args args')
  (h:CallsA tb f args m fun out m'=>∃ v,out=.ret v∧R v m') :
  Calls tb.p f ⟨args'⟩ w fun e w'=>∃ v v' E' m',R v m'∧e=.returned v'∧VR E' v v'∧MR tb.p N w0 E' m' w'∧Env.le I.e0 E':=by
 intro cs
 obtain⟨g,hg,h⟩:=h
 obtain⟨out,m',fr,⟨v,rfl,hR⟩,hto,hl⟩:=h []
 have S:StR tb N G w0 cs ⟨g,[],m⟩ (Frame.enter tb.p f ⟨args'⟩ .normal) cs w E m.next:=⟨HM,HG,FR.enter pk hg ha (.inl rfl),.nil _,Nat.le_refl _⟩
 obtain⟨fr2,cs2,w2,E2,lo2,hs,S2⟩:=hto.ok pk S
 obtain⟨h1,h2,h3,h4,fd,h5,h6⟩:=hl
 have hC:=S2.callers
 cases hC
 have hT:=S2.top
 obtain⟨fn,t,nt,todo,ds,mode,kind,ro⟩:=fr
 simp only at h1 h2 h3 h4 h6 hT
 subst h1;subst h2;subst h3;subst h4
 cases hT with
 | @ret _ _ _ _ _ _ _ tm k' ds' ro' hf hts hd hrr hk =>
 cases hd
 obtain⟨v',hrun,hvr⟩:=results_ok pk.tabs S2.mem hts h6
 exact⟨.returned v',w2,_,⟨v,v',E2,m',hR,rfl,hvr,S2.mem,S2.glob.le0⟩,hs,rfl,rfl,rfl,rfl,fd,pk.tabs.funcs _ _ h5,hrun⟩
theorem calls_of_callsA [E0C] {N G:Nat} {w0:World} {E:Env} {m:Mem} {w:World} (pk:ProgOk tb N G w0) {f:FuncId} {args args':List Value} {R:Value→Mem→Prop} (HM:MR tb.p N w0 E m w) (HG:GlobE G E) (ha:VRs E args args')
  (h:CallsA tb f args m fun out m'=>∃ v,out=.ret v∧R v m') :
  Calls tb.p f ⟨args'⟩ w fun e w'=>∃ v v' E' m',R v m'∧e=.returned v'∧VR E' v v'∧MR tb.p N w0 E' m' w' :=
 (calls_of_callsE pk HM HG ha h).mono fun e w' ⟨v,v',E',m',h1,h2,h3,h4,_⟩=>⟨v,v',E',m',h1,h2,h3,h4⟩
end
def SlotsR (l:List Value) (t:T Value):Prop:=∀ x,ev t (.tmp x)=l.getD x undef
noncomputable def evL (l:List Value) (x:Operand):Value:=ev (T.ofList l) x
theorem slots_ofList (l:List Value):SlotsR l (T.ofList l):=fun x=>by
 simp only [ev,T.get_ofList,List.getD_eq_getElem?_getD]
 cases l[x]? <;> rfl
theorem SlotsR.ev {l:List Value} {t:T Value} (h:SlotsR l t) (x:Operand):ev t x=evL l x:=by
 unfold evL
 cases x with
 |tmp i=>rw [h i,slots_ofList l i]
 |_=>rfl
theorem SlotsR.opA {tb:Tabs} {l:List Value} {t:T Value} (h:SlotsR l t) (o:Op) (m:Mem):opA o tb t m=opA o tb (T.ofList l) m :=
 opA_congr (fun x _=>h.ev x) m
def setSl (d:Option Tmp) (v:Value) (l:List Value):List Value:=match d with|some d=>l.set d v|none=>l
theorem setSl_length {d:Option Tmp} {v:Value} {l:List Value}:(setSl d v l).length=l.length:=by cases d<;>simp [setSl]
def dstOk (d:Option Tmp) (l:List Value):Prop:=∀ x,d=some x→x<l.length
theorem SlotsR.put {l:List Value} {t:T Value} (h:SlotsR l t) {d:Option Tmp} {v:Value} (hd:dstOk d l):∃ t',putT t l.length d v=some t'∧SlotsR (setSl d v l) t':=by
 cases d with
 |none=>exact⟨t,rfl,h⟩
 |some d =>
  have hlt:=hd d rfl
  refine⟨t.set d v,?_,fun x=>?_⟩
  ·unfold putT
   have:Nat.blt d l.length=true:=by simpa [Nat.blt_eq] using hlt
   simp only [this]
   cases t.set d v<;>rfl
  ·rw [ev_set]
   simp only [setSl,List.getD_eq_getElem?_getD,List.getElem?_set]
   by_cases e:x=d
   ·subst e;simp [hlt]
   ·rw [if_neg e,if_neg (fun h=>e h.symm)]
    have:=h x
    rw [List.getD_eq_getElem?_getD] at this
    exact this
noncomputable def wantedL (l:List Value) (ops:Array Oper) (g:Option (Nat × Bool)):Bool:=wantedA (T.ofList l) ops g
theorem SlotsR.wanted {l:List Value} {t:T Value} (h:SlotsR l t) (ops:Array Oper) (g:Option (Nat × Bool)):wantedA t ops g=wantedL l ops g:=by
 cases g with
 |none=>rfl
 |some g =>
  obtain⟨j,w⟩:=g
  have:∀ t',SlotsR l t'→(wantedA t' ops (some (j,w))=true↔∃ oj d,ops.toList[j]? = some oj∧oj.dst=some d∧l.getD d undef=.bool w):=fun t' h'=>by
   rw [wantedA_iff]
   simp only [h' _]
  have e:=(this t h).trans (this _ (slots_ofList l)).symm
  unfold wantedL
  cases h1:wantedA t ops (some (j,w))<;>cases h2:wantedA (T.ofList l) ops (some (j,w))<;>simp_all
structure FC where
 fn:FuncId
 kind:CallKind
 ro:Option Nat
def mkF (F:FC) (t:T Value) (nt:Nat) (k:List AItem) (ds:List Deferred):AFrame:=⟨F.fn,t,nt,k,ds,.run,F.kind,F.ro⟩
inductive ExA where
 |normal
 |jump (c:Code)
 |pan (ch:List PanicEntry)
def isJump:Code→Bool
 | .ret=>true
 | .exit _=>true
 | .goto _=>true
 |_=>false
def jumpTo:Code→List AItem→Option (List AItem)
 | .exit id,k=>exitToA id k
 | .goto l,k=>gotoInA l k
 |_,_=>none
def Aft (F:FC) (t:T Value) (nt:Nat) (k:List AItem) (ds:List Deferred) (cs:List AFrame) (m:Mem):ExA→AM→Prop
 | .normal,b=>b=⟨mkF F t nt k ds,cs,m⟩
 | .jump c,b=>∃ k',b=⟨mkF F t nt (.code c::k') ds,cs,m⟩∧jumpTo c k'=jumpTo c k∧isJump c=true
 | .pan ch,b=>∃ k',b=⟨⟨F.fn,t,nt,k',ds,.panicking ch,F.kind,F.ro⟩,cs,m⟩∧(ds=[]∨isDr k'=false)
abbrev PostA:=ExA→List Value→List Deferred→Mem→Prop
def wpC (tb:Tabs) (F:FC) (c:Code) (l:List Value) (ds:List Deferred) (m:Mem) (Q:PostA):Prop :=
 ∀ t k cs,SlotsR l t→∃ e l' t' ds' m' b,SlotsR l' t'∧l'.length=l.length∧Q e l' ds' m'∧Aft F t' l.length k ds' cs m' e b∧To tb ⟨mkF F t l.length (.code c::k) ds,cs,m⟩ b
def thenA (N:List Value→List Deferred→Mem→Prop) (Q:PostA):PostA
 | .normal,l,ds,m=>N l ds m
 |e,l,ds,m=>Q e l ds m
def blockA (id:Nat) (Q:PostA):PostA
 | .jump (.exit i),l,ds,m=>if i=id then Q .normal l ds m else Q (.jump (.exit i)) l ds m
 |e,l,ds,m=>Q e l ds m
section
variable {tb:Tabs} {F:FC} {l:List Value} {ds:List Deferred} {m:Mem} {Q Q':PostA} {a b:Code}
theorem wpC.mono {c:Code} (h:wpC tb F c l ds m Q) (k:∀ e l' ds' m',Q e l' ds' m'→Q' e l' ds' m'):wpC tb F c l ds m Q':=fun t kk cs ht=>by
 obtain⟨e,l',t',ds',m',b,h1,h2,h3,h4⟩:=h t kk cs ht
 exact⟨e,l',t',ds',m',b,h1,h2,k _ _ _ _ h3,h4⟩
theorem wp_skip (h:Q .normal l ds m):wpC tb F .skip l ds m Q:=fun t k cs ht=>⟨.normal,l,t,ds,m,_,ht,rfl,h,rfl,.one rfl⟩
theorem wp_label {i:Nat} (h:Q .normal l ds m):wpC tb F (.label i) l ds m Q:=fun t k cs ht=>⟨.normal,l,t,ds,m,_,ht,rfl,h,rfl,.one rfl⟩
theorem wp_ret (h:Q (.jump .ret) l ds m):wpC tb F .ret l ds m Q:=fun t k cs ht=>⟨.jump .ret,l,t,ds,m,_,ht,rfl,h,⟨k,rfl,rfl,rfl⟩,.refl _⟩
theorem wp_exit {i:Nat} (h:Q (.jump (.exit i)) l ds m):wpC tb F (.exit i) l ds m Q:=fun t k cs ht=>⟨_,l,t,ds,m,_,ht,rfl,h,⟨k,rfl,rfl,rfl⟩,.refl _⟩
theorem wp_seq (h:wpC tb F a l ds m (thenA (fun l ds m=>wpC tb F b l ds m Q) Q)):wpC tb F (.seq a b) l ds m Q:=fun t k cs ht=>by
 obtain⟨e,l1,t1,ds1,m1,b1,h1,h2,h3,h4,h5⟩:=h t (.code b::k) cs ht
 have hst:To tb ⟨mkF F t l.length (.code (.seq a b)::k) ds,cs,m⟩ b1:=.step rfl h5
 cases e with
 |normal =>
  obtain rfl:=h4
  obtain⟨e,l2,t2,ds2,m2,b2,g1,g2,g3,g4,g5⟩:=h3 t1 k cs h1
  rw [h2] at g2 g4 g5
  exact⟨e,l2,t2,ds2,m2,b2,g1,g2,g3,g4,hst.trans g5⟩
 |jump c =>
  obtain⟨k',rfl,hk,hj⟩:=h4
  exact⟨.jump c,l1,t1,ds1,m1,_,h1,h2,h3,⟨k',rfl,hk.trans (by cases c<;>rfl),hj⟩,hst⟩
 |pan ch=>exact⟨.pan ch,l1,t1,ds1,m1,b1,h1,h2,h3,h4,hst⟩
theorem wp_cond {c:Operand} {v:Bool} (hc:evL l c=.bool v) (h:wpC tb F (match v with|true=>a|false=>b) l ds m Q):wpC tb F (.cond c a b) l ds m Q:=fun t k cs ht=>by
 obtain⟨e,l1,t1,ds1,m1,b1,h1,h2,h3,h4,h5⟩:=h t k cs ht
 refine⟨e,l1,t1,ds1,m1,b1,h1,h2,h3,h4,.step ?_ h5⟩
 have:=ht.ev c
 rw [hc] at this
 simp only [stepA,stepFr,mkF,runFrame,itemA,codeA,this,condA,mkA]
 cases v<;>rfl
theorem wp_block {id:Nat} (h:wpC tb F b l ds m (blockA id Q)):wpC tb F (.block id b) l ds m Q:=fun t k cs ht=>by
 obtain⟨e,l1,t1,ds1,m1,b1,h1,h2,h3,h4,h5⟩:=h t (.inBlock id::k) cs ht
 have hst:To tb ⟨mkF F t l.length (.code (.block id b)::k) ds,cs,m⟩ b1:=.step rfl h5
 cases e with
 |normal =>
  obtain rfl:=h4
  exact⟨.normal,l1,t1,ds1,m1,_,h1,h2,h3,rfl,hst.trans (.one rfl)⟩
 |pan ch=>exact⟨.pan ch,l1,t1,ds1,m1,b1,h1,h2,h3,h4,hst⟩
 |jump c =>
  obtain⟨k',rfl,hk,hj⟩:=h4
  by_cases hc:∃ i,c=.exit i
  ·obtain⟨i,rfl⟩:=hc
   simp only [blockA] at h3
   by_cases hi:i=id
   ·subst hi
    rw [if_pos rfl] at h3
    refine⟨.normal,l1,t1,ds1,m1,_,h1,h2,h3,rfl,hst.trans (.one ?_)⟩
    simp only [jumpTo,exitToA,Nat.beq_refl] at hk
    simp only [stepA,stepFr,mkF,runFrame,itemA,codeA,hk,jumpA,mkA]
   ·rw [if_neg hi] at h3
    refine⟨_,l1,t1,ds1,m1,_,h1,h2,h3,⟨k',rfl,hk.trans ?_,rfl⟩,hst⟩
    simp only [jumpTo,exitToA]
    rw [beqF (fun e=>hi e.symm)]
  ·have h3':Q (.jump c) l1 ds1 m1:=by
    cases c<;>first|exact h3|exact absurd ⟨_,rfl⟩ hc
   exact⟨.jump c,l1,t1,ds1,m1,_,h1,h2,h3',⟨k',rfl,hk.trans (by cases c<;>first|rfl|exact absurd ⟨_,rfl⟩ hc),hj⟩,hst⟩
theorem wp_loop (h:wpC tb F b l ds m (thenA (fun l ds m=>wpC tb F (.loop b) l ds m Q) Q)):wpC tb F (.loop b) l ds m Q:=fun t k cs ht=>by
 obtain⟨e,l1,t1,ds1,m1,b1,h1,h2,h3,h4,h5⟩:=h t (.inLoop b::k) cs ht
 have hst:To tb ⟨mkF F t l.length (.code (.loop b)::k) ds,cs,m⟩ b1:=.step rfl h5
 cases e with
 |normal =>
  obtain rfl:=h4
  obtain⟨e,l2,t2,ds2,m2,b2,g1,g2,g3,g4,n,g5⟩:=h3 t1 k cs h1
  rw [h2] at g2 g4 g5
  cases n with
  |zero =>
   obtain rfl:=Option.some.inj g5
   exfalso
   cases e with
   |normal =>
    have:=congrArg (fun x=>x.fr.todo.length) g4
    simp [mkF] at this
   |jump c =>
    obtain⟨k',hk',_,hj⟩:=g4
    have:=congrArg (fun x=>x.fr.todo.head?) hk'
    simp [mkF] at this
    subst this
    simp [isJump] at hj
   |pan ch =>
    obtain⟨k',hk',_⟩:=g4
    have:=congrArg (fun x=>x.fr.mode) hk'
    simp [mkF] at this
  |succ n =>
   refine⟨e,l2,t2,ds2,m2,b2,g1,g2,g3,g4,hst.trans ⟨n+1,?_⟩⟩
   exact g5
 |jump c =>
  obtain⟨k',rfl,hk,hj⟩:=h4
  exact⟨.jump c,l1,t1,ds1,m1,_,h1,h2,h3,⟨k',rfl,hk.trans (by cases c<;>rfl),hj⟩,hst⟩
 |pan ch=>exact⟨.pan ch,l1,t1,ds1,m1,b1,h1,h2,h3,h4,hst⟩
end
end Go.Ev

namespace Go.Ev
open Go.RowKit
def dstB (d:Option Tmp) (n:Nat):Bool:=match d with|none=>true|some d=>Nat.blt d n
theorem dstB_ok {d:Option Tmp} {l:List Value} (h:dstB d l.length=true):dstOk d l:=by
 intro x e
 subst e
 simpa [dstB,Nat.blt_eq] using h
noncomputable def evsL (l:List Value) (x:List Operand):List Value:=evs (T.ofList l) x
theorem SlotsR.evs {l:List Value} {t:T Value} (h:SlotsR l t) (x:List Operand):evs t x=evsL l x:=evs_congr fun y _=>h.ev y
theorem SlotsR.deferOf {l:List Value} {t:T Value} (h:SlotsR l t) (c:Call) (ty:TypeId):deferOf t c ty=deferOf (T.ofList l) c ty:=by
 unfold Go.Ev.deferOf
 cases c.callee with
 |value f=>simp only [h.ev f,h.evs,evL,evsL]
 |_=>rfl
section
variable (tb:Tabs)
def AnsA (g:AFrame) (m:Mem) (R:OutA→Mem→Prop):Prop :=
 ∀ c cs,∃ out m',R out m'∧match out with
   | .ret v=>∀ c1,finishA tb c v m'=some c1→To tb ⟨g,c::cs,m⟩ ⟨c1,cs,m'⟩
   | .pan ch=>To tb ⟨g,c::cs,m⟩ ⟨raiseA c ch,cs,m'⟩
variable {tb}
theorem CallsA.ans {f:FuncId} {args:List Value} {m:Mem} {R:OutA→Mem→Prop} (h:CallsA tb f args m R):∃ g,enterF tb f args .normal=some g∧AnsA tb g m R:=by
 obtain⟨g,h1,h2⟩:=h
 refine⟨g,h1,fun c cs=>?_⟩
 obtain⟨out,m',fr,a,b,d⟩:=h2 (c::cs)
 refine⟨out,m',a,?_⟩
 cases out with
 |ret v=>exact fun c1 hf=>b.trans (.one (leav_ret d hf))
 |pan ch=>exact b.trans (.one (leav_pan d))
variable (tb)
noncomputable def roundFr (l:Nat) (args:List Value) (m:Mem):Option AFrame :=
 match m.objs.get l with
 |some (.loop _ _ fn tmps nt ps a b _) =>
  match codeOk tb.g a&&codeOk tb.g b&&(tb.funcs.get fn).isSome with
  |false=>none
  |true=>match foldPut nt ps args tmps with
   |some t=>some ⟨fn,t,nt,[.code a,.beginRound,.code b],[],.run,.normal,some l⟩
   |none=>none
 |_=>none
theorem roundA_eq (l:Nat) (args:List Value) (fr:AFrame) (cs:List AFrame) (m:Mem):roundA tb l args fr cs m=match roundFr tb l args m with|some g=>some ⟨g,fr::cs,m⟩|none=>none:=by
 unfold roundA roundFr
 cases m.objs.get l with
 |none=>rfl
 |some o =>
  cases o with
  |loop st pe fn tmps nt ps a b ds =>
   simp only
   cases codeOk tb.g a&&codeOk tb.g b&&(tb.funcs.get fn).isSome with
   |false=>rfl
   |true=>cases foldPut nt ps args tmps<;>rfl
  |_=>rfl
def RoundsA (l:Nat) (args:List Value) (m:Mem) (R:OutA→Mem→Prop):Prop:=∃ g,roundFr tb l args m=some g∧AnsA tb g m R
def wpNext (n:ANext) (ds:List Deferred) (m:Mem) (K:Value→List Deferred→Mem→Prop) (PK:List PanicEntry→Mem→Prop):Prop :=
 match n with
 | .enter f args=>CallsA tb f args m fun out m'=>match out with | .ret v=>K v ds m' | .pan ch=>PK ch m'
 | .round l args=>RoundsA tb l args m fun out m'=>match out with | .ret v=>K v ds m' | .pan ch=>PK ch m'
 | .value v=>K v ds m
 | .over v m'=>K v ds m'
 | .bad=>False
def isIface:Value→Bool
 | .iface _ _=>true
 |_=>false
def wpCallOp (F:FC) (o:Oper) (l:List Value) (ds:List Deferred) (m:Mem) (K:Value→List Deferred→Mem→Prop) (PK:List PanicEntry→Mem→Prop):Prop :=
 match o.op with
 | .call c=>match c.callee with
   | .value f=>wpNext tb (callValue tb (evL l f) (evsL l c.args.toList) m) ds m K PK
   | .builtin b=>match b with
     | .recover=>F.ro=none∧F.kind=.normal∧K .nilIface ds m
     |_=>False
   | .invoke _ _=>False
 | .defer c=>F.ro=none∧∃ d,deferOf (T.ofList l) c o.type=some d∧K undef (d::ds) m
 | .panic x=>isIface (evL l x)=true∧PK [{ v:=evL l x,recovered:=false }] m
 |_=>False
def wpOps (F:FC) (ops:Array Oper) (Q:PostA):List Oper→List Value→List Deferred→Mem→Prop
 | [],l,ds,m=>Q .normal l ds m
 |o::os,l,ds,m=>dstB o.dst l.length=true ∧
  match wantedL l ops o.guard with
  |false=>wpOps F ops Q os (setSl o.dst undef l) ds m
  |true=>match opA o.op tb (T.ofList l) m with
   | .r v=>wpOps F ops Q os (setSl o.dst v l) ds m
   | .f ob mk=>wpOps F ops Q os (setSl o.dst (mk m.next) l) ds (newObjA m ob)
   | .e v m'=>wpOps F ops Q os (setSl o.dst v l) ds m'
   | .c=>wpCallOp tb F o l ds m (fun v ds m=>wpOps F ops Q os (setSl o.dst v l) ds m) (fun ch m=>Q (.pan ch) l ds m)
   | .bad=>False
variable {tb}
variable {F:FC} {ops:Array Oper} {Q:PostA}
def GoesOn (tb:Tabs) (F:FC) (Q:PostA) (n:Nat) (k:List AItem) (cs:List AFrame) (a:AM):Prop :=
 ∃ e l' t' ds' m' b,SlotsR l' t'∧l'.length=n∧Q e l' ds' m'∧Aft F t' n k ds' cs m' e b∧To1 tb a b
theorem GoesOn.congr {n:Nat} {k:List AItem} {cs:List AFrame} {a a2:AM} (e:stepA tb a=stepA tb a2) (h:GoesOn tb F Q n k cs a2):GoesOn tb F Q n k cs a:=by
 obtain⟨e1,l',t',ds',m',b,h1,h2,h3,h4,h5⟩:=h
 exact⟨e1,l',t',ds',m',b,h1,h2,h3,h4,h5.congr e⟩
theorem GoesOn.after {n:Nat} {k:List AItem} {cs:List AFrame} {a a2:AM} (e:To1 tb a a2) (h:GoesOn tb F Q n k cs a2):GoesOn tb F Q n k cs a:=by
 obtain⟨e1,l',t',ds',m',b,h1,h2,h3,h4,h5⟩:=h
 exact⟨e1,l',t',ds',m',b,h1,h2,h3,h4,e.trans h5.to⟩
theorem next_ok {n:ANext} {ds:List Deferred} {m:Mem} {nt:Nat} {k:List AItem} {cs:List AFrame} {l:List Value} {t:T Value} (hl:l.length=nt) (ht:SlotsR l t) {K:Value→List Deferred→Mem→Prop} {PK:List PanicEntry→Mem→Prop} {kk:List AItem}
  (hp:∀ ch m',PK ch m'→(ds=[]∨isDr kk=false)∧Q (.pan ch) l ds m') (h:wpNext tb n ds m K PK) (hfin:∀ v m',K v ds m'→∃ c1,finishA tb (mkF F t nt kk ds) v m'=some c1∧GoesOn tb F Q nt k cs ⟨c1,cs,m'⟩) {a:AM} (hst:∀ b,goA tb n (mkF F t nt kk ds) cs m=some b→stepA tb a=some b) :
  GoesOn tb F Q nt k cs a:=by
 have key:∀ g R,(∀ b,some (⟨g,mkF F t nt kk ds::cs,m⟩:AM)=some b→stepA tb a=some b)→AnsA tb g m R→(∀ v m',R (.ret v) m'→K v ds m')→(∀ ch m',R (.pan ch) m'→PK ch m')→GoesOn tb F Q nt k cs a:=by
  intro g R hs hA h1 h2
  obtain⟨out,m',hR,hout⟩:=hA (mkF F t nt kk ds) cs
  have hs1:=hs _ rfl
  cases out with
  |ret v =>
   obtain⟨c1,hf,hg⟩:=hfin v m' (h1 v m' hR)
   exact hg.after (.step hs1 (hout c1 hf))
  |pan ch=>exact⟨.pan ch,l,t,ds,m',_,ht,hl,(hp ch m' (h2 ch m' hR)).2,⟨kk,rfl,(hp ch m' (h2 ch m' hR)).1⟩,.step hs1 hout⟩
 cases n with
 |bad=>exact h.elim
 |enter f args =>
  obtain⟨g,hg,hA⟩:=CallsA.ans h
  exact key g _ (fun b hb=>hst b (by simp only [goA,hg];exact hb)) hA (fun v m' h=>h) (fun ch m' h=>h)
 |round lp args =>
  obtain⟨g,hg,hA⟩:=h
  exact key g _ (fun b hb=>hst b (by simp only [goA,roundA_eq,hg];exact hb)) hA (fun v m' h=>h) (fun ch m' h=>h)
 |value v =>
  obtain⟨c1,hf,hg⟩:=hfin v m h
  exact hg.after (.step (hst _ (by simp only [goA,am,hf])) (.refl _))
 |over v m' =>
  obtain⟨c1,hf,hg⟩:=hfin v m' h
  exact hg.after (.step (hst _ (by simp only [goA,am,hf])) (.refl _))
theorem wpOps_ok:∀ (os:List Oper) (l:List Value) (ds:List Deferred) (m:Mem) (t:T Value) (k:List AItem) (cs:List AFrame),SlotsR l t→wpOps tb F ops Q os l ds m →
  GoesOn tb F Q l.length k cs ⟨mkF F t l.length (.ops ops os::k) ds,cs,m⟩
 | [],l,ds,m,t,k,cs,ht,h=>⟨.normal,l,t,ds,m,_,ht,rfl,h,rfl,.step rfl (.refl _)⟩
 |o::os,l,ds,m,t,k,cs,ht,h=>by
  obtain⟨hd,h⟩:=h
  have hw:=ht.wanted ops o.guard
  have hput:∀ v,∃ t',putT t l.length o.dst v=some t'∧SlotsR (setSl o.dst v l) t':=fun v=>ht.put (dstB_ok hd)
  have go:∀ v m',wpOps tb F ops Q os (setSl o.dst v l) ds m'→(∀ t',putT t l.length o.dst v=some t'→stepA tb ⟨mkF F t l.length (.ops ops (o::os)::k) ds,cs,m⟩=stepA tb ⟨mkF F t' l.length (.ops ops os::k) ds,cs,m'⟩) →
    GoesOn tb F Q l.length k cs ⟨mkF F t l.length (.ops ops (o::os)::k) ds,cs,m⟩:=by
   intro v m' h1 h2
   obtain⟨t',p1,p2⟩:=hput v
   have ih:=wpOps_ok os (setSl o.dst v l) ds m' t' k cs p2 h1
   rw [setSl_length] at ih
   exact ih.congr (h2 t' p1)
  split at h
  ·rename_i hf
   refine go undef m h fun t' p=>?_
   simp only [stepA,stepFr,mkF,runFrame,itemA,opsItem,opsA,lrec_cons,opsStep,hw.trans hf,opsPut,p]
  ·rename_i hf
   have hop:=ht.opA (tb:=tb) o.op m
   split at h
   ·rename_i v ho
    refine go v m h fun t' p=>?_
    simp only [stepA,stepFr,mkF,runFrame,itemA,opsItem,opsA,lrec_cons,opsStep,hw.trans hf,hop.trans ho,opsK,opsPut,p]
   ·rename_i ob mk ho
    refine go (mk m.next) (newObjA m ob) h fun t' p=>?_
    simp only [stepA,stepFr,mkF,runFrame,itemA,opsItem,opsA,lrec_cons,opsStep,hw.trans hf,hop.trans ho,opsK,opsPut,p]
   ·rename_i v m' ho
    refine go v m' h fun t' p=>?_
    simp only [stepA,stepFr,mkF,runFrame,itemA,opsItem,opsA,lrec_cons,opsStep,hw.trans hf,hop.trans ho,opsK,opsPut,p]
   ·rename_i ho
    have hstop:stepA tb ⟨mkF F t l.length (.ops ops (o::os)::k) ds,cs,m⟩=doCall tb o (mkF F t l.length (.ops ops (o::os)::k) ds) cs m:=by
     simp only [stepA,stepFr,mkF,runFrame,itemA,opsItem,opsA,lrec_cons,opsStep,hw.trans hf,hop.trans ho,opsK,frm]
    have hfin:∀ v ds2 m',wpOps tb F ops Q os (setSl o.dst v l) ds2 m'→∃ c1,finishA tb (mkF F t l.length (.ops ops (o::os)::k) ds2) v m'=some c1∧GoesOn tb F Q l.length k cs ⟨c1,cs,m'⟩:=by
     intro v ds2 m' h1
     obtain⟨t',p1,p2⟩:=hput v
     have ih:=wpOps_ok os (setSl o.dst v l) ds2 m' t' k cs p2 h1
     rw [setSl_length] at ih
     exact⟨_,by simp only [finishA,mkF,p1];try rfl,ih⟩
    unfold wpCallOp at h
    split at h
    ·rename_i c hop2
     split at h
     ·rename_i f hcal
      refine next_ok rfl ht (fun _ _ h=>⟨.inr rfl,h⟩) h (fun v m' h1=>hfin v ds m' h1) fun b hb=>?_
      rw [hstop]
      unfold doCall
      rw [hop2]
      simp only [hcal,mkF] at hb ⊢
      rw [ht.ev f,ht.evs]
      exact hb
     ·rename_i b hcal
      split at h
      ·obtain⟨h1,h2,h3⟩:=h
       obtain⟨c1,q1,q2⟩:=hfin _ _ _ h3
       refine q2.after (.step ?_ (.refl _))
       rw [hstop]
       unfold doCall
       rw [hop2]
       simp only [hcal,recoverA]
       simp only [mkF,h1,h2] at q1 ⊢
       simp only [am,q1]
      ·exact h.elim
     ·exact h.elim
    ·rename_i c hop2
     obtain⟨h1,d,h2,h3⟩:=h
     obtain⟨c1,q1,q2⟩:=hfin _ _ _ h3
     refine q2.after (.step ?_ (.refl _))
     rw [hstop]
     unfold doCall
     rw [hop2]
     have hd2:=(ht.deferOf c o.type).trans h2
     simp only [mkF,hd2,deferA,h1] at q1 ⊢
     simp only [addDefer,am,q1]
    ·rename_i x hop2
     obtain⟨h1,h2⟩:=h
     have hx:=ht.ev x
     generalize hv:evL l x=v at h1 h2 hx
     cases v<;>simp only [isIface] at h1<;>first|(simp at h1;done)|skip
     rename_i ty v
     refine⟨.pan _,l,t,ds,m,_,ht,rfl,h2,⟨_,rfl,.inr rfl⟩,.step (b:=⟨raiseA (mkF F t l.length (.ops ops (o::os)::k) ds) [{ v:=.iface ty v,recovered:=false }],cs,m⟩) ?_ (.refl _)⟩
     rw [hstop]
     unfold doCall
     rw [hop2]
     simp only [mkF,hx]
    ·exact h.elim
   ·exact h.elim
theorem wp_region {id:Nat} {l:List Value} {ds:List Deferred} {m:Mem} (h:wpOps tb F ops Q ops.toList l ds m):wpC tb F (.region id ops false) l ds m Q:=fun t k cs ht=>by
 obtain⟨e,l',t',ds',m',b,h1,h2,h3,h4,h5⟩:=wpOps_ok ops.toList l ds m t k cs ht h
 exact⟨e,l',t',ds',m',b,h1,h2,h3,h4,.step rfl h5.to⟩
noncomputable def resL (fd:Func) (l:List Value) (m:Mem):Option Value:=resultsA tb fd (T.ofList l) m
theorem resA_congr {t t':T Value} {m:Mem} (h:∀ x,ev t (.tmp x)=ev t' (.tmp x)):∀ (rs:List ResultVar),resA tb t m rs=resA tb t' m rs
 | []=>rfl
 | .tmp i::rs=>by
   have:=h i
   simp only [ev] at this
   simp only [resA,resA_congr h rs,this]
 | .cell a ty::rs=>by
   have:=h a
   simp only [ev] at this
   simp only [resA,resA_congr h rs]
   cases h1:t.get a<;>cases h2:t'.get a<;>rw [h1,h2] at this<;>simp only at this
   ·subst this;rfl
   ·subst this;rfl
   ·subst this;rfl
variable (tb)
def bodyA (fd:Func) (R:OutA→Mem→Prop):PostA
 | .normal,l,ds,m=>ds=[]∧∃ v,resL (tb:=tb) fd l m=some v∧R (.ret v) m
 | .jump .ret,l,ds,m=>ds=[]∧∃ v,resL (tb:=tb) fd l m=some v∧R (.ret v) m
 | .pan ch,_,ds,m=>ds=[]∧R (.pan ch) m
 |_,_,_,_=>False
variable {tb}
theorem callsA_of_wp {f:FuncId} {fd:Func} {c:Code} {args:List Value} {m:Mem} {R:OutA→Mem→Prop} (hf:tb.funcs.get f=some fd) (hb:fd.body=some c)
  (h:wpC tb ⟨f,.normal,none⟩ c (args++List.replicate (fd.ntmps-args.length) undef) [] m (bodyA tb fd R)):CallsA tb f args m R:=by
 refine⟨⟨f,T.ofList args,max fd.ntmps args.length,[.code c],[],.run,.normal,none⟩,by simp only [enterF,hf,hb],fun cs=>?_⟩
 have hs:SlotsR (args++List.replicate (fd.ntmps-args.length) undef) (T.ofList args):=fun x=>by
  rw [slots_ofList args x]
  simp only [List.getD_eq_getElem?_getD,List.getElem?_append]
  split
  ·rfl
  ·rename_i hx
   rw [List.getElem?_eq_none (by omega),List.getElem?_replicate]
   split<;>rfl
 have hl:(args++List.replicate (fd.ntmps-args.length) undef).length=max fd.ntmps args.length:=by
  simp only [List.length_append,List.length_replicate];omega
 obtain⟨e,l',t',ds',m',b,h1,h2,h3,h4,h5⟩:=h (T.ofList args) [] cs hs
 rw [hl] at h5 h4
 have hres:∀ fd,resultsA tb fd t' m'=resL (tb:=tb) fd l' m':=fun fd=>by
  unfold resL resultsA
  rw [resA_congr fun x=>(h1.ev (.tmp x)).trans ((slots_ofList l').ev (.tmp x)).symm]
 cases e with
 |normal =>
  obtain rfl:=h4
  obtain⟨rfl,v,hv,hR⟩:=h3
  exact⟨.ret v,m',_,hR,h5.trans (.one rfl),rfl,rfl,rfl,rfl,fd,hf,(hres fd).trans hv⟩
 |jump c =>
  obtain⟨k',rfl,hk,hj⟩:=h4
  cases c<;>first|exact h3.elim|skip
  obtain⟨rfl,v,hv,hR⟩:=h3
  exact⟨.ret v,m',_,hR,h5.trans (.one rfl),rfl,rfl,rfl,rfl,fd,hf,(hres fd).trans hv⟩
 |pan ch =>
  obtain⟨k',rfl,_⟩:=h4
  obtain⟨rfl,hR⟩:=h3
  exact⟨.pan ch,m',_,hR,h5,rfl,rfl⟩
end
end Go.Ev

