/- A part of a proof: ScriptBack. -/
import Derived.Test.YtgmkbdmgifdfeaaGreatDoorD6
set_option linter.unusedVariables false
set_option linter.unusedSimpArgs false
namespace Go.Ev
open Go.RowKit
section
variable {tb:Tabs} {N G:Nat} {w0:World} {base:List Frame} {E:Env} {m:Mem} {lo:Nat} {fn:FuncId} {t:T Value} {nt:Nat} {k:List AItem} {ds:List Deferred} {kind:CallKind} {ro:Option Nat} {cs:List AFrame} {fr':Frame} {cs':List Frame} {w:World} {am:AM}
theorem Qh9 {i:AItem} (S:StR tb N G w0 base ⟨⟨fn,t,nt,i::k,ds,.run,kind,ro⟩,cs,m⟩ fr' cs' w E lo) (h:Qhn tb i k fn t nt ds kind ro cs m=some am)
  (hi:(∃ id,i=.inBlock id)∨(∃ b,i=.inScope b)∨∃ b,i=.inLoop b):Qf9 tb N G w0 base am fr' cs' w:=by
 obtain⟨tm,k',ds',ro',X,rfl,ht,hs,hd,hr,hki,hf⟩:=S.top.run_inv
 obtain⟨x',k1,rfl,hx,hk,rfl⟩:=ht.item_inv (by rcases hi with ⟨_,rfl⟩|⟨_,rfl⟩|⟨_,rfl⟩<;>simp) (by rcases hi with ⟨_,rfl⟩|⟨_,rfl⟩|⟨_,rfl⟩<;>simp)
 rcases hi with ⟨id,rfl⟩|⟨b,rfl⟩|⟨b,rfl⟩
 ·cases hx
  obtain rfl:=Kai h
  exact⟨_,_,_,E,lo,.one Qwu,⟨S.mem,S.glob,FR.plain hk hs hd hr hki hf,S.callers,S.lo⟩⟩
 ·cases hx
  obtain rfl:=Kai h
  exact⟨_,_,_,E,lo,.one Qwt,⟨S.mem,S.glob,FR.plain hk hs hd hr hki hf,S.callers,S.lo⟩⟩
 ·cases hx with
  |inLoop hb =>
  obtain rfl:=Kai h
  exact⟨_,_,_,E,lo,.one Qyx,⟨S.mem,S.glob,FR.plain (.cons (.code hb) (.cons (.inLoop hb) hk)) hs hd hr hki hf,S.callers,S.lo⟩⟩
theorem TodoR.ops_inv {hi:Nat} {wait:Bool} {ops:Array Oper} {l:List Oper} {k':List Item} {X:Nat→Prop} (h:TodoR tb E m lo hi G wait t nt (.ops ops l::k) k' X) :
  ∃ n k1,k'=.inRegion ops (List.range' n (ops.size-n))::k1∧ops.toList.drop n=l∧ItsR E G k k1∧(∀ o∈ops.toList,opOk G o=true)∧X=fun _=>False:=by
 cases h with
 |plain h=>cases h with|cons h t=>cases h
 |ops hk hok=>exact⟨_,_,rfl,rfl,hk,hok,rfl⟩
theorem Qxg (ok:TabsOk tb) {ops:Array Oper} {l:List Oper} (S:StR tb N G w0 base ⟨⟨fn,t,nt,.ops ops l::k,ds,.run,kind,ro⟩,cs,m⟩ fr' cs' w E lo) (h:Qhl tb ops l k fn t nt ds kind ro cs m=some am)
  (hcall:∀ (o:Oper) (l1:List Oper) (t1:T Value) (m1:Mem) (fr2:Frame) (w2:World) (E2:Env),StR tb N G w0 base ⟨frm fn t1 nt (.ops ops (o::l1)::k) ds kind ro,cs,m1⟩ fr2 cs' w2 E2 lo→Qbh t1 ops o.guard=true →
   Qe7 tb o (frm fn t1 nt (.ops ops (o::l1)::k) ds kind ro) cs m1=some am→Qf9 tb N G w0 base am fr2 cs' w2):Qf9 tb N G w0 base am fr' cs' w:=by
 obtain⟨tm,k',ds',ro',X,rfl,ht,hs,hd,hr,hki,hf⟩:=S.top.run_inv
 obtain⟨n,k1,rfl,hl,hk,hok,rfl⟩:=ht.ops_inv
 have ho:=ops_ok (lo:=lo) (fn:=fn) (nt:=nt) (ds':=ds') (kind:=kind) (ro':=ro') (cs':=cs') (k':=k1) ok hok l n t m E w tm hl S.mem S.glob hs S.lo
 unfold Qhl at h
 cases hr1:opsA tb ops nt l t m with
 |bad=>rw [hr1] at h;simp at h
 |done t1 m1 =>
  rw [hr1] at h ho
  obtain⟨tm1,w1,E1,a,b,c,d⟩:=ho
  obtain rfl:=Kai h
  exact⟨_,_,_,E1,lo,a,⟨b,fun g hg=>c.le _ _ (S.glob g hg),FR.plain (hk.mono c.le) d (hd.mono c.le) (hr.mono c.le) hki hf,S.callers.ext c,Knt S.lo c.next⟩⟩
 |stop o l1 t1 m1 =>
  rw [hr1] at h ho
  obtain⟨n1,tm1,w1,E1,a,b,c,d,e,f⟩:=ho
  have htd:=TodoR.ops (tb:=tb) (m:=m1) (lo:=lo) (hi:=m1.next) (wait:=false) (t:=t1) (nt:=nt) (n:=n1) (hk.mono c.le) hok
  rw [e] at htd
  obtain⟨fr3,cs3,w3,E3,lo3,g1,g2⟩:=hcall o l1 t1 m1 _ w1 E1 ⟨b,fun g hg=>c.le _ _ (S.glob g hg),.run hf htd d (hd.mono c.le) (hr.mono c.le) hki,S.callers.ext c,Knt S.lo c.next⟩ f h
  exact⟨fr3,cs3,w3,E3,lo3,a.trans g1,g2⟩
end
end Go.Ev

namespace Go.Ev
open Go.RowKit
section
variable {tb:Tabs} {N G:Nat} {w0:World} {base:List Frame} {E:Env} {m:Mem} {lo:Nat} {fn:FuncId} {t:T Value} {nt:Nat} {k:List AItem} {ds:List Deferred} {kind:CallKind} {ro:Option Nat} {cs:List AFrame} {fr':Frame} {cs':List Frame} {w:World} {am:AM}
theorem TodoR.dr_inv {hi:Nat} {wait:Bool} {ops:Array Oper} {rem:List (Nat × Oper)} {hist:List Hist} {mask:Nat} {k':List Item} {X:Nat→Prop} (h:TodoR tb E m lo hi G wait t nt (.dr ops rem hist mask::k) k' X) :
  ∃ sched k1,k'=.inRegion ops sched::k1∧DrI tb E m lo hi ops t nt wait rem hist mask sched∧ItsR E G k k1∧(∀ o∈ops.toList,opOk G o=true)∧X=lagX hist sched:=by
 cases h with
 |plain h=>cases h with|cons h t=>cases h
 |dr hk hok hd hw=>exact⟨_,_,rfl,hd,hk,hok,rfl⟩
theorem Jbn (ok:TabsOk tb) {ops:Array Oper} {rem:List (Nat × Oper)} {hist:List Hist} {mask:Nat} (S:StR tb N G w0 base ⟨⟨fn,t,nt,.dr ops rem hist mask::k,ds,.run,kind,ro⟩,cs,m⟩ fr' cs' w E lo) (h:Qwa tb ops rem hist mask k fn t nt ds kind ro cs m=some am)
  (hnext:∀ (i:Nat) (o:Oper) (l:List (Nat × Oper)) (hist1:List Hist) (mask1:Nat) (rest:List Nat) (k1:List Item) (tm:Array Value) (ds':List Deferred) (ro':Option Nat) (t1:T Value) (m1:Mem) (w2:World) (E2:Env),
   StR tb N G w0 base ⟨frm fn t1 nt (.dr ops ((i,o)::l) hist1 mask1::k) ds kind ro,cs,m1⟩ (rf fn tm ds' kind ro' (.inRegion ops (i::rest)::k1)) cs' w2 E2 lo→ops.toList[i]? = some o→Qf4 ops o hist1=true→Qbh t1 ops o.guard=true →
   Qij tb ops ((i,o)::l) hist1 mask1 k fn t1 nt ds kind ro cs m1=some am→Qf9 tb N G w0 base am (rf fn tm ds' kind ro' (.inRegion ops (i::rest)::k1)) cs' w2):Qf9 tb N G w0 base am fr' cs' w:=by
 obtain⟨tm,k',ds',ro',X,rfl,ht,hs,hd,hr,hki,hf⟩:=S.top.run_inv
 obtain⟨sched,k1,rfl,hdr,hk,hok,rfl⟩:=ht.dr_inv
 unfold Qwa at h
 cases hp:Qhv tb ops nt rem [] [] t m hist mask with
 |bad=>rw [hp] at h;simp at h
 |ok t1 m1 rem1 hist1 mask1 =>
  rw [hp] at h
  simp only at h
  obtain⟨p1,p2,p3,p4,p5,p6⟩:=Qn0 rem [] [] t m hist mask t1 m1 rem1 hist1 mask1 hp S.lo S.mem (by simpa using hdr)
  have hs1:TRx E (lagX hist1 sched) t1 nt tm:=⟨hs.1,fun x hx=>by
   rw [p5 (lagX hist1 sched) (fun g hg d hd hgs=>⟨g,hg,hgs,hd⟩) x hx]
   exact hs.2 x fun ⟨g,hg,hgs,hd⟩=>hx ⟨g,p6 g hg,hgs,hd⟩⟩
  have hck:∀ i o l,rem1=(i,o)::l→Qrd [i] l=true∧Qf4 ops o hist1=true∧Qbh t1 ops o.guard=true:=by
   intro i o l e
   subst e
   unfold Qij at h
   simp only at h
   split at h
   ·simp at h
   ·rename_i hb
    simp only [Kba] at hb
    exact⟨hb.1.1,hb.1.2,hb.2⟩
  obtain⟨sched2,tm2,w2,E2,q1,q2,q3,q4,q5,q6,q7⟩:=Qwe (cs:=cs') (k:=k1) ok hok (fun i o l e=>(hck i o l e).1) sched E w (rf fn tm ds' kind ro' (.inRegion ops sched::k1)) p2 S.glob p4 hs1 rfl rfl
  have hx:=p3.trans q3
  have hglob:Qhc G E2:=fun g hg=>hx.le _ _ (S.glob g hg)
  cases rem1 with
  |nil =>
   obtain rfl:=q6 rfl
   simp only [Qij,mkA] at h
   obtain rfl:=Kai h
   have hs2:TR E2 t1 nt tm2:=⟨q5.1,fun x _=>q5.2 x fun ⟨g,hg,hgs,hd⟩=>by simp at hgs⟩
   exact⟨_,_,_,E2,lo,q1.trans (.one (Qjx rfl rfl)),⟨q2,hglob,FR.plain (hk.mono hx.le) hs2 (hd.mono hx.le) (hr.mono hx.le) hki hf,S.callers.ext hx,p1⟩⟩
  |cons x l =>
   obtain⟨i,o⟩:=x
   obtain⟨rest,rfl⟩:=q7 i o l rfl
   obtain⟨_,c2,c3⟩:=hck i o l rfl
   obtain⟨fr3,cs3,w3,E3,lo3,g1,g2⟩:=hnext i o l hist1 mask1 rest k1 tm2 ds' ro' t1 m1 w2 E2 ⟨q2,hglob,.run hf (.dr (hk.mono hx.le) hok q4 (by simp)) q5 (hd.mono hx.le) (hr.mono hx.le) hki,S.callers.ext hx,p1⟩ (q4.remOps (i,o) (by simp)) c2 c3 h
   exact⟨fr3,cs3,w3,E3,lo3,Steps.trans q1 g1,g2⟩
end
end Go.Ev

namespace Go.Ev
open Go.RowKit
section
variable {tb:Tabs} {N G:Nat} {w0:World} {base:List Frame} {E:Env} {m:Mem} {lo:Nat} {fn:FuncId} {t:T Value} {nt:Nat} {k:List AItem} {ds:List Deferred} {kind:CallKind} {ro:Option Nat} {cs:List AFrame} {fr':Frame} {cs':List Frame} {w:World} {am:AM}
theorem FR.waits {hi:Nat} {fr:AFrame} (h:FR tb E m lo hi G false fr fr') (hh:∀ ops rem hist mask sched k k',fr.todo=.dr ops rem hist mask::k→fr'.todo=.inRegion ops sched::k'→∃ i o l rest,rem=(i,o)::l∧sched=i::rest):FR tb E m lo hi G true fr fr':=by
 cases h with
 |run hf ht hs hd hr hk =>
  refine .run hf ?_ hs hd hr hk
  cases ht with
  |plain h=>exact .plain h
  |ops hk hok=>exact .ops hk hok
  |dr hk hok hd hw=>exact .dr hk hok (hd.wait (.refl _ _ _)) fun _=>hh _ _ _ _ _ _ _ rfl rfl
 |ret hf hs hd hr hk=>exact .ret hf hs hd hr hk
 |pan hf hs hX hp hd hr hk=>exact .pan hf hs hX hp hd hr hk
theorem Qva {fr1:AFrame} {fr:AFrame} {m':Mem} {E':Env} {w':World} {v v':Value} (S:StR tb N G w0 base ⟨fr,cs,m⟩ fr' cs' w E lo)
  (hh:∀ ops rem hist mask sched k k',fr.todo=.dr ops rem hist mask::k→fr'.todo=.inRegion ops sched::k'→∃ i o l rest,rem=(i,o)::l∧sched=i::rest)
  (HM:MR tb.p N w0 E' m' w') (hx:MExt m.next E m E' m') (hv:VR E' v v') (hf:Qbn tb fr v m'=some fr1) (hst:step tb.p (lone fr' cs' w)=.next (lone (fr'.finish v') cs' w')) :
  Qf9 tb N G w0 base ⟨fr1,cs,m'⟩ fr' cs' w:=by
 have hlo:=S.lo
 have hx2:=hx.lower hlo
 have ht:=((S.top.waits hh).wait hx).finish hx.next hv hf
 exact⟨_,_,_,E',lo,.one hst,⟨HM,fun g hg=>hx.le _ _ (S.glob g hg),ht,S.callers.ext hx2,Knt hlo hx.next⟩⟩
end
end Go.Ev

namespace Go.Ev
open Go.RowKit
section
variable {tb:Tabs} {N G:Nat} {w0:World} {base:List Frame} {E:Env} {m:Mem} {lo:Nat} {fn:FuncId} {t:T Value} {nt:Nat} {k:List AItem} {ds:List Deferred} {kind:CallKind} {ro:Option Nat} {cs:List AFrame} {fr':Frame} {cs':List Frame} {w:World} {am:AM}
structure Qtk (tb:Tabs) (E:Env) (G:Nat) (t:T Value) (fr':Frame) (ops:Array Oper) (i:Nat) (o:Oper) (rest:List Nat) (k1:List Item):Prop where
 mode:fr'.mode=.run
 todo:fr'.todo=.inRegion ops (i::rest)::k1
 op:ops[i]? = some o
 wanted:Region.wanted o (yielded ops fr'.tmps)=true
 args:∀ y∈o.op.operands.toList,VR E (ev t y) (fr'.eval y)
theorem write_ok (ok:TabsOk tb) {fr fr1:AFrame} {ops:Array Oper} {i:Nat} {o:Oper} {rest:List Nat} {k1:List Item} {v:Value} {m':Mem} (S:StR tb N G w0 base ⟨fr,cs,m⟩ fr' cs' w E lo) (HH:Qtk tb E G t fr' ops i o rest k1)
  (hh:∀ ops rem hist mask sched k k',fr.todo=.dr ops rem hist mask::k→fr'.todo=.inRegion ops sched::k'→∃ i o l rest,rem=(i,o)::l∧sched=i::rest)
  (he:opA o.op tb t m=.e v m') (hf:Qbn tb fr v m'=some fr1):Qf9 tb N G w0 base ⟨fr1,cs,m'⟩ fr' cs' w:=by
 have hop:=Qty (o:=o) ok S.mem HH.args
 rw [he] at hop
 obtain⟨nx,w',E',q1,q2,q3,q4⟩:=hop
 have hg:=Qjy (cs:=cs') (w:=w) (P:=tb.p) HH.mode HH.todo HH.op HH.wanted (.inr fun c e=>by rw [e] at he;simp [opA,kC] at he)
 rcases q2 with ⟨v',rfl,hv⟩|⟨rfl,hv⟩
 ·exact Qva S hh q3 q4 hv hf (Qb2 q1 (.inl rfl) hg)
 ·exact Qva S hh q3 q4 (v':=undef) (by rw [hv];exact .undef E') hf (Qb2 q1 (.inr ⟨rfl,rfl⟩) hg)
end
end Go.Ev

namespace Go.Ev
open Go.RowKit
section
variable {tb:Tabs} {E:Env} {G:Nat} {t:T Value} {nt:Nat} {fr':Frame} {ops:Array Oper} {i:Nat} {o:Oper} {rest:List Nat} {k1:List Item} {X:Nat→Prop}
theorem Qtk.of (HG:Qhc G E) (hs:TRx E X t nt fr'.tmps) (hm:fr'.mode=.run) (ht:fr'.todo=.inRegion ops (i::rest)::k1) (ho:ops.toList[i]? = some o) (hok:∀ o∈ops.toList,opOk G o=true) (hr:∀ d,Qgk ops o d→¬ X d) (hw:Qbh t ops o.guard=true) :
  Qtk tb E G t fr' ops i o rest k1:=by
 refine⟨hm,ht,by simpa using ho,?_,fun y hy=>Qfw HG hs (List.all_eq_true.1 (hok o (List.mem_of_getElem? ho)) y hy) fun d e=>hr d (.inl (by rw [← e];exact hy))⟩
 rw [Qku (E:=E) (t:=t) fun d hd=>hs.2 d (hr d hd)]
 exact hw
theorem DrI.reads_done {m:Mem} {lo hi:Nat} {wait:Bool} {rem:List (Nat × Oper)} {hist:List Hist} {mask:Nat} (H:DrI tb E m lo hi ops t nt wait rem hist mask (i::rest)) (ho:ops.toList[i]? = some o) (hd:Qf4 ops o hist=true) :
  ∀ d,Qgk ops o d→¬ lagX hist (i::rest) d:=by
 rintro d hr ⟨g,hg,gi,gd⟩
 obtain⟨e,h1,h2,h3⟩:=Qej (Qf3 hd g hg d gd hr)
 exact H.valid.2.1 o ho e h1 h3 (by rw [h2];exact gi)
end
end Go.Ev

namespace Go.Ev
open Go.RowKit
structure ProgOk (tb:Tabs) (N G:Nat) (w0:World):Prop where
 tabs:TabsOk tb
 g:tb.g=G
 names:∀ f fn,tb.funcs.get f=some fn→(fn.name == "runtime.NumGoroutine")=false
 codes:∀ f fn c,tb.funcs.get f=some fn→fn.body=some c→Qb6 G c=true
 ext:∀ f fn args v,tb.funcs.get f=some fn→fn.body=none→Qld fn.name args=.value v→∀ (E:Env) (args':List Value) (w:World),VRs E args args'→∃ v',(callFunc f ⟨args'⟩).run tb.p w=.ok (.value v') w∧VR E v v'
 ov:∀ f g args m v m',tb.ov.get f=some g→g args m=some (v,m')→∀ (E:Env) (args':List Value) (w:World),MR tb.p N w0 E m w→Qhc G E→VRs E args args' →
  (callFunc f ⟨args'⟩).run tb.p w=.ok (.enter f ⟨args'⟩) w∧Calls tb.p f ⟨args'⟩ w fun e w'=>∃ v' E',e=.returned v'∧VR E' v v'∧MR tb.p N w0 E' m' w'∧MExt m.next E m E' m'
section
variable {tb:Tabs} {N G:Nat} {w0:World} {E:Env} {m:Mem} {w:World}
def Qjr (tb:Tabs) (N G:Nat) (w0:World) (E:Env) (m:Mem) (w:World) (s:Sem Next):ANext→Prop
 | .enter f args=>∃ args',(∀ fn c,tb.funcs.get f=some fn→fn.body=some c→s.run tb.p w=.ok (.enter f ⟨args'⟩) w)∧VRs E args args'
 | .round l args=>∃ i args',E l=some i∧s.run tb.p w=(Instr.yield i.blk ⟨args'⟩).run tb.p w∧VRs E args args'
 | .value v=>∃ v',s.run tb.p w=.ok (.value v') w∧VR E v v'
 | .over v m'=>∃ f args',s.run tb.p w=.ok (.enter f ⟨args'⟩) w∧Calls tb.p f ⟨args'⟩ w fun e w'=>∃ v' E',e=.returned v'∧VR E' v v'∧MR tb.p N w0 E' m' w'∧MExt m.next E m E' m'
 | .bad=>True
theorem Qjr.congr {s s':Sem Next} {n:ANext} (e:s.run tb.p w=s'.run tb.p w) (h:Qjr tb N G w0 E m w s' n):Qjr tb N G w0 E m w s n:=by
 cases n<;>simp only [Qjr] at h ⊢ <;> rw [e]<;>exact h
theorem Qh4 (pk:ProgOk tb N G w0) {f:FuncId} {fn:Func} {c:Code} (h:tb.funcs.get f=some fn) (hb:fn.body=some c) (args:Array Value):(callFunc f args).run tb.p w=.ok (.enter f args) w:=by
 have h1:=pk.tabs.funcs f fn h
 have h2:¬ fn.name = "runtime.NumGoroutine" := by simpa using pk.names f fn h
 unfold callFunc
 simp [h1,h2,hb]
theorem Qsw {name:String} {args:List Value}:(∃ v,Qld name args=.value v)∨Qld name args=.bad:=by
 unfold Qld
 split
 ·split
  ·split
   ·exact .inl ⟨_,rfl⟩
   ·exact .inr rfl
  ·exact .inr rfl
 ·split
  ·split
   ·exact .inl ⟨_,rfl⟩
   ·exact .inr rfl
  ·exact .inr rfl
theorem Qq5 (pk:ProgOk tb N G w0) (HM:MR tb.p N w0 E m w) (HG:Qhc G E) {f:FuncId} {args args':List Value} (ha:VRs E args args'):Qjr tb N G w0 E m w (callFunc f ⟨args'⟩) (Ql4 tb f args m):=by
 unfold Ql4
 split
 ·rename_i g hg
  split
  ·rename_i v m' h
   obtain⟨h1,h2⟩:=pk.ov f g args m v m' hg h E args' w HM HG ha
   exact⟨f,args',h1,h2⟩
  ·exact⟨args',fun fn c h1 h2=>Qh4 pk h1 h2 _,ha⟩
 ·split
  ·rename_i fn hf
   split
   ·exact⟨args',fun fn c h1 h2=>Qh4 pk h1 h2 _,ha⟩
   ·rename_i hb
    rcases Qsw (name:=fn.name) (args:=args) with ⟨v,he⟩|he
    ·rw [he];exact pk.ext f fn args v hf hb he E args' w ha
    ·rw [he];trivial
  ·trivial
theorem Qj8 (a b:List Value):(⟨a⟩:Array Value)++(⟨b⟩:Array Value)=⟨a++b⟩:=Array.ext' (by simp)
theorem Qk9 (pk:ProgOk tb N G w0) (HM:MR tb.p N w0 E m w) (HG:Qhc G E) {fn fn':Fn} {q q':Array Value} {c c' a a':List Value} (h:VR E (.func fn q ⟨c⟩) (.func fn' q' ⟨c'⟩)) (ha:VRs E a a') :
  Qjr tb N G w0 E m w (invoke (.fn fn' ⟨c'⟩) ⟨a'⟩) (Qd8 tb fn c a m):=by
 cases h with
 |func hf h1 h2 =>
  cases fn with
  |func f =>
   have:=Qq5 pk HM HG (f:=f) (ha.append h2)
   simp only [Qd8,invoke,Qj8]
   exact this
  |yield l=>exact absurd rfl (hf l)
  |via t path f ptr =>
   simp only [Qd8]
   split
   ·rename_i x rest hp
    cases ha with
    | @cons _ x' _ rest' hx ht =>
    have hpath:path.toList=[]:=hp
    have key:∀ i,ti tb t=some i→(ptr=true∧(∃ e,i.d=.pointer e))∨(ptr=false∧∀ e,i.d≠.pointer e)→(invoke (.fn (.via t path f ptr) ⟨c'⟩) ⟨x'::rest'⟩).run tb.p w=(callFunc f ⟨x'::rest'⟩).run tb.p w:=by
     intro i hi hc
     have hu:(underlying t).run tb.p w=.ok i.d w:=Qap pk.tabs hi
     have hr:(receiverVia t x' path ptr).run tb.p w=.ok x' w:=by
      unfold receiverVia
      rw [hpath]
      simp only [follow,receiverAt]
      rcases hc with ⟨rfl,e,he⟩|⟨rfl,he⟩
      ·rw [he] at hu
       simp [Sem.run_bind,hu,Place.get,Result.andThen]
      ·have:∀ d,i.d=d→(∀ e,d≠.pointer e)→(match d,false,Place.val x' with | .pointer _,true,x=>x.get t | .pointer elem,false,x=>(do let ptr ← x.get t;loadVar elem (← asAddr ptr))|_,true,.var a=>pure (.pointer (some a))|_,true,.val _=>stuck "method row: a pointer method of a value without an address" | _,false,x=>x.get t:Sem Value)=(pure x':Sem Value):=by
        intro d _ hd
        cases d<;>first|(exact absurd rfl (hd _))|rfl
       simp only [Sem.run_bind,pure,Sem.run,Result.andThen,hu]
       cases hd:i.d<;>first|(exact absurd hd (he _))|rfl
     simp only [invoke]
     simp [Sem.run_bind,hr,Result.andThen]
    cases ptr with
    |true =>
     simp only
     split
     ·rename_i i hi
      split
      ·rename_i e he
       exact Qjr.congr (key i hi (.inl ⟨rfl,e,he⟩)) (Qq5 pk HM HG (.cons hx ht))
      ·trivial
     ·trivial
    |false =>
     simp only
     split
     ·rename_i i hi
      split
      ·trivial
      ·rename_i he
       exact Qjr.congr (key i hi (.inr ⟨rfl,fun e h=>he e h⟩)) (Qq5 pk HM HG (.cons hx ht))
     ·trivial
   ·trivial
  |_=>trivial
 | @yield l i hE=>exact⟨i,a',hE,rfl,ha⟩
theorem Qlw (pk:ProgOk tb N G w0) (HM:MR tb.p N w0 E m w) (HG:Qhc G E) {f f':Value} {a a':List Value} (hf:VR E f f') (ha:VRs E a a') :
  Qjr tb N G w0 E m w (do let d ← Deferred.ofValue f' ⟨a'⟩;invoke d.target d.args) (Qaz tb f a m):=by
 cases f with
 |func fn first captured =>
  obtain⟨first⟩:=first
  obtain⟨captured⟩:=captured
  have hf0:=hf
  cases hf with
  | @func _ _ f1 _ c1 hne h1 h2 =>
    refine Qjr.congr ?_ (Qk9 pk HM HG hf0 (h1.append ha))
    simp [Deferred.ofValue,Sem.run_bind,Result.andThen,pure,Sem.run,Qj8]
  |yield hE =>
   refine Qjr.congr ?_ (Qk9 pk HM HG (.yield hE) (VRs.nil.append ha))
   simp [Deferred.ofValue,Sem.run_bind,Result.andThen,pure,Sem.run]
 |_=>trivial
end
end Go.Ev

namespace Go.Ev
open Go.RowKit
def Qb3 (tb:Tabs) (N G:Nat) (w0:World) (base:List Frame) (am:AM) (m0:Machine):Prop :=
 ∃ fr2 cs2 w2 E2 lo2,Steps tb.p m0 (lone fr2 cs2 w2)∧StR tb N G w0 base am fr2 cs2 w2 E2 lo2
def App (P:Program) (m0:Machine) (fr':Frame) (cs':List Frame) (s:Sem Next) (w:World):Prop :=
 ∀ fr2 cs2 w2,(stepG.apply P true fr' cs' none s w).bare=.go { frame:=fr2,callers:=cs2,status:=.running,dying:=none } w2→step P m0=.next (lone fr2 cs2 w2)
section
variable {P:Program} {m0:Machine} {fr':Frame} {cs':List Frame} {s:Sem Next} {w w':World}
theorem App.of (hg:stepG P true { frame:=fr',callers:=cs',status:=.running,dying:=none } w=stepG.apply P true fr' cs' none s w):App P (lone fr' cs' w) fr' cs' s w :=
 fun _ _ _ h=>step_lone_go (by rw [hg];exact h)
theorem App.value {v:Value} (h:App P m0 fr' cs' s w) (hr:s.run P w=.ok (.value v) w'):step P m0=.next (lone (fr'.finish v) cs' w'):=h _ _ _ (by simp [stepG.apply,Sem.runT_eq,hr])
theorem App.skip (h:App P m0 fr' cs' s w) (hr:s.run P w=.ok .skip w'):step P m0=.next (lone (fr'.finish undef) cs' w'):=h _ _ _ (by simp [stepG.apply,Sem.runT_eq,hr])
theorem App.enter {f:FuncId} {args:Array Value} (h:App P m0 fr' cs' s w) (hr:s.run P w=.ok (.enter f args) w') (hk:∀ d r sv k,fr'.todo≠.call d true r sv::k):step P m0=.next (lone (Frame.enter P f args .normal) (fr'::cs') w'):=by
 refine h _ _ _ ?_
 have:(match fr'.todo with | .call _ true _ _::_=>CallKind.wrapped|_=>.normal)=.normal:=by
  split
  ·rename_i d r sv k he;exact absurd he (hk d r sv k)
  ·rfl
 simp [stepG.apply,Sem.runT_eq,hr,this]
theorem App.round {l:Nat} {f:FuncId} {tm:Array Value} {a b:Code} (h:App P m0 fr' cs' s w) (hr:s.run P w=.ok (.round l f tm a b) w'):step P m0=.next (lone (Frame.round l f tm a b .normal) (fr'::cs') w'):=h _ _ _ (by simp [stepG.apply,Sem.runT_eq,hr])
theorem App.panic {v:Value} (h:App P m0 fr' cs' s w) (hr:s.run P w=.halt (.panic v) w'):step P m0=.next (lone (fr'.raise [{ v,recovered:=false }]) cs' w'):=h _ _ _ (by simp [stepG.apply,Sem.runT_eq,hr])
theorem App.defer {d:Deferred} (h:App P m0 fr' cs' s w) (hr:s.run P w=.ok (.defer d) w'):step P m0=.next (lone ({ fr' with defers:=d::fr'.defers }.finish undef) cs' w'):=h _ _ _ (by simp [stepG.apply,Sem.runT_eq,hr])
theorem App.recover (h:App P m0 fr' cs' s w) (hr:s.run P w=.ok .recover w') (hro:fr'.roundOf=none) :
  step P m0=.next (lone (fr'.finish (match tryRecover fr' cs' with|some (v,_)=>v|none=>.nilIface)) (match tryRecover fr' cs' with|some (_,cs)=>cs|none=>cs') w'):=by
 refine h _ _ _ ?_
 simp only [stepG.apply,Sem.runT_eq,hr,hro,GStep.bare_after,if_true]
 cases tryRecover fr' cs' with
 |none=>rfl
 |some q=>rfl
end
section
variable {tb:Tabs} {N G:Nat} {w0:World} {base:List Frame} {E:Env} {m:Mem} {lo hi:Nat} {cs:List AFrame} {fr':Frame} {cs':List Frame} {w:World} {am:AM} {m0:Machine}
theorem Qgw {fr1:AFrame} {fr:AFrame} {m':Mem} {E':Env} {w':World} {v v':Value} (S:StR tb N G w0 base ⟨fr,cs,m⟩ fr' cs' w E lo)
  (hh:∀ ops rem hist mask sched k k',fr.todo=.dr ops rem hist mask::k→fr'.todo=.inRegion ops sched::k'→∃ i o l rest,rem=(i,o)::l∧sched=i::rest)
  (HM:MR tb.p N w0 E' m' w') (hx:MExt m.next E m E' m') (hv:VR E' v v') (hf:Qbn tb fr v m'=some fr1) (hst:Steps tb.p m0 (lone (fr'.finish v') cs' w')) :
  Qb3 tb N G w0 base ⟨fr1,cs,m'⟩ m0:=by
 have hlo:=S.lo
 have hx2:=hx.lower hlo
 have ht:=((S.top.waits hh).wait hx).finish hx.next hv hf
 exact⟨_,_,_,E',lo,hst,⟨HM,fun g hg=>hx.le _ _ (S.glob g hg),ht,S.callers.ext hx2,Knt hlo hx.next⟩⟩
theorem FR.enter (pk:ProgOk tb N G w0) {f:FuncId} {args args':List Value} {kind:CallKind} {g:AFrame} (h:Qf2 tb f args kind=some g) (ha:VRs E args args') (hk:kind=.normal∨kind=.deferred) :
  FR tb E m lo hi G false g (Frame.enter tb.p f ⟨args'⟩ kind):=by
 unfold Qf2 at h
 split at h<;>first|(simp at h;done)|skip
 rename_i fn hf
 split at h<;>first|(simp at h;done)|skip
 rename_i c hb
 obtain rfl:=Kai h
 have h1:=pk.tabs.funcs f fn hf
 have e:Frame.enter tb.p f ⟨args'⟩ kind = { fn:=f,tmps:=⟨args'⟩++Array.replicate (fn.ntmps-args'.length) undef,todo:=[.code c],defers:=[],mode:=.run,kind }:=by
  simp [Frame.enter,h1,hb]
 rw [e]
 refine .run (by simp [h1]) (.plain (.cons (.code (pk.codes f fn c hf hb)) .nil)) ⟨?_,fun x _=>?_⟩ .nil .none hk
 ·have:=ha.length
  simp;omega
 ·simp only [ev,T.get_ofList,Array.getD_eq_getD_getElem?,Array.getElem?_append,List.getElem?_toArray]
  cases hx:args[x]? with
  |none =>
   have hl:args.length≤x:=by simpa using hx
   have hl':args'.length≤x:=by rw [← ha.length];exact hl
   rw [if_neg (by simp;omega)]
   rw [Array.getElem?_replicate]
   simp only
   by_cases hq:x-(⟨args'⟩:Array Value).size<fn.ntmps-args'.length
   ·rw [if_pos hq];exact .undef E
   ·rw [if_neg hq];exact .undef E
  |some v =>
   obtain⟨v',h2,h3⟩:=ha.get x v hx
   have hl':=(Kgs.1 h2).1
   rw [if_pos (by simpa using hl')]
   simpa [h2] using h3
theorem Qnt {nt:Nat}:∀ {ps:List Tmp} {vs vs':List Value} {t t1:T Value} {tm:Array Value},Qfz nt ps vs t=some t1→VRs E vs vs'→TR E t nt tm →
  ps.length=vs'.length∧TR E t1 nt ((ps.zip vs').foldl (fun tm (x:Tmp × Value)=>tm.setIfInBounds x.1 x.2) tm)
 | [],_,_,t,t1,tm,h,.nil,ht=>by
   simp only [Qfz,Kaj] at h;subst h
   exact⟨rfl,ht⟩
 |p::ps,_,_,t,t1,tm,h,.cons hv hs,ht=>by
  simp only [Qfz,Qae] at h
  obtain⟨t2,h1,h2⟩:=h
  obtain⟨a,b⟩:=Qnt h2 hs (Qp4 ht h1 hv)
  exact⟨by simp [a],b⟩
 | [],_,_,t,t1,tm,h,.cons hv hs,ht=>by simp [Qfz] at h
 |p::ps,_,_,t,t1,tm,h,.nil,ht=>by simp [Qfz] at h
theorem goA_ok (pk:ProgOk tb N G w0) {n:ANext} {s:Sem Next} {fr:AFrame} (S:StR tb N G w0 base ⟨fr,cs,m⟩ fr' cs' w E lo)
  (hh:∀ ops rem hist mask sched k k',fr.todo=.dr ops rem hist mask::k→fr'.todo=.inRegion ops sched::k'→∃ i o l rest,rem=(i,o)::l∧sched=i::rest)
  (hn:Qjr tb N G w0 E m w s n) (happ:App tb.p m0 fr' cs' s w) (hk:∀ d r sv k,fr'.todo≠.call d true r sv::k) (h:goA tb n fr cs m=some am):Qb3 tb N G w0 base am m0:=by
 cases n with
 |bad=>simp [goA] at h
 |enter f args =>
  simp only [goA] at h
  split at h<;>first|(simp at h;done)|skip
  rename_i g hg
  obtain rfl:=Kai h
  obtain⟨args',h1,h2⟩:=hn
  have hg0:=hg
  unfold Qf2 at hg0
  split at hg0<;>first|(simp at hg0;done)|skip
  rename_i fn hf
  split at hg0<;>first|(simp at hg0;done)|skip
  rename_i c hb
  exact⟨_,_,_,E,m.next,.one (happ.enter (h1 fn c hf hb) hk),⟨S.mem,S.glob,FR.enter pk hg h2 (.inl rfl),.cons (S.top.waits hh) S.callers S.lo,Knr _⟩⟩
 |round l args =>
  simp only [goA,Qvr] at h
  split at h<;>first|(simp at h;done)|skip
  rename_i st pe fn tmps nt ps a b ds hl
  split at h<;>first|(simp at h;done)|skip
  rename_i hc
  split at h<;>first|(simp at h;done)|skip
  rename_i t hfp
  obtain rfl:=Kai h
  obtain⟨i,args',hE,h1,h2⟩:=hn
  simp only [Kba] at hc
  obtain⟨⟨hca,hcb⟩,hfn⟩:=hc
  rw [pk.g] at hca hcb
  obtain⟨fnd,hfd⟩:=Option.isSome_iff_exists.1 hfn
  have hfd':=pk.tabs.funcs fn fnd hfd
  obtain⟨ob,hob,hR⟩:=S.mem.objs l i _ hE hl rfl
  cases hR with
  | @loop _ _ _ _ _ tm _ _ _ _ j ht hds =>
  obtain⟨hlen,hTR⟩:=Qnt hfp h2 ht
  have hrun:s.run tb.p w=.ok (.round i.blk fn ((ps.zip args').foldl (fun tm (x:Tmp × Value)=>tm.setIfInBounds x.1 x.2) tm) a b) w:=by
   rw [h1]
   have hsz:¬ ((⟨args'⟩:Array Value).size≠(⟨ps⟩:Array Tmp).size):=by simpa using hlen.symm
   simp [Instr.yield,Instr.getLoop,getObj,Sem.run_bind,Sem.run,hob,Result.andThen,hlen.symm,pure]
  refine⟨_,_,_,E,m.next,.one (happ.round hrun),⟨S.mem,S.glob,?_,.cons (S.top.waits hh) S.callers S.lo,Knr _⟩⟩
  exact .run (by rw [hfd'];rfl) (.plain (.cons (.code hca) (.cons .beginRound (.cons (.code hcb) .nil)))) hTR .nil (.some hE) (.inl rfl)
 |value v =>
  simp only [goA,Go.Ev.am] at h
  split at h<;>first|(simp at h;done)|skip
  rename_i fr1 hf
  obtain rfl:=Kai h
  obtain⟨v',h1,h2⟩:=hn
  exact Qgw S hh S.mem (.refl _ _ _) h2 hf (.one (happ.value h1))
 |over v m' =>
  simp only [goA,Go.Ev.am] at h
  split at h<;>first|(simp at h;done)|skip
  rename_i fr1 hf
  obtain rfl:=Kai h
  obtain⟨f,args',h1,h2⟩:=hn
  obtain⟨e,w',frx,⟨v',E',rfl,hv,hm,hx⟩,hc,_,hle⟩:=h2 (fr'::cs')
  exact Qgw S hh hm hx hv hf (Steps.trans (.head (happ.enter h1 hk) hc) (.one (step_leave_returned hle)))
end
end Go.Ev

namespace Go.Ev
open Go.RowKit
section
variable {P:Program} {fr:Frame} {cs:List Frame} {w:World} {k:List Item} {ops:Array Oper} {i:Nat} {rest:List Nat}
theorem Qy7 (hm:fr.mode=.run) (ht:fr.todo=.inRegion ops (i::rest)::k) {o:Oper} (ho:ops[i]? = some o) (hw:Region.wanted o (yielded ops fr.tmps)=true) {l:Nat} {c:Call} (hr:fr.roundOf=some l) (hd:o.op=.defer c) :
  stepG P true { frame:=fr,callers:=cs,status:=.running,dying:=none } w=stepG.apply P true fr cs none (do Instr.deferInRound l (← resolve fr.eval c o.type);pure .skip) w:=by
 obtain⟨fn,tmps,todo,defers,mode,kind,ro⟩:=fr
 simp only at hm ht hw hr;subst hm;subst ht;subst hr
 simp [stepG,stepG.exec,stepG.oper,Frame.oper?,ho,hw,hd]
end
section
variable {tb:Tabs} {N G:Nat} {w0:World} {base:List Frame} {E:Env} {m:Mem} {lo hi:Nat} {cs:List AFrame} {fr':Frame} {cs':List Frame} {w:World} {am:AM} {m0:Machine}
theorem TodoR.lagEmpty {wait:Bool} {t:T Value} {nt:Nat} {k:List AItem} {k':List Item} {X:Nat→Prop} (h:TodoR tb E m lo hi G wait t nt k k' X):isDr k=true∨∀ x,¬ X x:=by
 cases h with
 |plain=>exact .inr fun _ h=>h
 |ops=>exact .inr fun _ h=>h
 |dr=>exact .inl rfl
theorem FR.raise {lo2 hi2:Nat} {m2:Mem} {wait wait2:Bool} {fr:AFrame} {ch ch':List PanicEntry} (h:FR tb E m lo hi G wait fr fr') (hp:PeR E ch ch'):FR tb E m2 lo2 hi2 G wait2 (Qj3 fr ch) (fr'.raise ch'):=by
 cases h with
 |run hf ht hs hd hr hk=>exact .pan hf hs ht.lagEmpty hp hd hr hk
 |ret hf hs hd hr hk=>exact .pan hf hs (.inr fun _ h=>h) hp hd hr hk
 |pan hf hs hX hq hd hr hk=>exact .pan hf hs hX (hp.append hq) hd hr hk
theorem Qvu {fr:AFrame} {v v':Value} (S:StR tb N G w0 base ⟨fr,cs,m⟩ fr' cs' w E lo) (hv:VR E v v') (hst:step tb.p m0=.next (lone (fr'.raise [{ v:=v',recovered:=false }]) cs' w)) :
  Qb3 tb N G w0 base ⟨Qj3 fr [{ v,recovered:=false }],cs,m⟩ m0 :=
 ⟨_,_,_,E,lo,.one hst,⟨S.mem,S.glob,S.top.raise (.cons hv rfl rfl .nil),S.callers,S.lo⟩⟩
theorem FR.kind_eq {wait:Bool} {fr:AFrame} (h:FR tb E m lo hi G wait fr fr'):fr'.kind=fr.kind:=by cases h<;>rfl
theorem FR.ro_rel {wait:Bool} {fr:AFrame} (h:FR tb E m lo hi G wait fr fr'):RoR E fr.ro fr'.roundOf:=by cases h<;>assumption
theorem Qjf {ρ : Operand→Value} {c:Call} {b:Builtin} {t:TypeId} (h:c.callee=.builtin b) :
  ∃ q,(resolve ρ c t).run tb.p w=.ok { target:=.builtin b c.argTypes t q,args:=c.args.map ρ } w:=by
 unfold resolve
 rw [h]
 exact⟨_,rfl⟩
theorem Qua {fr:AFrame} (S:StR tb N G w0 base ⟨fr,cs,m⟩ fr' cs' w E lo)
  (hh:∀ ops rem hist mask sched k k',fr.todo=.dr ops rem hist mask::k→fr'.todo=.inRegion ops sched::k'→∃ i o l rest,rem=(i,o)::l∧sched=i::rest)
  {s:Sem Next} (happ:App tb.p m0 fr' cs' s w) (hr:s.run tb.p w=.ok .recover w) (h:Qhj tb fr cs m=some am):Qb3 tb N G w0 base am m0:=by
 have hro:=S.top.ro_rel
 have hki:=S.top.kind_eq
 unfold Qhj at h
 split at h<;>first|(simp at h;done)|skip
 rename_i hro1
 simp only at hro
 rw [hro1] at hro
 have hro2:fr'.roundOf=none:=by generalize fr'.roundOf=q at hro;cases hro;rfl
 have hst:=happ.recover hr hro2
 have nil:tryRecover fr' cs'=none→∀ {q:Option AFrame},Qbn tb fr .nilIface m=q→Go.Ev.am q cs m=some am→Qb3 tb N G w0 base am m0:=by
  intro hn q hq h
  subst hq
  simp only [Go.Ev.am] at h
  split at h<;>first|(simp at h;done)|skip
  rename_i fr1 hf
  obtain rfl:=Kai h
  rw [hn] at hst
  exact Qgw S hh S.mem (.refl _ _ _) .nilIface hf (.one hst)
 split at h
 ·rename_i hk
  have hk':fr'.kind=.normal:=hki.trans hk
  exact nil (by cases cs'<;>simp [tryRecover,hk']) rfl h
 ·rename_i hk
  have hk':fr'.kind=.deferred:=hki.trans hk
  split at h<;>first|(simp at h;done)|skip
  rename_i c rest
  have hC:=S.callers
  cases hC with
  | @cons _ lo1 _ c' _ rest' hc ht hl =>
  have key:∀ {md:FrameMode},c'.mode=md→tryRecover fr' (c'::rest')=(match md with | .panicking ({ v,recovered:=false,goexit:=false }::older)=>some (v,{ c' with mode:=.panicking ({ v,recovered:=true }::older) }::rest')|_=>none):=by
   intro md hmd
   subst hmd
   simp only [tryRecover,hk']
   rfl
  split at h
  ·rename_i p older hmode
   cases hc with
   |run=>simp at hmode
   |ret=>simp at hmode
   | @pan fnc tc ntc kc dsc kindc roc tmc kc' dsc' roc' ch ch' X hf hs hX hp hd hr hk2 =>
   simp only [FrameMode.panicking.injEq] at hmode
   subst hmode
   cases hp with
   | @cons _ p' _ older' hv e1 e2 hold =>
   obtain⟨pv,pr,pg⟩:=p
   obtain⟨pv',pr',pg'⟩:=p'
   simp only at hv e1 e2 h
   subst e1;subst e2
   split at h
   ·have htr:=key (md:=.panicking ({ v:=pv',recovered:=false,goexit:=false }::older')) rfl
    rw [htr] at hst
    simp only [Go.Ev.am] at h
    split at h<;>first|(simp at h;done)|skip
    rename_i fr1 hf1
    obtain rfl:=Kai h
    have S':StR tb N G w0 base ⟨fr,Qd6 ⟨fnc,tc,ntc,kc,dsc,.panicking ({ v:=pv,recovered:=false,goexit:=false }::older),kindc,roc⟩ (.panicking ({ v:=pv,recovered:=true }::older))::rest,m⟩ fr'
      ({ fn:=fnc,tmps:=tmc,todo:=kc',defers:=dsc',mode:=.panicking ({ v:=pv',recovered:=true }::older'),kind:=kindc,roundOf:=roc' }::rest') w E lo :=
     ⟨S.mem,S.glob,S.top,.cons (.pan hf hs hX (.cons hv rfl rfl hold) hd hr hk2) ht hl,S.lo⟩
    exact Qgw S' hh S.mem (.refl _ _ _) hv hf1 (.one hst)
   ·rename_i hne
    refine nil ?_ rfl h
    rw [key rfl]
    cases pr<;>cases pg<;>first|rfl|exact absurd rfl (hne rfl)
  ·rename_i hmode
   refine nil ?_ rfl h
   cases hc with
   |run=>exact key rfl
   |ret=>exact key rfl
   | @pan fnc tc ntc kc dsc kindc roc tmc kc' dsc' roc' ch ch' X hf hs hX hp hd hr hk2 =>
     cases hp with
     |nil=>exact key rfl
     |cons hv e1 e2 hold=>exact absurd rfl (hmode _ _)
 ·simp at h
end
end Go.Ev

namespace Go.Ev
open Go.RowKit
section
variable {tb:Tabs} {N G:Nat} {w0:World} {base:List Frame} {E:Env} {m:Mem} {lo hi:Nat} {cs:List AFrame} {fr':Frame} {cs':List Frame} {w:World} {am:AM} {m0:Machine}
theorem Qte {wait:Bool} {fr:AFrame} {d d':Deferred} (h:FR tb E m lo hi G wait fr fr') (hm:fr'.mode=.run) (hd:DefR E d d'):FR tb E m lo hi G wait (Qkn fr d) { fr' with defers:=d'::fr'.defers }:=by
 cases h with
 |run hf ht hs hds hr hk=>exact .run hf ht hs (.cons hd hds) hr hk
 |ret=>simp at hm
 |pan=>simp at hm
theorem Qs1 {fr:AFrame} {ops:Array Oper} {i:Nat} {o:Oper} {rest:List Nat} {k1:List Item} {c:Call} {d d':Deferred} (S:StR tb N G w0 base ⟨fr,cs,m⟩ fr' cs' w E lo) (HH:Qtk tb E G fr.tmps fr' ops i o rest k1)
  (hh:∀ ops rem hist mask sched k k',fr.todo=.dr ops rem hist mask::k→fr'.todo=.inRegion ops sched::k'→∃ i o l rest,rem=(i,o)::l∧sched=i::rest)
  (hop:o.op=.defer c) (hd:DefR E d d') (hres:(resolve fr'.eval c o.type).run tb.p w=.ok d' w) (h:Qs2 tb d fr cs m=some am):Qb3 tb N G w0 base am (lone fr' cs' w):=by
 have hro:=S.top.ro_rel
 simp only at hro
 unfold Qs2 at h
 split at h
 ·rename_i hro1
  rw [hro1] at hro
  have hro2:fr'.roundOf=none:=by generalize fr'.roundOf=q at hro;cases hro;rfl
  have hg:=Qjy (cs:=cs') (w:=w) (P:=tb.p) HH.mode HH.todo HH.op HH.wanted (.inl hro2)
  have hrun:(execOp fr'.eval o).run tb.p w=.ok (.defer d') w:=by
   unfold execOp
   rw [hop]
   simp only [Sem.run_bind,hres,Result.andThen_ok]
   rfl
  have hst:=(App.of hg).defer hrun
  simp only [Go.Ev.am] at h
  split at h<;>first|(simp at h;done)|skip
  rename_i fr1 hf
  obtain rfl:=Kai h
  have S':StR tb N G w0 base ⟨Qkn fr d,cs,m⟩ { fr' with defers:=d'::fr'.defers } cs' w E lo:=⟨S.mem,S.glob,Qte S.top HH.mode hd,S.callers,S.lo⟩
  exact Qgw S' (fun ops rem hist mask sched k k' h1 h2=>hh ops rem hist mask sched k k' h1 h2) S.mem (.refl _ _ _) (.undef E) hf (.one hst)
 ·rename_i l hro1
  rw [hro1] at hro
  split at h<;>first|(simp at h;done)|skip
  rename_i st pe fn tmps nt ps a b ds hl
  split at h<;>first|(simp at h;done)|skip
  rename_i calls hds
  obtain⟨il,hil,hEl⟩:∃ il:Info,fr'.roundOf=some il.blk∧E l=some il:=by
   generalize fr'.roundOf=q at hro
   cases hro with
   |some h=>exact⟨_,rfl,h⟩
  obtain⟨ob,hob,hR⟩:=S.mem.objs l il _ hEl hl rfl
  cases hR with
  | @loop _ _ _ _ _ tm _ _ _ _ j ht hEd =>
  obtain⟨ob2,hob2,hR2⟩:=S.mem.objs ds j _ hEd hds rfl
  cases hR2 with
  | @dfr _ calls' hcs =>
  have hg:=Qy7 (cs:=cs') (w:=w) (P:=tb.p) HH.mode HH.todo HH.op HH.wanted hil hop
  obtain⟨p1,p2⟩:=Qh8 S.mem hEd hds rfl (o2:=.dfr (some (d::calls))) rfl hob2 (by simp) (ob2:=.deferred (some (d'::calls'))) (.dfr (.cons hd hcs))
  have hrun:(do Instr.deferInRound il.blk (← resolve fr'.eval c o.type);pure .skip:Sem Next).run tb.p w=.ok .skip { w with heap:=w.heap.setIfInBounds j.blk (.deferred (some (d'::calls'))) }:=by
   have g1:(getObj il.blk).run tb.p w=.ok (.loop { state:=st,pending:=pe,fn,tmps:=tm,params:=⟨ps⟩,assign:=a,body:=b,defers:=j.blk }) w:=by simp [getObj,Sem.run,hob]
   have g2:(getObj j.blk).run tb.p w=.ok (.deferred (some calls')) w:=by simp [getObj,Sem.run,hob2]
   simp only [Sem.run_bind,hres,Result.andThen_ok,Instr.deferInRound,Instr.getLoop,g1,g2,p1]
   simp [Sem.run_bind,Sem.run,pure,g2,p1,Result.andThen]
  have hst:=(App.of hg).skip hrun
  simp only [Go.Ev.am] at h
  split at h<;>first|(simp at h;done)|skip
  rename_i fr1 hf
  obtain rfl:=Kai h
  exact Qgw S hh p2 (MExt.put _ hEd) (.undef E) hf (.one hst)
theorem Qs0 (pk:ProgOk tb N G w0) {fr:AFrame} {ops:Array Oper} {i:Nat} {o:Oper} {rest:List Nat} {k1:List Item} (S:StR tb N G w0 base ⟨fr,cs,m⟩ fr' cs' w E lo) (HH:Qtk tb E G fr.tmps fr' ops i o rest k1)
  (hh:∀ ops rem hist mask sched k k',fr.todo=.dr ops rem hist mask::k→fr'.todo=.inRegion ops sched::k'→∃ i o l rest,rem=(i,o)::l∧sched=i::rest)
  (h:Qe7 tb o fr cs m=some am):Qb3 tb N G w0 base am (lone fr' cs' w):=by
 have harr:∀ a:Array Operand,a.map fr'.eval=⟨a.toList.map fr'.eval⟩:=fun a=>Array.ext' (by simp)
 unfold Qe7 at h
 split at h
 ·rename_i c hop
  have happ:=App.of (Qjy (cs:=cs') (w:=w) (P:=tb.p) HH.mode HH.todo HH.op HH.wanted (.inr fun c e=>by rw [hop] at e;simp at e))
  have hargs:VRs E (evs fr.tmps c.args.toList) (c.args.toList.map fr'.eval):=Qlf fun y hy=>HH.args y (by rw [hop];simp only [Op.operands,Call.operands,Array.toList_append,List.mem_append];exact .inr hy)
  split at h
  ·rename_i f hcal
   have hf:VR E (ev fr.tmps f) (fr'.eval f):=HH.args f (by rw [hop];simp [Op.operands,Call.operands,hcal])
   refine goA_ok pk S hh ?_ happ (by rw [HH.todo];simp) h
   refine Qjr.congr ?_ (Qlw pk S.mem S.glob hf hargs)
   unfold execOp
   rw [hop]
   simp only [resolve,hcal,harr]
  ·rename_i b hcal
   have hres:∃ q,(execOp fr'.eval o).run tb.p w=(builtin b c.argTypes o.type q (c.args.map fr'.eval)).run tb.p w:=by
    obtain⟨q,hq⟩:=Qjf (tb:=tb) (w:=w) (ρ := fr'.eval) (t:=o.type) hcal
    refine⟨q,?_⟩
    unfold execOp
    rw [hop]
    simp only [Sem.run_bind,hq,Result.andThen_ok,invoke]
   obtain⟨q,hres⟩:=hres
   split at h<;>first|(simp at h;done)|skip
   ·exact Qua S hh happ (by rw [hres];rfl) h
   ·split at h<;>first|(simp at h;done)|skip
    rename_i t v hev
    obtain rfl:=Kai h
    rw [hev] at hargs
    generalize hl:c.args.toList.map fr'.eval=l at hargs
    cases hargs with
    |cons h1 h2 =>
    cases h2
    have h10:=h1
    cases h1 with
    | @iface _ _ v' hv =>
    refine Qvu S h10 (happ.panic ?_)
    rw [hres,harr,hl]
    rfl
  ·simp at h
 ·rename_i c hop
  split at h<;>first|(simp at h;done)|skip
  rename_i d hd
  unfold deferOf at hd
  split at hd<;>first|(simp at hd;done)|skip
  rename_i f hcal
  split at hd<;>first|(simp at hd;done)|skip
  rename_i fn first captured hev
  obtain rfl:=Kai hd
  have hargs:VRs E (evs fr.tmps c.args.toList) (c.args.toList.map fr'.eval):=Qlf fun y hy=>HH.args y (by rw [hop];simp only [Op.operands,Call.operands,Array.toList_append,List.mem_append];exact .inr hy)
  have hf:VR E (ev fr.tmps f) (fr'.eval f):=HH.args f (by rw [hop];simp [Op.operands,Call.operands,hcal])
  rw [hev] at hf
  obtain⟨first⟩:=first
  obtain⟨captured⟩:=captured
  generalize hq:fr'.eval f=q at hf
  cases hf with
  | @func _ _ f1 _ c1 hne h1 h2 =>
    refine Qs1 S HH hh hop (d' := { target:=.fn fn ⟨c1⟩,args:=⟨f1++c.args.toList.map fr'.eval⟩ }) (.fn (.func hne .nil h2) (h1.append hargs)) ?_ h
    simp only [resolve,hcal,hq,Deferred.ofValue,harr,Qj8]
    rfl
  | @yield _ il hE =>
    refine Qs1 S HH hh hop (d' := { target:=.fn (.yield il.blk) ⟨[]⟩,args:=⟨[]++c.args.toList.map fr'.eval⟩ }) (.fn (.yield hE) (VRs.nil.append hargs)) ?_ h
    simp only [resolve,hcal,hq,Deferred.ofValue,harr,Qj8]
    rfl
 ·rename_i x hop
  have happ:=App.of (Qjy (cs:=cs') (w:=w) (P:=tb.p) HH.mode HH.todo HH.op HH.wanted (.inr fun c e=>by rw [hop] at e;simp at e))
  split at h<;>first|(simp at h;done)|skip
  rename_i t v hev
  obtain rfl:=Kai h
  have hx:VR E (ev fr.tmps x) (fr'.eval x):=HH.args x (by rw [hop];simp [Op.operands])
  rw [hev] at hx
  have hx0:=hx
  generalize hq:fr'.eval x=q at hx hx0
  cases hx with
  | @iface _ _ v' hv =>
  refine Qvu S hx0 (happ.panic ?_)
  unfold execOp
  rw [hop]
  simp only [hq]
  rfl
 ·simp at h
end
end Go.Ev

namespace Go.Ev
open Go.RowKit
section
variable {P:Program} {fn:FuncId} {tmps:Array Value} {k:List Item} {ds:List Deferred} {kind:CallKind} {ro:Option Nat} {c:Frame} {cs:List Frame} {w w':World}
inductive Leaves:List Item→Option Code→Prop where
 |fin:Leaves [] none
 |ret (k:List Item):Leaves (.code .ret::k) (some .ret)
 |exit {id:Nat} {k:List Item} (h:exitTo id k=none):Leaves (.code (.exit id)::k) (some (.exit id))
 |goto {l:Nat} {k:List Item} (h:gotoIn l k=none):Leaves (.code (.goto l)::k) (some (.goto l))
theorem Qoj {l:Nat} {todo:List Item} {j:Option Code} {v:Value} (h:Leaves todo j) (hr:(Instr.endRound l j).run P w=.ok v w') :
  step P (lone (rf fn tmps ds .normal (some l) todo) (c::cs) w)=.next (lone (c.finish v) cs w'):=by
 refine step_lone_go ?_
 cases h with
 |fin=>simp [stepG,stepG.exec,rf,Sem.runT_eq,hr,doReturn]
 |ret k=>simp [stepG,stepG.exec,rf,Sem.runT_eq,hr,doReturn]
 |exit h=>simp [stepG,stepG.exec,rf,Sem.runT_eq,hr,doReturn,h]
 |goto h=>simp [stepG,stepG.exec,rf,Sem.runT_eq,hr,doReturn,h]
theorem Qtu {todo:List Item} {j:Option Code} (h:Leaves todo j) (hj:j=none∨j=some .ret) :
  step P (lone (rf fn tmps ds kind none todo) cs w)=.next (lone { rf fn tmps ds kind none todo with mode:=.returning } cs w):=by
 cases h with
 |fin=>exact su_end
 |ret k=>exact su_ret
 |exit h=>rcases hj with hj|hj<;>simp at hj
 |goto h=>rcases hj with hj|hj<;>simp at hj
end
section
variable {tb:Tabs} {N G:Nat} {w0:World} {base:List Frame} {E:Env} {m:Mem} {lo hi:Nat} {cs:List AFrame} {fr':Frame} {cs':List Frame} {w:World} {am:AM} {m0:Machine}
variable {fn:FuncId} {t:T Value} {nt:Nat} {ds:List Deferred} {kind:CallKind} {ro:Option Nat}
theorem Qra {c fr1:AFrame} {c':Frame} {rest:List AFrame} {rest':List Frame} {lo1:Nat} {m':Mem} {E':Env} {w':World} {v v':Value} (hc:FR tb E m lo1 lo G true c c') (hct:CsR tb E m G base lo1 rest rest') (hcl:lo1≤lo) (hlo:lo≤m.next) (HG:Qhc G E)
  (HM:MR tb.p N w0 E' m' w') (hx:MExt lo E m E' m') (hv:VR E' v v') (hf:Qbn tb c v m'=some fr1) (hst:Steps tb.p m0 (lone (c'.finish v') rest' w')):Qb3 tb N G w0 base ⟨fr1,rest,m'⟩ m0 :=
 ⟨_,_,_,E',lo1,hst,⟨HM,fun g hg=>hx.le _ _ (HG g hg),(hc.wait hx).finish (Knt hlo hx.next) hv hf,hct.ext (hx.lower hcl),Knt hcl (Knt hlo hx.next)⟩⟩
theorem Qsi {k:List AItem} {tm:Array Value} {ds':List Deferred} {ro':Option Nat} {todo':List Item} {j:Option Code} {k2:List AItem}
  (S:StR tb N G w0 base ⟨⟨fn,t,nt,k,ds,.run,kind,ro⟩,cs,m⟩ (rf fn tm ds' kind ro' todo') cs' w E lo) (hs:TR E t nt tm) (hd:DefsR E ds ds') (hr:RoR E ro ro') (hki:kind=.normal∨kind=.deferred) (hf:(tb.p.funcs[fn]?).isSome=true)
  (hl:Leaves todo' j) (h:Qkc tb (frm fn t nt k2 ds kind ro) cs m j=some am):Qb3 tb N G w0 base am (lone (rf fn tm ds' kind ro' todo') cs' w):=by
 unfold Qkc at h
 simp only [frm] at h
 cases hr with
 |none =>
  simp only at h
  have go:some (⟨Qd6 ⟨fn,t,nt,k2,ds,.run,kind,none⟩ .returning,cs,m⟩:AM)=some am→(j=none∨j=some .ret)→Qb3 tb N G w0 base am (lone (rf fn tm ds' kind none todo') cs' w):=by
   intro h hj
   obtain rfl:=Kai h
   exact⟨_,_,_,E,lo,.one (Qtu hl hj),⟨S.mem,S.glob,.ret hf hs hd .none hki,S.callers,S.lo⟩⟩
  split at h
  ·exact go h (.inl rfl)
  ·split at h
   ·exact go h (.inr rfl)
   ·simp at h
 | @some l i hE =>
   simp only at h
   split at h<;>first|(simp at h;done)|skip
   rename_i st pe fnl tmps ntl ps a b dsl hol
   split at h<;>first|(simp at h;done)|skip
   split at h<;>first|(simp at h;done)|skip
   rename_i c rest
   obtain⟨ob,hob,hR⟩:=S.mem.objs l i _ hE hol rfl
   cases hR with
   | @loop _ _ _ _ _ tml _ _ _ _ jd ht hEd =>
   have hC:=S.callers
   cases hC with
   | @cons _ lo1 _ c' _ rest' hc hct hcl =>
   have fin:∀ (st2:LoopState) (j2:Option Code) (q:Bool),(Instr.endRound i.blk j).run tb.p w=.ok (.bool q) { w with heap:=w.heap.setIfInBounds i.blk (.loop { state:=st2,pending:=j2,fn:=fnl,tmps:=tml,params:=⟨ps⟩,assign:=a,body:=b,defers:=jd.blk }) } →
     Go.Ev.am (Qbn tb c (.bool q) (Qas m l (.loop st2 j2 fnl tmps ntl ps a b dsl))) rest (Qas m l (.loop st2 j2 fnl tmps ntl ps a b dsl))=some am→Qb3 tb N G w0 base am (lone (rf fn tm ds' .normal (some i.blk) todo') (c'::rest') w):=by
    intro st2 j2 q hrun h
    simp only [Go.Ev.am] at h
    split at h<;>first|(simp at h;done)|skip
    rename_i fr1 hf1
    obtain rfl:=Kai h
    obtain⟨p1,p2⟩:=Qh8 S.mem hE hol rfl (o2:=.loop st2 j2 fnl tmps ntl ps a b dsl) rfl hob (by simp) (ob2:=.loop { state:=st2,pending:=j2,fn:=fnl,tmps:=tml,params:=⟨ps⟩,assign:=a,body:=b,defers:=jd.blk }) (.loop ht hEd)
    exact Qra hc hct hcl S.lo S.glob p2 (MExt.put _ hE) (.bool q) hf1 (.one (Qoj hl hrun))
   have hget:(getObj i.blk).run tb.p w=.ok (.loop { state:=st,pending:=pe,fn:=fnl,tmps:=tml,params:=⟨ps⟩,assign:=a,body:=b,defers:=jd.blk }) w:=by simp [getObj,Sem.run,hob]
   split at h
   ·refine fin .ready none true ?_ h
    simp [Instr.endRound,Instr.getLoop,Sem.run_bind,Sem.run,pure,setObj,getObj,hob,Result.andThen]
   ·rename_i j2
    refine fin .done (some j2) false ?_ h
    simp [Instr.endRound,Instr.getLoop,Sem.run_bind,Sem.run,pure,setObj,getObj,hob,Result.andThen]
end
end Go.Ev

namespace Go.Ev
open Go.RowKit
section
variable {tb:Tabs} {N G:Nat} {w0:World} {base:List Frame} {E:Env} {m:Mem} {lo hi:Nat} {cs:List AFrame} {fr':Frame} {cs':List Frame} {w:World} {am:AM} {m0:Machine}
variable {fn:FuncId} {t:T Value} {nt:Nat} {ds:List Deferred} {kind:CallKind} {ro:Option Nat}
theorem Qt9 (ok:TabsOk tb) (HM:MR tb.p N w0 E m w) {tm:Array Value} (hs:TR E t nt tm) (f:ResultVar→Sem Value) (h1:∀ i,f (.tmp i)=pure (tm.getD i undef)) (h2:∀ a ty,f (.cell a ty)=do loadVar ty (← asAddr (tm.getD a undef))) :
  ∀ {l:List ResultVar} {vs:List Value},resA tb t m l=some vs→∃ vs',(l.mapM f).run tb.p w=.ok vs' w∧VRs E vs vs'
 | [],vs,h=>by
   simp only [resA,Kaj] at h;subst h
   exact⟨[],rfl,.nil⟩
 | .tmp i::l,vs,h=>by
   simp only [resA] at h
   obtain⟨vs1,h3,h4⟩:=Qae.1 h
   simp only [Kaj] at h4;subst h4
   obtain⟨vs',a,b⟩:=Qt9 ok HM hs f h1 h2 h3
   refine⟨tm.getD i undef::vs',?_,.cons (hs.2 i (by simp)) b⟩
   rw [List.mapM_cons]
   simp only [Sem.run_bind,h1,pure,Sem.run,Result.andThen_ok,a]
 | .cell r ty::l,vs,h=>by
   simp only [resA] at h
   split at h<;>first|(simp at h;done)|skip
   rename_i a ha
   obtain⟨v,h3,h4⟩:=Qae.1 h
   obtain⟨vs1,h5,h6⟩:=Qae.1 h4
   simp only [Kaj] at h6;subst h6
   obtain⟨vs',q1,q2⟩:=Qt9 ok HM hs f h1 h2 h5
   have hp:=hs.2 r (by simp)
   simp only [ev,ha] at hp
   generalize hq:tm.getD r undef=q at hp
   cases hp with
   | @ptr b o i hE =>
   obtain⟨v',g1,g2⟩:=Qrv ok HM hE h3
   refine⟨v'::vs',?_,.cons g2 q2⟩
   rw [List.mapM_cons]
   simp only [Sem.run_bind,h2,hq,asAddr,pure,Sem.run,Result.andThen_ok,g1,q1]
theorem Qk2 (ok:TabsOk tb) (HM:MR tb.p N w0 E m w) {tm:Array Value} (hs:TR E t nt tm) {fd:Func} {v:Value} (h:Qcp tb fd t m=some v):∃ v',(results fd tm).run tb.p w=.ok v' w∧VR E v v':=by
 have key:∀ vs,resA tb t m fd.results.toList=some vs→∃ vs',(results fd tm).run tb.p w=.ok (if h:(⟨vs'⟩:Array Value).size=1 then (⟨vs'⟩:Array Value)[0] else .tuple ⟨vs'⟩) w∧VRs E vs vs':=by
  intro vs hvs
  obtain⟨vs',a,b⟩:=Qt9 ok HM hs (fun | .tmp t=>pure (tm.getD t undef) | .cell a t=>do loadVar t (← asAddr (tm.getD a undef))) (fun _=>rfl) (fun _ _=>rfl) hvs
  refine⟨vs',?_,b⟩
  unfold results
  rw [Array.mapM_eq_mapM_toList]
  simp only [Sem.run_bind,map_eq_pure_bind,pure,Sem.run]
  erw [a]
  rfl
 unfold Qcp at h
 split at h<;>first|(simp at h;done)|skip
 ·rename_i v0 hv
  simp only [Kaj] at h;subst h
  obtain⟨vs',a,b⟩:=key _ hv
  cases b with
  |cons h t=>cases t;exact⟨_,a,h⟩
 ·rename_i vs hne hv
  simp only [Kaj] at h;subst h
  obtain⟨vs',a,b⟩:=key _ hv
  have hl:¬ (⟨vs'⟩:Array Value).size=1:=by
   intro e
   have e1:vs.length=1:=by rw [b.length];simpa using e
   obtain⟨x,rfl⟩:=List.length_eq_one_iff.1 e1
   exact hne x rfl
  rw [dif_neg hl] at a
  exact⟨_,a,.tuple b⟩
theorem Qxd (ok:TabsOk tb) {k:List AItem} (S:StR tb N G w0 base ⟨⟨fn,t,nt,k,[],.returning,kind,ro⟩,cs,m⟩ fr' cs' w E lo) (h:Qjh tb fn t kind cs m=some am):Qb3 tb N G w0 base am (lone fr' cs' w):=by
 have hT:=S.top
 cases hT with
 | @ret _ _ _ _ _ _ _ tm k' ds' ro' hf hs hd hr hk =>
 cases hd
 unfold Qjh at h
 split at h<;>first|(simp at h;done)|skip
 rename_i c rest
 split at h<;>first|(simp at h;done)|skip
 rename_i fd hfd
 split at h<;>first|(simp at h;done)|skip
 rename_i v hv
 have hfd':=ok.funcs fn fd hfd
 obtain⟨v',hrun,hvr⟩:=Qk2 ok S.mem hs hv
 have hC:=S.callers
 cases hC with
 | @cons _ lo1 _ c' _ rest' hc hct hcl =>
 split at h<;>first|(simp at h;done)|skip
 ·simp only [Go.Ev.am] at h
  split at h<;>first|(simp at h;done)|skip
  rename_i fr1 hf1
  obtain rfl:=Kai h
  refine Qra hc hct hcl S.lo S.glob S.mem (.refl _ _ _) hvr hf1 (.one (step_lone_go ?_))
  simp [stepG,unwind,doReturn,hfd',Sem.runT_eq,hrun]
 ·have back:∀ {c1:AFrame} {c1':Frame},FR tb E m lo1 m.next G false c1 c1'→some (⟨c1,rest,m⟩:AM)=some am →
    step tb.p (lone { fn,tmps:=tm,todo:=k',defers:=[],mode:=.returning,kind:=.deferred,roundOf:=ro' } (c'::rest') w)=.next (lone c1' rest' w) →
    Qb3 tb N G w0 base am (lone { fn,tmps:=tm,todo:=k',defers:=[],mode:=.returning,kind:=.deferred,roundOf:=ro' } (c'::rest') w):=by
   intro c1 c1' hF h hst
   obtain rfl:=Kai h
   exact⟨_,_,_,E,lo1,.one hst,⟨S.mem,S.glob,hF,hct,Knt hcl S.lo⟩⟩
  split at h
  ·rename_i p older hmode
   cases hc with
   |run=>simp at hmode
   |ret=>simp at hmode
   | @pan fnc tc ntc kc dsc kindc roc tmc kc' dsc' roc' ch ch' X hfc hsc hX hp hdc hrc hk2 =>
   simp only [FrameMode.panicking.injEq] at hmode
   subst hmode
   cases hp with
   | @cons _ p' _ older' hv e1 e2 hold =>
   obtain⟨pv,pr,pg⟩:=p
   obtain⟨pv',pr',pg'⟩:=p'
   simp only at hv e1 e2 h
   subst e1;subst e2
   split at h
   ·split at h<;>first|(simp at h;done)|skip
    cases hold
    split at h<;>first|(simp at h;done)|skip
    rename_i hdr
    have hX':∀ x,¬ X x:=by
     rcases hX with e|e
     ·exact absurd (hdr.symm.trans e) (by simp)
     ·exact e
    refine back (.ret (k':=kc') hfc ⟨hsc.1,fun x _=>hsc.2 x (hX' x)⟩ hdc hrc hk2) h (step_lone_go ?_)
    simp [stepG,unwind,doReturn,hfd',Sem.runT_eq,hrun]
   ·refine back (.pan (k':=kc') hfc hsc hX (PeR.cons (p := { v:=pv,recovered:=false,goexit:=pg }) (p' := { v:=pv',recovered:=false,goexit:=pg }) hv rfl rfl hold) hdc hrc hk2) h (step_lone_go ?_)
    simp [stepG,unwind,doReturn,hfd',Sem.runT_eq,hrun]
  ·simp at h
  ·rename_i hmode
   cases hc with
   |run=>simp at hmode
   |pan=>simp at hmode
   | @ret fnc tc ntc kc dsc kindc roc tmc kc' dsc' roc' hfc hsc hdc hrc hk2 =>
   refine back (.ret (k':=kc') hfc hsc hdc hrc hk2) h (step_lone_go ?_)
   simp [stepG,unwind,doReturn,hfd',Sem.runT_eq,hrun]
  ·simp at h
theorem Qox (pk:ProgOk tb N G w0) {k:List AItem} {mode:FrameMode} (S:StR tb N G w0 base ⟨⟨fn,t,nt,k,ds,mode,kind,ro⟩,cs,m⟩ fr' cs' w E lo) (hm:mode≠.run) (h:Qhf tb ⟨fn,t,nt,k,ds,mode,kind,ro⟩ cs m=some am):Qb3 tb N G w0 base am (lone fr' cs' w):=by
 unfold Qhf at h
 have parts:∃ tm k' ds' mode' ro',fr' = { fn,tmps:=tm,todo:=k',defers:=ds',mode:=mode',kind,roundOf:=ro' }∧DefsR E ds ds'∧mode'≠.run ∧
   ∀ {ds2:List Deferred} {ds2':List Deferred} {E2:Env} {m2:Mem} {lo2 hi2:Nat} {wait:Bool},Env.le E E2→DefsR E2 ds2 ds2'→FR tb E2 m2 lo2 hi2 G wait ⟨fn,t,nt,k,ds2,mode,kind,ro⟩ { fn,tmps:=tm,todo:=k',defers:=ds2',mode:=mode',kind,roundOf:=ro' }:=by
  have hT:=S.top
  cases hT with
  |run=>exact absurd rfl hm
  |ret hf hs hd hr hk=>exact⟨_,_,_,_,_,rfl,hd,by simp,fun hle h=>.ret hf (hs.mono hle) h (hr.mono hle) hk⟩
  |pan hf hs hX hp hd hr hk=>exact⟨_,_,_,_,_,rfl,hd,by simp,fun hle h=>.pan hf (hs.mono hle) hX (hp.mono hle) h (hr.mono hle) hk⟩
 obtain⟨tm,k',ds',mode',ro',rfl,hd,hm',hF⟩:=parts
 cases ds with
 |cons d ds =>
  simp only at h
  cases hd with
  |cons hd hds =>
  rename_i d' ds'
  cases hd with
  | @coll b i hE =>
    simp only at h
    split at h<;>first|(simp at h;done)|skip
    rename_i calls hb
    obtain rfl:=Kai h
    obtain⟨ob,hob,hR⟩:=S.mem.objs b i _ hE hb rfl
    cases hR with
    | @dfr _ calls' hcs =>
    obtain⟨p1,p2⟩:=Qh8 S.mem hE hb rfl (o2:=.dfr none) rfl hob (by simp) (ob2:=.deferred none) .dfr0
    have hrun:(Instr.takeDeferred i.blk).run tb.p w=.ok calls' { w with heap:=w.heap.setIfInBounds i.blk (.deferred none) }:=by
     simp [Instr.takeDeferred,Sem.run_bind,Sem.run,pure,setObj,getObj,hob,Result.andThen]
    have hx:∀ hi,MExt hi E m E (Qas m b (.dfr none)):=fun hi=>MExt.put _ hE
    refine⟨_,_,_,E,lo,.one (step_lone_go ?_),⟨p2,S.glob,hF (.refl _) (hcs.append hds),S.callers.ext (hx _),S.lo⟩⟩
    cases mode' with
    |run=>exact absurd rfl hm'
    |_=>simp [stepG,unwind,Sem.runT_eq,hrun]
  | @fn fv fv' c c' a a' hv ha =>
    simp only at h
    have hn:=Qk9 pk S.mem S.glob hv ha
    split at h<;>first|(simp at h;done)|skip
    rename_i f args hi
    rw [hi] at hn
    split at h<;>first|(simp at h;done)|skip
    rename_i g hg
    obtain rfl:=Kai h
    obtain⟨args',h1,h2⟩:=hn
    have hg0:=hg
    unfold Qf2 at hg0
    split at hg0<;>first|(simp at hg0;done)|skip
    rename_i fnd hfd
    split at hg0<;>first|(simp at hg0;done)|skip
    rename_i cd hb
    have hrun:=h1 fnd cd hfd hb
    refine⟨_,_,_,E,m.next,.one (step_lone_go ?_),⟨S.mem,S.glob,FR.enter pk hg h2 (.inr rfl),.cons (hF (.refl _) hds) S.callers S.lo,Knr _⟩⟩
    cases mode' with
    |run=>exact absurd rfl hm'
    |_=>simp [stepG,unwind,callDeferred,Sem.runT_eq,hrun]
 |nil =>
  cases hd
  simp only at h
  cases mode with
  |run=>exact absurd rfl hm
  |returning=>exact Qxd pk.tabs S h
  |panicking chain =>
   simp only at h
   split at h<;>first|(simp at h;done)|skip
   rename_i c rest
   obtain rfl:=Kai h
   have hT:=S.top
   have hC:=S.callers
   cases hC with
   | @cons _ lo1 _ c' _ rest' hc hct hcl =>
   cases hT with
   |pan hf hs hX hp hd hr hk =>
   refine⟨_,_,_,E,lo1,.one (step_lone_go ?_),⟨S.mem,S.glob,hc.raise hp,hct,Knt hcl S.lo⟩⟩
   obtain⟨fd,hfd⟩:=Option.isSome_iff_exists.1 hf
   simp [stepG,unwind,Frame.catches,hfd]
end
end Go.Ev

