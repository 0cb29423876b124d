/- A part of a proof: ScriptOwn. -/
import Derived.Test.YtgmkbdmgifdfeaaGreatDoorF6
set_option linter.unusedVariables false
set_option linter.unusedSimpArgs false
namespace Go.Ev
open Go.RowKit
section
variable {E:Env} {G:Nat}
theorem exitTo_rel {id:Nat}:∀ {k:List AItem} {k':List Item},ItsR E G k k' →
  (∀ k2,exitToA id k=some k2→∃ k2',exitTo id k'=some k2'∧ItsR E G k2 k2')∧(exitToA id k=none→exitTo id k'=none)
 |_,_,.nil=>⟨fun k2 h=>by simp [exitToA] at h,fun _=>rfl⟩
 |_,_,.cons h t=>by
  obtain⟨i1,i2⟩:=exitTo_rel (id:=id) t
  cases h with
  |inBlock id' =>
   simp only [exitToA,exitTo]
   by_cases e:id'=id
   ·subst e
    simp only [Nat.beq_refl,beq_self_eq_true,if_true]
    exact⟨fun k2 h=>by simp only [Option.some.injEq] at h;subst h;exact⟨_,rfl,t⟩,by simp⟩
   ·rw [beqF e]
    simp only
    rw [if_neg (by simpa using e)]
    exact⟨i1,i2⟩
  |_=>exact⟨i1,i2⟩
theorem gotoIn_rel {l:Nat}:∀ {k:List AItem} {k':List Item},ItsR E G k k' →
  (∀ k2,gotoInA l k=some k2→∃ k2',gotoIn l k'=some k2'∧ItsR E G k2 k2')∧(gotoInA l k=none→gotoIn l k'=none)
 |_,_,.nil=>⟨fun k2 h=>by simp [gotoInA] at h,fun _=>rfl⟩
 |_,_,.cons h t=>by
  obtain⟨i1,i2⟩:=gotoIn_rel (l:=l) t
  cases h with
  | @inScope b hb =>
    simp only [gotoInA,gotoIn]
    cases hf:findLabel b l with
    |none=>exact⟨i1,i2⟩
    |some r =>
     simp only
     exact⟨fun k2 h=>by simp only [Option.some.injEq] at h;subst h;exact⟨_,rfl,.cons (.code (codeOk_label hb hf)) (.cons (.inScope hb) t)⟩,by simp⟩
  |_=>exact⟨i1,i2⟩
end
section
variable {tb:Tabs} {E:Env} {m:Mem} {lo hi G:Nat} {wait:Bool} {fn:FuncId} {t:T Value} {nt:Nat} {k:List AItem} {ds:List Deferred} {kind:CallKind} {ro:Option Nat} {fr':Frame}
theorem FR.run_inv (h:FR tb E m lo hi G wait ⟨fn,t,nt,k,ds,.run,kind,ro⟩ fr'):∃ tm k' ds' ro' X,fr'=rf fn tm ds' kind ro' k'∧TodoR tb E m lo hi G wait t nt k k' X∧TRx E X t nt tm∧DefsR E ds ds'∧RoR E ro ro'∧(kind=.normal∨kind=.deferred)∧(tb.p.funcs[fn]?).isSome=true:=by
 cases h with
 |run hf ht hs hd hr hk=>exact⟨_,_,_,_,_,rfl,ht,hs,hd,hr,hk,hf⟩
theorem TodoR.item_inv {x:AItem} {k':List Item} {X:Nat→Prop} (h:TodoR tb E m lo hi G wait t nt (x::k) k' X) (h1:∀ a b,x≠.ops a b) (h2:∀ a b c d,x≠.dr a b c d):∃ x' k1,k'=x'::k1∧ItR E G x x'∧ItsR E G k k1∧X=fun _=>False:=by
 cases h with
 |plain h=>cases h with|cons h t=>exact⟨_,_,rfl,h,t,rfl⟩
 |ops hk hok=>exact absurd rfl (h1 _ _)
 |dr hk hok hd hw=>exact absurd rfl (h2 _ _ _ _)
theorem FR.plain {tm:Array Value} {k':List Item} {ds':List Deferred} {ro':Option Nat} (hk:ItsR E G k k') (hs:TR E t nt tm) (hd:DefsR E ds ds') (hr:RoR E ro ro') (hki:kind=.normal∨kind=.deferred) (hf:(tb.p.funcs[fn]?).isSome=true) :
  FR tb E m lo hi G wait ⟨fn,t,nt,k,ds,.run,kind,ro⟩ (rf fn tm ds' kind ro' k'):=.run hf (.plain hk) hs hd hr hki
end
end Go.Ev

namespace Go.Ev
open Go.RowKit
theorem zip_get {ops:List Oper} {x:Nat × Oper}:x∈(List.range ops.length).zip ops↔ops[x.1]? = some x.2:=by
 constructor
 ·intro h
  obtain⟨j,hj⟩:=List.mem_iff_getElem?.1 h
  rw [List.getElem?_zip_eq_some] at hj
  obtain⟨h1,h2⟩:=hj
  have hlt:=(List.getElem?_eq_some_iff.1 h2).1
  rw [List.getElem?_range hlt] at h1
  rw [← Option.some.inj h1];exact h2
 ·intro h
  have hlt:=(List.getElem?_eq_some_iff.1 h).1
  refine List.mem_iff_getElem?.2 ⟨x.1,?_⟩
  rw [List.getElem?_zip_eq_some]
  exact⟨List.getElem?_range hlt,h⟩
theorem DrI.start {tb:Tabs} {E:Env} {m:Mem} {lo hi:Nat} {ops:Array Oper} {t:T Value} {nt:Nat} {sched:List Nat} (h1:Valid ops sched) (h2:∀ i,i∈sched↔i<ops.size) :
  DrI tb E m lo hi ops t nt false ((List.range ops.toList.length).zip ops.toList) [] 0 sched:=by
 refine⟨h1,fun x hx=>zip_get.1 hx,fun x hx=>?_,?_,by simp,by simp,by simp,fun k hk=>?_,by simp,by simp,by simp,by simp,by simp,by simp,by simp⟩
 ·have:=(List.getElem?_eq_some_iff.1 (zip_get.1 hx)).1
  exact (h2 x.1).2 (by simpa using this)
 ·rw [List.map_fst_zip (by simp)]
  exact List.nodup_range
 ·have hlt:=(h2 k).1 hk
  exact .inl ⟨(k,ops[k]),zip_get.2 (by simp [hlt]),rfl⟩
def StepOut [E0C] (tb:Tabs) (N G:Nat) (w0:World) (base:List Frame) (am:AM) (fr':Frame) (cs':List Frame) (w:World):Prop :=
 ∃ fr2 cs2 w2 E2 lo2,Steps tb.p (lone fr' cs' w) (lone fr2 cs2 w2)∧StR tb N G w0 base am fr2 cs2 w2 E2 lo2
section
variable {tb:Tabs} {N G:Nat} {w0:World} {base:List Frame} {E:Env} {m:Mem} {lo:Nat} {fn:FuncId} {t:T Value} {nt:Nat} {k:List AItem} {ds:List Deferred} {kind:CallKind} {ro:Option Nat} {cs:List AFrame} {fr':Frame} {cs':List Frame} {w:World} {am:AM}
theorem codeA_ok [E0C] {c:Code} (S:StR tb N G w0 base ⟨⟨fn,t,nt,.code c::k,ds,.run,kind,ro⟩,cs,m⟩ fr' cs' w E lo) (h:codeA tb c k fn t nt ds kind ro cs m=some am)
  (hleave:∀ j,leaveA tb (frm fn t nt k ds kind ro) cs m (some j)=some am→(c=.ret∧j=.ret)∨(∃ id,c=.exit id∧j=.exit id∧exitToA id k=none)∨(∃ l,c=.goto l∧j=.goto l∧gotoInA l k=none)→StepOut tb N G w0 base am fr' cs' w)
  (hrf:∀ f ps a b,c=.rangeFunc f ps a b→StepOut tb N G w0 base am fr' cs' w):StepOut tb N G w0 base am fr' cs' w:=by
 obtain⟨tm,k',ds',ro',X,rfl,ht,hs,hd,hr,hki,hf⟩:=S.top.run_inv
 obtain⟨x',k1,rfl,hx,hk,rfl⟩:=ht.item_inv (by simp) (by simp)
 cases hx with
 |code hc =>
 have stay:∀ {k2:List AItem} {k2':List Item},some (⟨⟨fn,t,nt,k2,ds,.run,kind,ro⟩,cs,m⟩:AM)=some am→ItsR E G k2 k2'→step tb.p (lone (rf fn tm ds' kind ro' (.code c::k1)) cs' w)=.next (lone (rf fn tm ds' kind ro' k2') cs' w)→StepOut tb N G w0 base am (rf fn tm ds' kind ro' (.code c::k1)) cs' w:=by
  intro k2 k2' he hk2 hst
  obtain rfl:=Option.some.inj he
  exact⟨_,_,_,E,lo,.one hst,⟨S.mem,S.glob,FR.plain hk2 hs hd hr hki hf,S.callers,S.lo⟩⟩
 cases c with
 |skip=>exact stay h hk su_skip
 |label l=>exact stay h hk su_label
 |seq a b =>
  simp only [codeOk,Bool.and_eq_true] at hc
  exact stay h (.cons (.code hc.1) (.cons (.code hc.2) hk)) su_seq
 |cond c a b =>
  simp only [codeOk,Bool.and_eq_true] at hc
  simp only [codeA,condA] at h
  have hev:=operand_rel (fr:=rf fn tm ds' kind ro' (.code (.cond c a b)::k1)) S.glob hs hc.1.1 (by simp)
  split at h<;>first|(simp at h;done)|skip
  ·rename_i he;rw [he] at hev
   have hb:(rf fn tm ds' kind ro' (.code (.cond c a b)::k1)).eval c=.bool true:=by
    generalize (rf fn tm ds' kind ro' (.code (.cond c a b)::k1)).eval c=q at hev
    cases hev;rfl
   exact stay h (.cons (.code hc.1.2) hk) (su_cond hb)
  ·rename_i he;rw [he] at hev
   have hb:(rf fn tm ds' kind ro' (.code (.cond c a b)::k1)).eval c=.bool false:=by
    generalize (rf fn tm ds' kind ro' (.code (.cond c a b)::k1)).eval c=q at hev
    cases hev;rfl
   exact stay h (.cons (.code hc.2) hk) (su_cond hb)
 |block id b=>exact stay h (.cons (.code hc) (.cons (.inBlock id) hk)) su_block
 |loop b=>exact stay h (.cons (.code hc) (.cons (.inLoop hc) hk)) su_loop
 |scope b=>exact stay h (.cons (.code hc) (.cons (.inScope hc) hk)) su_scope
 |exit id =>
  simp only [codeA,jumpA] at h
  obtain⟨i1,i2⟩:=exitTo_rel (id:=id) hk
  cases he:exitToA id k with
  |some k2 =>
   rw [he] at h
   obtain⟨k2',e1,e2⟩:=i1 k2 he
   exact stay h e2 (su_exit e1)
  |none=>rw [he] at h;exact hleave _ h (.inr (.inl ⟨id,rfl,rfl,he⟩))
 |goto l =>
  simp only [codeA,jumpA] at h
  obtain⟨i1,i2⟩:=gotoIn_rel (l:=l) hk
  cases he:gotoInA l k with
  |some k2 =>
   rw [he] at h
   obtain⟨k2',e1,e2⟩:=i1 k2 he
   exact stay h e2 (su_goto e1)
  |none=>rw [he] at h;exact hleave _ h (.inr (.inr ⟨l,rfl,rfl,he⟩))
 |ret=>exact hleave .ret h (.inl ⟨rfl,rfl⟩)
 |refuse s=>simp [codeA] at h
 |region id ops draw =>
  simp only [codeOk,Bool.and_eq_true,List.all_eq_true] at hc
  simp only [codeA,regionA] at h
  cases draw with
  |false =>
   simp only [mkA] at h
   obtain rfl:=Option.some.inj h
   refine⟨_,_,_,E,lo,.one su_region,⟨S.mem,S.glob,?_,S.callers,S.lo⟩⟩
   have:=TodoR.ops (tb:=tb) (m:=m) (lo:=lo) (hi:=m.next) (wait:=false) (t:=t) (nt:=nt) (n:=0) hk hc.1
   rw [List.drop_zero,Nat.sub_zero,← List.range_eq_range'] at this
   exact .run hf this hs hd hr hki
  |true =>
   simp only [mkA] at h
   obtain rfl:=Option.some.inj h
   have hdo:drawOk ops=true:=by simpa using hc.2
   obtain⟨v1,v2⟩:=schedule_valid hdo (tb.p.follows .mixedOrders) (w.tape w.drawn (.order fn id))
   refine⟨_,_,_,E,lo,.one su_region_draw,⟨S.mem.same rfl rfl rfl rfl,S.glob,?_,S.callers,S.lo⟩⟩
   have hX:TRx E (lagX [] (Region.schedule (tb.p.follows .mixedOrders) ops (w.tape w.drawn (.order fn id)))) t nt tm:=⟨hs.1,fun y _=>hs.2 y (by simp)⟩
   exact .run hf (.dr hk hc.1 (DrI.start v1 v2) (by simp)) hX hd hr hki
 |rangeFunc f ps a b=>exact hrf _ _ _ _ rfl
end
end Go.Ev

namespace Go.Ev
open Go.RowKit
section
variable {tb:Tabs} {N G:Nat} {w0:World} {fn:FuncId} {nt:Nat} {ds':List Deferred} {kind:CallKind} {ro':Option Nat} {cs':List Frame} {k':List Item} {ops:Array Oper} {lo:Nat}
def OpsOut (tb:Tabs) (N:Nat) (w0:World) (fn:FuncId) (nt:Nat) (ds':List Deferred) (kind:CallKind) (ro':Option Nat) (cs':List Frame) (k':List Item) (ops:Array Oper) (lo:Nat) (E:Env) (m:Mem) (fr':Frame) (w:World):OpsR→Prop
 | .done t1 m1=>∃ tm1 w1 E1,Steps tb.p (lone fr' cs' w) (lone (rf fn tm1 ds' kind ro' k') cs' w1)∧MR tb.p N w0 E1 m1 w1∧MExt lo E m E1 m1∧TR E1 t1 nt tm1
 | .stop o l1 t1 m1=>∃ n1 tm1 w1 E1,Steps tb.p (lone fr' cs' w) (lone (rf fn tm1 ds' kind ro' (.inRegion ops (List.range' n1 (ops.size-n1))::k')) cs' w1)∧MR tb.p N w0 E1 m1 w1∧MExt lo E m E1 m1∧TR E1 t1 nt tm1 ∧
   ops.toList.drop n1=o::l1∧wantedA t1 ops o.guard=true
 | .bad=>True
theorem ops_ok [E0C] (ok:TabsOk tb) (hops:∀ o∈ops.toList,opOk G o=true):∀ (l:List Oper) (n:Nat) (t:T Value) (m:Mem) (E:Env) (w:World) (tm:Array Value),ops.toList.drop n=l→MR tb.p N w0 E m w→GlobE G E→TR E t nt tm→lo≤m.next →
  OpsOut tb N w0 fn nt ds' kind ro' cs' k' ops lo E m (rf fn tm ds' kind ro' (.inRegion ops (List.range' n (ops.size-n))::k')) w (opsA tb ops nt l t m)
 | [],n,t,m,E,w,tm,hl,HM,HG,HS,hlo=>by
   have hn:ops.size≤n:=by simpa using hl
   rw [show ops.size-n=0 from by omega]
   exact⟨tm,w,E,.one (st_region_nil rfl rfl),HM,.refl _ _ _,HS⟩
 |o::l,n,t,m,E,w,tm,hl,HM,HG,HS,hlo=>by
  obtain⟨h1,h2,h3⟩:=drop_cons hl
  have h3':n<ops.size:=by simpa using h3
  have ho:ops[n]? = some o:=by simpa using h1
  have hr':List.range' n (ops.size-n)=n::List.range' (n+1) (ops.size-(n+1)):=by
   obtain⟨q,hq⟩:∃ q,ops.size-n=q+1:=⟨ops.size-n-1,by omega⟩
   rw [hq,List.range'_succ,show ops.size-(n+1)=q from by omega]
  have hw:Region.wanted o (yielded ops tm)=wantedA t ops o.guard:=wanted_rel (E:=E) fun d _=>HS.2 d (by simp)
  have hfin:∀ v,(rf fn tm ds' kind ro' (.inRegion ops (n::List.range' (n+1) (ops.size-(n+1)))::k')).finish v=rf fn (setSlot o.dst tm v) ds' kind ro' (.inRegion ops (List.range' (n+1) (ops.size-(n+1)))::k'):=fun v=>finish_eq rfl ho
  have go:∀ (t':T Value) (m':Mem) (E':Env) (w':World) (v v':Value),putT t nt o.dst v=some t'→VR E' v v'→MR tb.p N w0 E' m' w'→MExt lo E m E' m'→step tb.p (lone (rf fn tm ds' kind ro' (.inRegion ops (n::List.range' (n+1) (ops.size-(n+1)))::k')) cs' w)=.next (lone ((rf fn tm ds' kind ro' (.inRegion ops (n::List.range' (n+1) (ops.size-(n+1)))::k')).finish v') cs' w') →
    OpsOut tb N w0 fn nt ds' kind ro' cs' k' ops lo E m (rf fn tm ds' kind ro' (.inRegion ops (n::List.range' (n+1) (ops.size-(n+1)))::k')) w (opsA tb ops nt l t' m'):=by
   intro t' m' E' w' v v' hp hv HM' hx hst
   rw [hfin] at hst
   have ih:=ops_ok ok hops l (n+1) t' m' E' w' (setSlot o.dst tm v') h2.symm HM' (fun g hg=>hx.le _ _ (HG g hg)) (slot_put (HS.mono hx.le) hp hv) (Nat.le_trans hlo hx.next)
   generalize opsA tb ops nt l t' m'=r at ih
   cases r with
   |done t1 m1=>obtain⟨tm1,w1,E1,a,b,c,d⟩:=ih;exact⟨tm1,w1,E1,.head hst a,b,hx.trans c,d⟩
   |stop o1 l1 t1 m1=>obtain⟨n1,tm1,w1,E1,a,b,c,d⟩:=ih;exact⟨n1,tm1,w1,E1,.head hst a,b,hx.trans c,d⟩
   |bad=>trivial
  have hput:∀ {v:Value} {m':Mem},(∀ t',putT t nt o.dst v=some t'→OpsOut tb N w0 fn nt ds' kind ro' cs' k' ops lo E m (rf fn tm ds' kind ro' (.inRegion ops (n::List.range' (n+1) (ops.size-(n+1)))::k')) w (opsA tb ops nt l t' m')) →
    OpsOut tb N w0 fn nt ds' kind ro' cs' k' ops lo E m (rf fn tm ds' kind ro' (.inRegion ops (n::List.range' (n+1) (ops.size-(n+1)))::k')) w (opsPut (putT t nt o.dst v) m' (opsA tb ops nt l)):=by
   intro v m' h
   cases hp:putT t nt o.dst v with
   |none=>exact trivial
   |some t'=>exact h t' hp
  show OpsOut tb N w0 fn nt ds' kind ro' cs' k' ops lo E m _ w (opsStep tb ops nt o l (opsA tb ops nt l) t m)
  rw [hr']
  unfold opsStep
  cases hwa:wantedA t ops o.guard with
  |false =>
   exact hput fun t' hp=>go t' m E w undef undef hp (.undef E) HM (.refl _ _ _) (st_skip rfl rfl (by rw [ho];simp only [Option.map_some,Option.getD_some];exact hw.trans hwa))
  |true =>
   have hρ : ∀ y∈o.op.operands.toList,VR E (ev t y) ((rf fn tm ds' kind ro' (.inRegion ops (n::List.range' (n+1) (ops.size-(n+1)))::k')).eval y):=fun y hy =>
    operand_rel HG HS (List.all_eq_true.1 (hops o (List.mem_of_getElem? h1)) y hy) (by simp)
   have hop:=run_opA (o:=o) ok HM hρ
   simp only
   cases hoa:opA o.op tb t m with
   |c=>exact⟨n,tm,w,E,by rw [hr'];exact .refl _ _,HM,.refl _ _ _,HS,hl,hwa⟩
   |bad=>exact trivial
   |r v =>
    rw [hoa] at hop
    obtain⟨nx,q1,q2⟩:=hop
    have hg:=stG_op (cs:=cs') (w:=w) (P:=tb.p) (fr:=rf fn tm ds' kind ro' (.inRegion ops (n::List.range' (n+1) (ops.size-(n+1)))::k')) rfl rfl ho (hw.trans hwa) (.inr fun c e=>by rw [e] at hoa;simp [opA,kC] at hoa)
    refine hput fun t' hp=>?_
    rcases q2 with ⟨v',rfl,hv⟩|⟨rfl,hv⟩
    ·exact go t' m E w v v' hp hv HM (.refl _ _ _) (st_apply_value q1 (.inl rfl) hg)
    ·exact go t' m E w v undef hp (by rw [hv];exact .undef E) HM (.refl _ _ _) (st_apply_value q1 (.inr ⟨rfl,rfl⟩) hg)
   |f ob mk =>
    rw [hoa] at hop
    have hdom:=HM.dom m.next (Nat.le_refl _)
    obtain⟨v',w',o',sh,ex,q1,q2,q3,q4,q5,q6,q7,q8⟩:=hop m.next hdom.2
    have hg:=stG_op (cs:=cs') (w:=w) (P:=tb.p) (fr:=rf fn tm ds' kind ro' (.inRegion ops (n::List.range' (n+1) (ops.size-(n+1)))::k')) rfl rfl ho (hw.trans hwa) (.inr fun c e=>by rw [e] at hoa;simp [opA,kC] at hoa)
    refine hput fun t' hp=>?_
    exact go t' _ _ w' _ v' hp q7 ((HM.lay ob).mat hdom.2 (by rw [get_newObjA,if_pos rfl]) (by rw [next_newObjA];omega) q8 q2 q3 q4 q5 q6) (((MExt.lay HM ob).lower hlo).trans (MExt.mat hdom.2 hlo)) (st_apply_value q1 (.inl rfl) hg)
   |e v m' =>
    rw [hoa] at hop
    obtain⟨nx,w',E',q1,q2,q3,q4⟩:=hop
    have hg:=stG_op (cs:=cs') (w:=w) (P:=tb.p) (fr:=rf fn tm ds' kind ro' (.inRegion ops (n::List.range' (n+1) (ops.size-(n+1)))::k')) rfl rfl ho (hw.trans hwa) (.inr fun c e=>by rw [e] at hoa;simp [opA,kC] at hoa)
    refine hput fun t' hp=>?_
    rcases q2 with ⟨v',rfl,hv⟩|⟨rfl,hv⟩
    ·exact go t' m' E' w' v v' hp hv q3 (q4.lower hlo) (st_apply_value q1 (.inl rfl) hg)
    ·exact go t' m' E' w' v undef hp (by rw [hv];exact .undef E') q3 (q4.lower hlo) (st_apply_value q1 (.inr ⟨rfl,rfl⟩) hg)
end
end Go.Ev

namespace Go.Ev
open Go.RowKit
section
variable {tb:Tabs} {N G:Nat} {w0:World} {base:List Frame} {E:Env} {m:Mem} {lo:Nat} {fn:FuncId} {t:T Value} {nt:Nat} {k:List AItem} {ds:List Deferred} {kind:CallKind} {ro:Option Nat} {cs:List AFrame} {fr':Frame} {cs':List Frame} {w:World} {am:AM}
theorem plainItem_ok [E0C] {i:AItem} (S:StR tb N G w0 base ⟨⟨fn,t,nt,i::k,ds,.run,kind,ro⟩,cs,m⟩ fr' cs' w E lo) (h:itemA tb i k fn t nt ds kind ro cs m=some am)
  (hi:(∃ id,i=.inBlock id)∨(∃ b,i=.inScope b)∨∃ b,i=.inLoop b):StepOut tb N G w0 base am fr' cs' w:=by
 obtain⟨tm,k',ds',ro',X,rfl,ht,hs,hd,hr,hki,hf⟩:=S.top.run_inv
 obtain⟨x',k1,rfl,hx,hk,rfl⟩:=ht.item_inv (by rcases hi with ⟨_,rfl⟩|⟨_,rfl⟩|⟨_,rfl⟩<;>simp) (by rcases hi with ⟨_,rfl⟩|⟨_,rfl⟩|⟨_,rfl⟩<;>simp)
 rcases hi with ⟨id,rfl⟩|⟨b,rfl⟩|⟨b,rfl⟩
 ·cases hx
  obtain rfl:=Option.some.inj h
  exact⟨_,_,_,E,lo,.one su_inBlock,⟨S.mem,S.glob,FR.plain hk hs hd hr hki hf,S.callers,S.lo⟩⟩
 ·cases hx
  obtain rfl:=Option.some.inj h
  exact⟨_,_,_,E,lo,.one su_inScope,⟨S.mem,S.glob,FR.plain hk hs hd hr hki hf,S.callers,S.lo⟩⟩
 ·cases hx with
  |inLoop hb =>
  obtain rfl:=Option.some.inj h
  exact⟨_,_,_,E,lo,.one su_inLoop,⟨S.mem,S.glob,FR.plain (.cons (.code hb) (.cons (.inLoop hb) hk)) hs hd hr hki hf,S.callers,S.lo⟩⟩
theorem TodoR.ops_inv {hi:Nat} {wait:Bool} {ops:Array Oper} {l:List Oper} {k':List Item} {X:Nat→Prop} (h:TodoR tb E m lo hi G wait t nt (.ops ops l::k) k' X) :
  ∃ n k1,k'=.inRegion ops (List.range' n (ops.size-n))::k1∧ops.toList.drop n=l∧ItsR E G k k1∧(∀ o∈ops.toList,opOk G o=true)∧X=fun _=>False:=by
 cases h with
 |plain h=>cases h with|cons h t=>cases h
 |ops hk hok=>exact⟨_,_,rfl,rfl,hk,hok,rfl⟩
theorem opsItem_ok [E0C] (ok:TabsOk tb) {ops:Array Oper} {l:List Oper} (S:StR tb N G w0 base ⟨⟨fn,t,nt,.ops ops l::k,ds,.run,kind,ro⟩,cs,m⟩ fr' cs' w E lo) (h:opsItem tb ops l k fn t nt ds kind ro cs m=some am)
  (hcall:∀ (o:Oper) (l1:List Oper) (t1:T Value) (m1:Mem) (fr2:Frame) (w2:World) (E2:Env),StR tb N G w0 base ⟨frm fn t1 nt (.ops ops (o::l1)::k) ds kind ro,cs,m1⟩ fr2 cs' w2 E2 lo→wantedA t1 ops o.guard=true →
   doCall tb o (frm fn t1 nt (.ops ops (o::l1)::k) ds kind ro) cs m1=some am→StepOut tb N G w0 base am fr2 cs' w2):StepOut tb N G w0 base am fr' cs' w:=by
 obtain⟨tm,k',ds',ro',X,rfl,ht,hs,hd,hr,hki,hf⟩:=S.top.run_inv
 obtain⟨n,k1,rfl,hl,hk,hok,rfl⟩:=ht.ops_inv
 have ho:=ops_ok (lo:=lo) (fn:=fn) (nt:=nt) (ds':=ds') (kind:=kind) (ro':=ro') (cs':=cs') (k':=k1) ok hok l n t m E w tm hl S.mem S.glob hs S.lo
 unfold opsItem at h
 cases hr1:opsA tb ops nt l t m with
 |bad=>rw [hr1] at h;simp at h
 |done t1 m1 =>
  rw [hr1] at h ho
  obtain⟨tm1,w1,E1,a,b,c,d⟩:=ho
  obtain rfl:=Option.some.inj h
  exact⟨_,_,_,E1,lo,a,⟨b,fun g hg=>c.le _ _ (S.glob g hg),FR.plain (hk.mono c.le) d (hd.mono c.le) (hr.mono c.le) hki hf,S.callers.ext c,Nat.le_trans S.lo c.next⟩⟩
 |stop o l1 t1 m1 =>
  rw [hr1] at h ho
  obtain⟨n1,tm1,w1,E1,a,b,c,d,e,f⟩:=ho
  have htd:=TodoR.ops (tb:=tb) (m:=m1) (lo:=lo) (hi:=m1.next) (wait:=false) (t:=t1) (nt:=nt) (n:=n1) (hk.mono c.le) hok
  rw [e] at htd
  obtain⟨fr3,cs3,w3,E3,lo3,g1,g2⟩:=hcall o l1 t1 m1 _ w1 E1 ⟨b,fun g hg=>c.le _ _ (S.glob g hg),.run hf htd d (hd.mono c.le) (hr.mono c.le) hki,S.callers.ext c,Nat.le_trans S.lo c.next⟩ f h
  exact⟨fr3,cs3,w3,E3,lo3,a.trans g1,g2⟩
end
end Go.Ev

namespace Go.Ev
open Go.RowKit
section
variable {tb:Tabs} {N G:Nat} {w0:World} {base:List Frame} {E:Env} {m:Mem} {lo:Nat} {fn:FuncId} {t:T Value} {nt:Nat} {k:List AItem} {ds:List Deferred} {kind:CallKind} {ro:Option Nat} {cs:List AFrame} {fr':Frame} {cs':List Frame} {w:World} {am:AM}
theorem TodoR.dr_inv {hi:Nat} {wait:Bool} {ops:Array Oper} {rem:List (Nat × Oper)} {hist:List Hist} {mask:Nat} {k':List Item} {X:Nat→Prop} (h:TodoR tb E m lo hi G wait t nt (.dr ops rem hist mask::k) k' X) :
  ∃ sched k1,k'=.inRegion ops sched::k1∧DrI tb E m lo hi ops t nt wait rem hist mask sched∧ItsR E G k k1∧(∀ o∈ops.toList,opOk G o=true)∧X=lagX hist sched:=by
 cases h with
 |plain h=>cases h with|cons h t=>cases h
 |dr hk hok hd hw=>exact⟨_,_,rfl,hd,hk,hok,rfl⟩
theorem drItem_ok [E0C] (ok:TabsOk tb) {ops:Array Oper} {rem:List (Nat × Oper)} {hist:List Hist} {mask:Nat} (S:StR tb N G w0 base ⟨⟨fn,t,nt,.dr ops rem hist mask::k,ds,.run,kind,ro⟩,cs,m⟩ fr' cs' w E lo) (h:drItem tb ops rem hist mask k fn t nt ds kind ro cs m=some am)
  (hnext:∀ (i:Nat) (o:Oper) (l:List (Nat × Oper)) (hist1:List Hist) (mask1:Nat) (rest:List Nat) (k1:List Item) (tm:Array Value) (ds':List Deferred) (ro':Option Nat) (t1:T Value) (m1:Mem) (w2:World) (E2:Env),
   StR tb N G w0 base ⟨frm fn t1 nt (.dr ops ((i,o)::l) hist1 mask1::k) ds kind ro,cs,m1⟩ (rf fn tm ds' kind ro' (.inRegion ops (i::rest)::k1)) cs' w2 E2 lo→ops.toList[i]? = some o→depsOk ops o hist1=true→wantedA t1 ops o.guard=true →
   drWrite tb ops ((i,o)::l) hist1 mask1 k fn t1 nt ds kind ro cs m1=some am→StepOut tb N G w0 base am (rf fn tm ds' kind ro' (.inRegion ops (i::rest)::k1)) cs' w2):StepOut tb N G w0 base am fr' cs' w:=by
 obtain⟨tm,k',ds',ro',X,rfl,ht,hs,hd,hr,hki,hf⟩:=S.top.run_inv
 obtain⟨sched,k1,rfl,hdr,hk,hok,rfl⟩:=ht.dr_inv
 unfold drItem at h
 cases hp:drPass tb ops nt rem [] [] t m hist mask with
 |bad=>rw [hp] at h;simp at h
 |ok t1 m1 rem1 hist1 mask1 =>
  rw [hp] at h
  simp only at h
  obtain⟨p1,p2,p3,p4,p5,p6⟩:=drPass_ok rem [] [] t m hist mask t1 m1 rem1 hist1 mask1 hp S.lo S.mem (by simpa using hdr)
  have hs1:TRx E (lagX hist1 sched) t1 nt tm:=⟨hs.1,fun x hx=>by
   rw [p5 (lagX hist1 sched) (fun g hg d hd hgs=>⟨g,hg,hgs,hd⟩) x hx]
   exact hs.2 x fun ⟨g,hg,hgs,hd⟩=>hx ⟨g,p6 g hg,hgs,hd⟩⟩
  have hck:∀ i o l,rem1=(i,o)::l→alone [i] l=true∧depsOk ops o hist1=true∧wantedA t1 ops o.guard=true:=by
   intro i o l e
   subst e
   unfold drWrite at h
   simp only at h
   split at h
   ·simp at h
   ·rename_i hb
    simp only [Bool.and_eq_true] at hb
    exact⟨hb.1.1,hb.1.2,hb.2⟩
  obtain⟨sched2,tm2,w2,E2,q1,q2,q3,q4,q5,q6,q7⟩:=catch_up (cs:=cs') (k:=k1) ok hok (fun i o l e=>(hck i o l e).1) sched E w (rf fn tm ds' kind ro' (.inRegion ops sched::k1)) p2 S.glob p4 hs1 rfl rfl
  have hx:=p3.trans q3
  have hglob:GlobE G E2:=fun g hg=>hx.le _ _ (S.glob g hg)
  cases rem1 with
  |nil =>
   obtain rfl:=q6 rfl
   simp only [drWrite,mkA] at h
   obtain rfl:=Option.some.inj h
   have hs2:TR E2 t1 nt tm2:=⟨q5.1,fun x _=>q5.2 x fun ⟨g,hg,hgs,hd⟩=>by simp at hgs⟩
   exact⟨_,_,_,E2,lo,q1.trans (.one (st_region_nil rfl rfl)),⟨q2,hglob,FR.plain (hk.mono hx.le) hs2 (hd.mono hx.le) (hr.mono hx.le) hki hf,S.callers.ext hx,p1⟩⟩
  |cons x l =>
   obtain⟨i,o⟩:=x
   obtain⟨rest,rfl⟩:=q7 i o l rfl
   obtain⟨_,c2,c3⟩:=hck i o l rfl
   obtain⟨fr3,cs3,w3,E3,lo3,g1,g2⟩:=hnext i o l hist1 mask1 rest k1 tm2 ds' ro' t1 m1 w2 E2 ⟨q2,hglob,.run hf (.dr (hk.mono hx.le) hok q4 (by simp)) q5 (hd.mono hx.le) (hr.mono hx.le) hki,S.callers.ext hx,p1⟩ (q4.remOps (i,o) (by simp)) c2 c3 h
   exact⟨fr3,cs3,w3,E3,lo3,Steps.trans q1 g1,g2⟩
end
end Go.Ev

namespace Go.Ev
open Go.RowKit
section
variable {tb:Tabs} {N G:Nat} {w0:World} {base:List Frame} {E:Env} {m:Mem} {lo:Nat} {fn:FuncId} {t:T Value} {nt:Nat} {k:List AItem} {ds:List Deferred} {kind:CallKind} {ro:Option Nat} {cs:List AFrame} {fr':Frame} {cs':List Frame} {w:World} {am:AM}
theorem FR.waits {hi:Nat} {fr:AFrame} (h:FR tb E m lo hi G false fr fr') (hh:∀ ops rem hist mask sched k k',fr.todo=.dr ops rem hist mask::k→fr'.todo=.inRegion ops sched::k'→∃ i o l rest,rem=(i,o)::l∧sched=i::rest):FR tb E m lo hi G true fr fr':=by
 cases h with
 |run hf ht hs hd hr hk =>
  refine .run hf ?_ hs hd hr hk
  cases ht with
  |plain h=>exact .plain h
  |ops hk hok=>exact .ops hk hok
  |dr hk hok hd hw=>exact .dr hk hok (hd.wait (.refl _ _ _)) fun _=>hh _ _ _ _ _ _ _ rfl rfl
 |ret hf hs hd hr hk=>exact .ret hf hs hd hr hk
 |pan hf hs hX hp hd hr hk=>exact .pan hf hs hX hp hd hr hk
theorem value_ok [E0C] {fr1:AFrame} {fr:AFrame} {m':Mem} {E':Env} {w':World} {v v':Value} (S:StR tb N G w0 base ⟨fr,cs,m⟩ fr' cs' w E lo)
  (hh:∀ ops rem hist mask sched k k',fr.todo=.dr ops rem hist mask::k→fr'.todo=.inRegion ops sched::k'→∃ i o l rest,rem=(i,o)::l∧sched=i::rest)
  (HM:MR tb.p N w0 E' m' w') (hx:MExt m.next E m E' m') (hv:VR E' v v') (hf:finishA tb fr v m'=some fr1) (hst:step tb.p (lone fr' cs' w)=.next (lone (fr'.finish v') cs' w')) :
  StepOut tb N G w0 base ⟨fr1,cs,m'⟩ fr' cs' w:=by
 have hlo:=S.lo
 have hx2:=hx.lower hlo
 have ht:=((S.top.waits hh).wait hx).finish hx.next hv hf
 exact⟨_,_,_,E',lo,.one hst,⟨HM,fun g hg=>hx.le _ _ (S.glob g hg),ht,S.callers.ext hx2,Nat.le_trans hlo hx.next⟩⟩
end
end Go.Ev

namespace Go.Ev
open Go.RowKit
section
variable {tb:Tabs} {N G:Nat} {w0:World} {base:List Frame} {E:Env} {m:Mem} {lo:Nat} {fn:FuncId} {t:T Value} {nt:Nat} {k:List AItem} {ds:List Deferred} {kind:CallKind} {ro:Option Nat} {cs:List AFrame} {fr':Frame} {cs':List Frame} {w:World} {am:AM}
structure HeadR (tb:Tabs) (E:Env) (G:Nat) (t:T Value) (fr':Frame) (ops:Array Oper) (i:Nat) (o:Oper) (rest:List Nat) (k1:List Item):Prop where
 mode:fr'.mode=.run
 todo:fr'.todo=.inRegion ops (i::rest)::k1
 op:ops[i]? = some o
 wanted:Region.wanted o (yielded ops fr'.tmps)=true
 args:∀ y∈o.op.operands.toList,VR E (ev t y) (fr'.eval y)
theorem write_ok [E0C] (ok:TabsOk tb) {fr fr1:AFrame} {ops:Array Oper} {i:Nat} {o:Oper} {rest:List Nat} {k1:List Item} {v:Value} {m':Mem} (S:StR tb N G w0 base ⟨fr,cs,m⟩ fr' cs' w E lo) (HH:HeadR tb E G t fr' ops i o rest k1)
  (hh:∀ ops rem hist mask sched k k',fr.todo=.dr ops rem hist mask::k→fr'.todo=.inRegion ops sched::k'→∃ i o l rest,rem=(i,o)::l∧sched=i::rest)
  (he:opA o.op tb t m=.e v m') (hf:finishA tb fr v m'=some fr1):StepOut tb N G w0 base ⟨fr1,cs,m'⟩ fr' cs' w:=by
 have hop:=run_opA (o:=o) ok S.mem HH.args
 rw [he] at hop
 obtain⟨nx,w',E',q1,q2,q3,q4⟩:=hop
 have hg:=stG_op (cs:=cs') (w:=w) (P:=tb.p) HH.mode HH.todo HH.op HH.wanted (.inr fun c e=>by rw [e] at he;simp [opA,kC] at he)
 rcases q2 with ⟨v',rfl,hv⟩|⟨rfl,hv⟩
 ·exact value_ok S hh q3 q4 hv hf (st_apply_value q1 (.inl rfl) hg)
 ·exact value_ok S hh q3 q4 (v':=undef) (by rw [hv];exact .undef E') hf (st_apply_value q1 (.inr ⟨rfl,rfl⟩) hg)
end
end Go.Ev

namespace Go.Ev
open Go.RowKit
section
variable {tb:Tabs} {E:Env} {G:Nat} {t:T Value} {nt:Nat} {fr':Frame} {ops:Array Oper} {i:Nat} {o:Oper} {rest:List Nat} {k1:List Item} {X:Nat→Prop}
theorem HeadR.of [E0C] (HG:GlobE G E) (hs:TRx E X t nt fr'.tmps) (hm:fr'.mode=.run) (ht:fr'.todo=.inRegion ops (i::rest)::k1) (ho:ops.toList[i]? = some o) (hok:∀ o∈ops.toList,opOk G o=true) (hr:∀ d,reads ops o d→¬ X d) (hw:wantedA t ops o.guard=true) :
  HeadR tb E G t fr' ops i o rest k1:=by
 refine⟨hm,ht,by simpa using ho,?_,fun y hy=>operand_rel HG hs (List.all_eq_true.1 (hok o (List.mem_of_getElem? ho)) y hy) fun d e=>hr d (.inl (by rw [← e];exact hy))⟩
 rw [wanted_rel (E:=E) (t:=t) fun d hd=>hs.2 d (hr d hd)]
 exact hw
theorem DrI.reads_done {m:Mem} {lo hi:Nat} {wait:Bool} {rem:List (Nat × Oper)} {hist:List Hist} {mask:Nat} (H:DrI tb E m lo hi ops t nt wait rem hist mask (i::rest)) (ho:ops.toList[i]? = some o) (hd:depsOk ops o hist=true) :
  ∀ d,reads ops o d→¬ lagX hist (i::rest) d:=by
 rintro d hr ⟨g,hg,gi,gd⟩
 obtain⟨e,h1,h2,h3⟩:=edgeFrom_some (depsOk_some hd g hg d gd hr)
 exact H.valid.2.1 o ho e h1 h3 (by rw [h2];exact gi)
end
end Go.Ev

namespace Go.Ev
open Go.RowKit
structure ProgOk [E0C] (tb:Tabs) (N G:Nat) (w0:World):Prop where
 tabs:TabsOk tb
 g:tb.g=G
 names:∀ f fn,tb.funcs.get f=some fn→(fn.name == "runtime.NumGoroutine")=false
 codes:∀ f fn c,tb.funcs.get f=some fn→fn.body=some c→codeOk G c=true
 ext:∀ f fn args v,tb.funcs.get f=some fn→fn.body=none→externA fn.name args=.value v→∀ (E:Env) (args':List Value) (w:World),VRs E args args'→∃ v',(callFunc f ⟨args'⟩).run tb.p w=.ok (.value v') w∧VR E v v'
 ov:∀ f g args m v m',tb.ov.get f=some g→g args m=some (v,m')→∀ (E:Env) (args':List Value) (w:World),MR tb.p N w0 E m w→GlobE G E→VRs E args args' →
  (callFunc f ⟨args'⟩).run tb.p w=.ok (.enter f ⟨args'⟩) w∧Calls tb.p f ⟨args'⟩ w fun e w'=>∃ v' E',e=.returned v'∧VR E' v v'∧MR tb.p N w0 E' m' w'∧MExt m.next E m E' m'
section
variable {tb:Tabs} {N G:Nat} {w0:World} {E:Env} {m:Mem} {w:World}
def NextR (tb:Tabs) (N G:Nat) (w0:World) (E:Env) (m:Mem) (w:World) (s:Sem Next):ANext→Prop
 | .enter f args=>∃ args',(∀ fn c,tb.funcs.get f=some fn→fn.body=some c→s.run tb.p w=.ok (.enter f ⟨args'⟩) w)∧VRs E args args'
 | .round l args=>∃ i args',E l=some i∧s.run tb.p w=(Instr.yield i.blk ⟨args'⟩).run tb.p w∧VRs E args args'
 | .value v=>∃ v',s.run tb.p w=.ok (.value v') w∧VR E v v'
 | .over v m'=>∃ f args',s.run tb.p w=.ok (.enter f ⟨args'⟩) w∧Calls tb.p f ⟨args'⟩ w fun e w'=>∃ v' E',e=.returned v'∧VR E' v v'∧MR tb.p N w0 E' m' w'∧MExt m.next E m E' m'
 | .bad=>True
theorem NextR.congr {s s':Sem Next} {n:ANext} (e:s.run tb.p w=s'.run tb.p w) (h:NextR tb N G w0 E m w s' n):NextR tb N G w0 E m w s n:=by
 cases n<;>simp only [NextR] at h ⊢ <;> rw [e]<;>exact h
theorem run_callFunc [E0C] (pk:ProgOk tb N G w0) {f:FuncId} {fn:Func} {c:Code} (h:tb.funcs.get f=some fn) (hb:fn.body=some c) (args:Array Value):(callFunc f args).run tb.p w=.ok (.enter f args) w:=by
 have h1:=pk.tabs.funcs f fn h
 have h2:¬ fn.name = "runtime.NumGoroutine" := by simpa using pk.names f fn h
 unfold callFunc
 simp [h1,h2,hb]
theorem externA_only {name:String} {args:List Value}:(∃ v,externA name args=.value v)∨externA name args=.bad:=by
 unfold externA
 split
 ·split
  ·split
   ·exact .inl ⟨_,rfl⟩
   ·exact .inr rfl
  ·exact .inr rfl
 ·split
  ·split
   ·exact .inl ⟨_,rfl⟩
   ·exact .inr rfl
  ·exact .inr rfl
theorem callF_ok [E0C] (pk:ProgOk tb N G w0) (HM:MR tb.p N w0 E m w) (HG:GlobE G E) {f:FuncId} {args args':List Value} (ha:VRs E args args'):NextR tb N G w0 E m w (callFunc f ⟨args'⟩) (callF tb f args m):=by
 unfold callF
 split
 ·rename_i g hg
  split
  ·rename_i v m' h
   obtain⟨h1,h2⟩:=pk.ov f g args m v m' hg h E args' w HM HG ha
   exact⟨f,args',h1,h2⟩
  ·exact⟨args',fun fn c h1 h2=>run_callFunc pk h1 h2 _,ha⟩
 ·split
  ·rename_i fn hf
   split
   ·exact⟨args',fun fn c h1 h2=>run_callFunc pk h1 h2 _,ha⟩
   ·rename_i hb
    rcases externA_only (name:=fn.name) (args:=args) with ⟨v,he⟩|he
    ·rw [he];exact pk.ext f fn args v hf hb he E args' w ha
    ·rw [he];trivial
  ·trivial
theorem mk_append (a b:List Value):(⟨a⟩:Array Value)++(⟨b⟩:Array Value)=⟨a++b⟩:=Array.ext' (by simp)
theorem invokeA_ok [E0C] (pk:ProgOk tb N G w0) (HM:MR tb.p N w0 E m w) (HG:GlobE G E) {fn fn':Fn} {q q':Array Value} {c c' a a':List Value} (h:VR E (.func fn q ⟨c⟩) (.func fn' q' ⟨c'⟩)) (ha:VRs E a a') :
  NextR tb N G w0 E m w (invoke (.fn fn' ⟨c'⟩) ⟨a'⟩) (invokeA tb fn c a m):=by
 cases h with
 |func hf h1 h2 =>
  cases fn with
  |func f =>
   have:=callF_ok pk HM HG (f:=f) (ha.append h2)
   simp only [invokeA,invoke,mk_append]
   exact this
  |yield l=>exact absurd rfl (hf l)
  |via t path f ptr =>
   simp only [invokeA]
   split
   ·rename_i x rest hp
    cases ha with
    | @cons _ x' _ rest' hx ht =>
    have hpath:path.toList=[]:=hp
    have key:∀ i,ti tb t=some i→(ptr=true∧(∃ e,i.d=.pointer e))∨(ptr=false∧∀ e,i.d≠.pointer e)→(invoke (.fn (.via t path f ptr) ⟨c'⟩) ⟨x'::rest'⟩).run tb.p w=(callFunc f ⟨x'::rest'⟩).run tb.p w:=by
     intro i hi hc
     have hu:(underlying t).run tb.p w=.ok i.d w:=run_ty pk.tabs hi
     have hr:(receiverVia t x' path ptr).run tb.p w=.ok x' w:=by
      unfold receiverVia
      rw [hpath]
      simp only [follow,receiverAt]
      rcases hc with ⟨rfl,e,he⟩|⟨rfl,he⟩
      ·rw [he] at hu
       simp [Sem.run_bind,hu,Place.get,Result.andThen]
      ·have:∀ d,i.d=d→(∀ e,d≠.pointer e)→(match d,false,Place.val x' with | .pointer _,true,x=>x.get t | .pointer elem,false,x=>(do let ptr ← x.get t;loadVar elem (← asAddr ptr))|_,true,.var a=>pure (.pointer (some a))|_,true,.val _=>stuck "method row: a pointer method of a value without an address" | _,false,x=>x.get t:Sem Value)=(pure x':Sem Value):=by
        intro d _ hd
        cases d<;>first|(exact absurd rfl (hd _))|rfl
       simp only [Sem.run_bind,pure,Sem.run,Result.andThen,hu]
       cases hd:i.d<;>first|(exact absurd hd (he _))|rfl
     simp only [invoke]
     simp [Sem.run_bind,hr,Result.andThen]
    cases ptr with
    |true =>
     simp only
     split
     ·rename_i i hi
      split
      ·rename_i e he
       exact NextR.congr (key i hi (.inl ⟨rfl,e,he⟩)) (callF_ok pk HM HG (.cons hx ht))
      ·trivial
     ·trivial
    |false =>
     simp only
     split
     ·rename_i i hi
      split
      ·trivial
      ·rename_i he
       exact NextR.congr (key i hi (.inr ⟨rfl,fun e h=>he e h⟩)) (callF_ok pk HM HG (.cons hx ht))
     ·trivial
   ·trivial
  |_=>trivial
 | @yield l i hE=>exact⟨i,a',hE,rfl,ha⟩
theorem callValue_ok [E0C] (pk:ProgOk tb N G w0) (HM:MR tb.p N w0 E m w) (HG:GlobE G E) {f f':Value} {a a':List Value} (hf:VR E f f') (ha:VRs E a a') :
  NextR tb N G w0 E m w (do let d ← Deferred.ofValue f' ⟨a'⟩;invoke d.target d.args) (callValue tb f a m):=by
 cases f with
 |func fn first captured =>
  obtain⟨first⟩:=first
  obtain⟨captured⟩:=captured
  have hf0:=hf
  cases hf with
  | @func _ _ f1 _ c1 hne h1 h2 =>
    refine NextR.congr ?_ (invokeA_ok pk HM HG hf0 (h1.append ha))
    simp [Deferred.ofValue,Sem.run_bind,Result.andThen,pure,Sem.run,mk_append]
  |yield hE =>
   refine NextR.congr ?_ (invokeA_ok pk HM HG (.yield hE) (VRs.nil.append ha))
   simp [Deferred.ofValue,Sem.run_bind,Result.andThen,pure,Sem.run]
 |_=>trivial
end
end Go.Ev

namespace Go.Ev
open Go.RowKit
def StepOutM [E0C] (tb:Tabs) (N G:Nat) (w0:World) (base:List Frame) (am:AM) (m0:Machine):Prop :=
 ∃ fr2 cs2 w2 E2 lo2,Steps tb.p m0 (lone fr2 cs2 w2)∧StR tb N G w0 base am fr2 cs2 w2 E2 lo2
def App (P:Program) (m0:Machine) (fr':Frame) (cs':List Frame) (s:Sem Next) (w:World):Prop :=
 ∀ fr2 cs2 w2,(stepG.apply P true fr' cs' none s w).bare=.go { frame:=fr2,callers:=cs2,status:=.running,dying:=none } w2→step P m0=.next (lone fr2 cs2 w2)
section
variable {P:Program} {m0:Machine} {fr':Frame} {cs':List Frame} {s:Sem Next} {w w':World}
theorem App.of (hg:stepG P true { frame:=fr',callers:=cs',status:=.running,dying:=none } w=stepG.apply P true fr' cs' none s w):App P (lone fr' cs' w) fr' cs' s w :=
 fun _ _ _ h=>step_lone_go (by rw [hg];exact h)
theorem App.value {v:Value} (h:App P m0 fr' cs' s w) (hr:s.run P w=.ok (.value v) w'):step P m0=.next (lone (fr'.finish v) cs' w'):=h _ _ _ (by simp [stepG.apply,Sem.runT_eq,hr])
theorem App.skip (h:App P m0 fr' cs' s w) (hr:s.run P w=.ok .skip w'):step P m0=.next (lone (fr'.finish undef) cs' w'):=h _ _ _ (by simp [stepG.apply,Sem.runT_eq,hr])
theorem App.enter {f:FuncId} {args:Array Value} (h:App P m0 fr' cs' s w) (hr:s.run P w=.ok (.enter f args) w') (hk:∀ d r sv k,fr'.todo≠.call d true r sv::k):step P m0=.next (lone (Frame.enter P f args .normal) (fr'::cs') w'):=by
 refine h _ _ _ ?_
 have:(match fr'.todo with | .call _ true _ _::_=>CallKind.wrapped|_=>.normal)=.normal:=by
  split
  ·rename_i d r sv k he;exact absurd he (hk d r sv k)
  ·rfl
 simp [stepG.apply,Sem.runT_eq,hr,this]
theorem App.round {l:Nat} {f:FuncId} {tm:Array Value} {a b:Code} (h:App P m0 fr' cs' s w) (hr:s.run P w=.ok (.round l f tm a b) w'):step P m0=.next (lone (Frame.round l f tm a b .normal) (fr'::cs') w'):=h _ _ _ (by simp [stepG.apply,Sem.runT_eq,hr])
theorem App.panic {v:Value} (h:App P m0 fr' cs' s w) (hr:s.run P w=.halt (.panic v) w'):step P m0=.next (lone (fr'.raise [{ v,recovered:=false }]) cs' w'):=h _ _ _ (by simp [stepG.apply,Sem.runT_eq,hr])
theorem App.defer {d:Deferred} (h:App P m0 fr' cs' s w) (hr:s.run P w=.ok (.defer d) w'):step P m0=.next (lone ({ fr' with defers:=d::fr'.defers }.finish undef) cs' w'):=h _ _ _ (by simp [stepG.apply,Sem.runT_eq,hr])
theorem App.recover (h:App P m0 fr' cs' s w) (hr:s.run P w=.ok .recover w') (hro:fr'.roundOf=none) :
  step P m0=.next (lone (fr'.finish (match tryRecover fr' cs' with|some (v,_)=>v|none=>.nilIface)) (match tryRecover fr' cs' with|some (_,cs)=>cs|none=>cs') w'):=by
 refine h _ _ _ ?_
 simp only [stepG.apply,Sem.runT_eq,hr,hro,GStep.bare_after,if_true]
 cases tryRecover fr' cs' with
 |none=>rfl
 |some q=>rfl
end
section
variable {tb:Tabs} {N G:Nat} {w0:World} {base:List Frame} {E:Env} {m:Mem} {lo hi:Nat} {cs:List AFrame} {fr':Frame} {cs':List Frame} {w:World} {am:AM} {m0:Machine}
theorem value_okS [E0C] {fr1:AFrame} {fr:AFrame} {m':Mem} {E':Env} {w':World} {v v':Value} (S:StR tb N G w0 base ⟨fr,cs,m⟩ fr' cs' w E lo)
  (hh:∀ ops rem hist mask sched k k',fr.todo=.dr ops rem hist mask::k→fr'.todo=.inRegion ops sched::k'→∃ i o l rest,rem=(i,o)::l∧sched=i::rest)
  (HM:MR tb.p N w0 E' m' w') (hx:MExt m.next E m E' m') (hv:VR E' v v') (hf:finishA tb fr v m'=some fr1) (hst:Steps tb.p m0 (lone (fr'.finish v') cs' w')) :
  StepOutM tb N G w0 base ⟨fr1,cs,m'⟩ m0:=by
 have hlo:=S.lo
 have hx2:=hx.lower hlo
 have ht:=((S.top.waits hh).wait hx).finish hx.next hv hf
 exact⟨_,_,_,E',lo,hst,⟨HM,fun g hg=>hx.le _ _ (S.glob g hg),ht,S.callers.ext hx2,Nat.le_trans hlo hx.next⟩⟩
theorem FR.enter [E0C] (pk:ProgOk tb N G w0) {f:FuncId} {args args':List Value} {kind:CallKind} {g:AFrame} (h:enterF tb f args kind=some g) (ha:VRs E args args') (hk:kind=.normal∨kind=.deferred) :
  FR tb E m lo hi G false g (Frame.enter tb.p f ⟨args'⟩ kind):=by
 unfold enterF at h
 split at h<;>first|(simp at h;done)|skip
 rename_i fn hf
 split at h<;>first|(simp at h;done)|skip
 rename_i c hb
 obtain rfl:=Option.some.inj h
 have h1:=pk.tabs.funcs f fn hf
 have e:Frame.enter tb.p f ⟨args'⟩ kind = { fn:=f,tmps:=⟨args'⟩++Array.replicate (fn.ntmps-args'.length) undef,todo:=[.code c],defers:=[],mode:=.run,kind }:=by
  simp [Frame.enter,h1,hb]
 rw [e]
 refine .run (by simp [h1]) (.plain (.cons (.code (pk.codes f fn c hf hb)) .nil)) ⟨?_,fun x _=>?_⟩ .nil .none hk
 ·have:=ha.length
  simp;omega
 ·simp only [ev,T.get_ofList,Array.getD_eq_getD_getElem?,Array.getElem?_append,List.getElem?_toArray]
  cases hx:args[x]? with
  |none =>
   have hl:args.length≤x:=by simpa using hx
   have hl':args'.length≤x:=by rw [← ha.length];exact hl
   rw [if_neg (by simp;omega)]
   rw [Array.getElem?_replicate]
   simp only
   by_cases hq:x-(⟨args'⟩:Array Value).size<fn.ntmps-args'.length
   ·rw [if_pos hq];exact .undef E
   ·rw [if_neg hq];exact .undef E
  |some v =>
   obtain⟨v',h2,h3⟩:=ha.get x v hx
   have hl':=(List.getElem?_eq_some_iff.1 h2).1
   rw [if_pos (by simpa using hl')]
   simpa [h2] using h3
theorem foldPut_rel {nt:Nat}:∀ {ps:List Tmp} {vs vs':List Value} {t t1:T Value} {tm:Array Value},foldPut nt ps vs t=some t1→VRs E vs vs'→TR E t nt tm →
  ps.length=vs'.length∧TR E t1 nt ((ps.zip vs').foldl (fun tm (x:Tmp × Value)=>tm.setIfInBounds x.1 x.2) tm)
 | [],_,_,t,t1,tm,h,.nil,ht=>by
   simp only [foldPut,Option.some.injEq] at h;subst h
   exact⟨rfl,ht⟩
 |p::ps,_,_,t,t1,tm,h,.cons hv hs,ht=>by
  simp only [foldPut,oB_some] at h
  obtain⟨t2,h1,h2⟩:=h
  obtain⟨a,b⟩:=foldPut_rel h2 hs (slot_put ht h1 hv)
  exact⟨by simp [a],b⟩
 | [],_,_,t,t1,tm,h,.cons hv hs,ht=>by simp [foldPut] at h
 |p::ps,_,_,t,t1,tm,h,.nil,ht=>by simp [foldPut] at h
theorem goA_ok [E0C] (pk:ProgOk tb N G w0) {n:ANext} {s:Sem Next} {fr:AFrame} (S:StR tb N G w0 base ⟨fr,cs,m⟩ fr' cs' w E lo)
  (hh:∀ ops rem hist mask sched k k',fr.todo=.dr ops rem hist mask::k→fr'.todo=.inRegion ops sched::k'→∃ i o l rest,rem=(i,o)::l∧sched=i::rest)
  (hn:NextR tb N G w0 E m w s n) (happ:App tb.p m0 fr' cs' s w) (hk:∀ d r sv k,fr'.todo≠.call d true r sv::k) (h:goA tb n fr cs m=some am):StepOutM tb N G w0 base am m0:=by
 cases n with
 |bad=>simp [goA] at h
 |enter f args =>
  simp only [goA] at h
  split at h<;>first|(simp at h;done)|skip
  rename_i g hg
  obtain rfl:=Option.some.inj h
  obtain⟨args',h1,h2⟩:=hn
  have hg0:=hg
  unfold enterF at hg0
  split at hg0<;>first|(simp at hg0;done)|skip
  rename_i fn hf
  split at hg0<;>first|(simp at hg0;done)|skip
  rename_i c hb
  exact⟨_,_,_,E,m.next,.one (happ.enter (h1 fn c hf hb) hk),⟨S.mem,S.glob,FR.enter pk hg h2 (.inl rfl),.cons (S.top.waits hh) S.callers S.lo,Nat.le_refl _⟩⟩
 |round l args =>
  simp only [goA,roundA] at h
  split at h<;>first|(simp at h;done)|skip
  rename_i st pe fn tmps nt ps a b ds hl
  split at h<;>first|(simp at h;done)|skip
  rename_i hc
  split at h<;>first|(simp at h;done)|skip
  rename_i t hfp
  obtain rfl:=Option.some.inj h
  obtain⟨i,args',hE,h1,h2⟩:=hn
  simp only [Bool.and_eq_true] at hc
  obtain⟨⟨hca,hcb⟩,hfn⟩:=hc
  rw [pk.g] at hca hcb
  obtain⟨fnd,hfd⟩:=Option.isSome_iff_exists.1 hfn
  have hfd':=pk.tabs.funcs fn fnd hfd
  obtain⟨ob,hob,hR⟩:=S.mem.objs l i _ hE hl rfl
  cases hR with
  | @loop _ _ _ _ _ tm _ _ _ _ j ht hds =>
  obtain⟨hlen,hTR⟩:=foldPut_rel hfp h2 ht
  have hrun:s.run tb.p w=.ok (.round i.blk fn ((ps.zip args').foldl (fun tm (x:Tmp × Value)=>tm.setIfInBounds x.1 x.2) tm) a b) w:=by
   rw [h1]
   have hsz:¬ ((⟨args'⟩:Array Value).size≠(⟨ps⟩:Array Tmp).size):=by simpa using hlen.symm
   simp [Instr.yield,Instr.getLoop,getObj,Sem.run_bind,Sem.run,hob,Result.andThen,hlen.symm,pure]
  refine⟨_,_,_,E,m.next,.one (happ.round hrun),⟨S.mem,S.glob,?_,.cons (S.top.waits hh) S.callers S.lo,Nat.le_refl _⟩⟩
  exact .run (by rw [hfd'];rfl) (.plain (.cons (.code hca) (.cons .beginRound (.cons (.code hcb) .nil)))) hTR .nil (.some hE) (.inl rfl)
 |value v =>
  simp only [goA,Go.Ev.am] at h
  split at h<;>first|(simp at h;done)|skip
  rename_i fr1 hf
  obtain rfl:=Option.some.inj h
  obtain⟨v',h1,h2⟩:=hn
  exact value_okS S hh S.mem (.refl _ _ _) h2 hf (.one (happ.value h1))
 |over v m' =>
  simp only [goA,Go.Ev.am] at h
  split at h<;>first|(simp at h;done)|skip
  rename_i fr1 hf
  obtain rfl:=Option.some.inj h
  obtain⟨f,args',h1,h2⟩:=hn
  obtain⟨e,w',frx,⟨v',E',rfl,hv,hm,hx⟩,hc,_,hle⟩:=h2 (fr'::cs')
  exact value_okS S hh hm hx hv hf (Steps.trans (.head (happ.enter h1 hk) hc) (.one (step_leave_returned hle)))
end
end Go.Ev

namespace Go.Ev
open Go.RowKit
section
variable {P:Program} {fr:Frame} {cs:List Frame} {w:World} {k:List Item} {ops:Array Oper} {i:Nat} {rest:List Nat}
theorem stG_defer (hm:fr.mode=.run) (ht:fr.todo=.inRegion ops (i::rest)::k) {o:Oper} (ho:ops[i]? = some o) (hw:Region.wanted o (yielded ops fr.tmps)=true) {l:Nat} {c:Call} (hr:fr.roundOf=some l) (hd:o.op=.defer c) :
  stepG P true { frame:=fr,callers:=cs,status:=.running,dying:=none } w=stepG.apply P true fr cs none (do Instr.deferInRound l (← resolve fr.eval c o.type);pure .skip) w:=by
 obtain⟨fn,tmps,todo,defers,mode,kind,ro⟩:=fr
 simp only at hm ht hw hr;subst hm;subst ht;subst hr
 simp [stepG,stepG.exec,stepG.oper,Frame.oper?,ho,hw,hd]
end
section
variable {tb:Tabs} {N G:Nat} {w0:World} {base:List Frame} {E:Env} {m:Mem} {lo hi:Nat} {cs:List AFrame} {fr':Frame} {cs':List Frame} {w:World} {am:AM} {m0:Machine}
theorem TodoR.lagEmpty {wait:Bool} {t:T Value} {nt:Nat} {k:List AItem} {k':List Item} {X:Nat→Prop} (h:TodoR tb E m lo hi G wait t nt k k' X):isDr k=true∨∀ x,¬ X x:=by
 cases h with
 |plain=>exact .inr fun _ h=>h
 |ops=>exact .inr fun _ h=>h
 |dr=>exact .inl rfl
theorem FR.raise {lo2 hi2:Nat} {m2:Mem} {wait wait2:Bool} {fr:AFrame} {ch ch':List PanicEntry} (h:FR tb E m lo hi G wait fr fr') (hp:PeR E ch ch'):FR tb E m2 lo2 hi2 G wait2 (raiseA fr ch) (fr'.raise ch'):=by
 cases h with
 |run hf ht hs hd hr hk=>exact .pan hf hs ht.lagEmpty hp hd hr hk
 |ret hf hs hd hr hk=>exact .pan hf hs (.inr fun _ h=>h) hp hd hr hk
 |pan hf hs hX hq hd hr hk=>exact .pan hf hs hX (hp.append hq) hd hr hk
theorem raise_ok [E0C] {fr:AFrame} {v v':Value} (S:StR tb N G w0 base ⟨fr,cs,m⟩ fr' cs' w E lo) (hv:VR E v v') (hst:step tb.p m0=.next (lone (fr'.raise [{ v:=v',recovered:=false }]) cs' w)) :
  StepOutM tb N G w0 base ⟨raiseA fr [{ v,recovered:=false }],cs,m⟩ m0 :=
 ⟨_,_,_,E,lo,.one hst,⟨S.mem,S.glob,S.top.raise (.cons hv rfl rfl .nil),S.callers,S.lo⟩⟩
theorem FR.kind_eq {wait:Bool} {fr:AFrame} (h:FR tb E m lo hi G wait fr fr'):fr'.kind=fr.kind:=by cases h<;>rfl
theorem FR.ro_rel {wait:Bool} {fr:AFrame} (h:FR tb E m lo hi G wait fr fr'):RoR E fr.ro fr'.roundOf:=by cases h<;>assumption
theorem run_resolve_builtin {ρ : Operand→Value} {c:Call} {b:Builtin} {t:TypeId} (h:c.callee=.builtin b) :
  ∃ q,(resolve ρ c t).run tb.p w=.ok { target:=.builtin b c.argTypes t q,args:=c.args.map ρ } w:=by
 unfold resolve
 rw [h]
 exact⟨_,rfl⟩
theorem recoverA_ok [E0C] {fr:AFrame} (S:StR tb N G w0 base ⟨fr,cs,m⟩ fr' cs' w E lo)
  (hh:∀ ops rem hist mask sched k k',fr.todo=.dr ops rem hist mask::k→fr'.todo=.inRegion ops sched::k'→∃ i o l rest,rem=(i,o)::l∧sched=i::rest)
  {s:Sem Next} (happ:App tb.p m0 fr' cs' s w) (hr:s.run tb.p w=.ok .recover w) (h:recoverA tb fr cs m=some am):StepOutM tb N G w0 base am m0:=by
 have hro:=S.top.ro_rel
 have hki:=S.top.kind_eq
 unfold recoverA at h
 split at h<;>first|(simp at h;done)|skip
 rename_i hro1
 simp only at hro
 rw [hro1] at hro
 have hro2:fr'.roundOf=none:=by generalize fr'.roundOf=q at hro;cases hro;rfl
 have hst:=happ.recover hr hro2
 have nil:tryRecover fr' cs'=none→∀ {q:Option AFrame},finishA tb fr .nilIface m=q→Go.Ev.am q cs m=some am→StepOutM tb N G w0 base am m0:=by
  intro hn q hq h
  subst hq
  simp only [Go.Ev.am] at h
  split at h<;>first|(simp at h;done)|skip
  rename_i fr1 hf
  obtain rfl:=Option.some.inj h
  rw [hn] at hst
  exact value_okS S hh S.mem (.refl _ _ _) .nilIface hf (.one hst)
 split at h
 ·rename_i hk
  have hk':fr'.kind=.normal:=hki.trans hk
  exact nil (by cases cs'<;>simp [tryRecover,hk']) rfl h
 ·rename_i hk
  have hk':fr'.kind=.deferred:=hki.trans hk
  split at h<;>first|(simp at h;done)|skip
  rename_i c rest
  have hC:=S.callers
  cases hC with
  | @cons _ lo1 _ c' _ rest' hc ht hl =>
  have key:∀ {md:FrameMode},c'.mode=md→tryRecover fr' (c'::rest')=(match md with | .panicking ({ v,recovered:=false,goexit:=false }::older)=>some (v,{ c' with mode:=.panicking ({ v,recovered:=true }::older) }::rest')|_=>none):=by
   intro md hmd
   subst hmd
   simp only [tryRecover,hk']
   rfl
  split at h
  ·rename_i p older hmode
   cases hc with
   |run=>simp at hmode
   |ret=>simp at hmode
   | @pan fnc tc ntc kc dsc kindc roc tmc kc' dsc' roc' ch ch' X hf hs hX hp hd hr hk2 =>
   simp only [FrameMode.panicking.injEq] at hmode
   subst hmode
   cases hp with
   | @cons _ p' _ older' hv e1 e2 hold =>
   obtain⟨pv,pr,pg⟩:=p
   obtain⟨pv',pr',pg'⟩:=p'
   simp only at hv e1 e2 h
   subst e1;subst e2
   split at h
   ·have htr:=key (md:=.panicking ({ v:=pv',recovered:=false,goexit:=false }::older')) rfl
    rw [htr] at hst
    simp only [Go.Ev.am] at h
    split at h<;>first|(simp at h;done)|skip
    rename_i fr1 hf1
    obtain rfl:=Option.some.inj h
    have S':StR tb N G w0 base ⟨fr,setMode ⟨fnc,tc,ntc,kc,dsc,.panicking ({ v:=pv,recovered:=false,goexit:=false }::older),kindc,roc⟩ (.panicking ({ v:=pv,recovered:=true }::older))::rest,m⟩ fr'
      ({ fn:=fnc,tmps:=tmc,todo:=kc',defers:=dsc',mode:=.panicking ({ v:=pv',recovered:=true }::older'),kind:=kindc,roundOf:=roc' }::rest') w E lo :=
     ⟨S.mem,S.glob,S.top,.cons (.pan hf hs hX (.cons hv rfl rfl hold) hd hr hk2) ht hl,S.lo⟩
    exact value_okS S' hh S.mem (.refl _ _ _) hv hf1 (.one hst)
   ·rename_i hne
    refine nil ?_ rfl h
    rw [key rfl]
    cases pr<;>cases pg<;>first|rfl|exact absurd rfl (hne rfl)
  ·rename_i hmode
   refine nil ?_ rfl h
   cases hc with
   |run=>exact key rfl
   |ret=>exact key rfl
   | @pan fnc tc ntc kc dsc kindc roc tmc kc' dsc' roc' ch ch' X hf hs hX hp hd hr hk2 =>
     cases hp with
     |nil=>exact key rfl
     |cons hv e1 e2 hold=>exact absurd rfl (hmode _ _)
 ·simp at h
end
end Go.Ev

namespace Go.Ev
open Go.RowKit
section
variable {tb:Tabs} {N G:Nat} {w0:World} {base:List Frame} {E:Env} {m:Mem} {lo hi:Nat} {cs:List AFrame} {fr':Frame} {cs':List Frame} {w:World} {am:AM} {m0:Machine}
theorem addDefer_top {wait:Bool} {fr:AFrame} {d d':Deferred} (h:FR tb E m lo hi G wait fr fr') (hm:fr'.mode=.run) (hd:DefR E d d'):FR tb E m lo hi G wait (addDefer fr d) { fr' with defers:=d'::fr'.defers }:=by
 cases h with
 |run hf ht hs hds hr hk=>exact .run hf ht hs (.cons hd hds) hr hk
 |ret=>simp at hm
 |pan=>simp at hm
theorem deferA_ok [E0C] {fr:AFrame} {ops:Array Oper} {i:Nat} {o:Oper} {rest:List Nat} {k1:List Item} {c:Call} {d d':Deferred} (S:StR tb N G w0 base ⟨fr,cs,m⟩ fr' cs' w E lo) (HH:HeadR tb E G fr.tmps fr' ops i o rest k1)
  (hh:∀ ops rem hist mask sched k k',fr.todo=.dr ops rem hist mask::k→fr'.todo=.inRegion ops sched::k'→∃ i o l rest,rem=(i,o)::l∧sched=i::rest)
  (hop:o.op=.defer c) (hd:DefR E d d') (hres:(resolve fr'.eval c o.type).run tb.p w=.ok d' w) (h:deferA tb d fr cs m=some am):StepOutM tb N G w0 base am (lone fr' cs' w):=by
 have hro:=S.top.ro_rel
 simp only at hro
 unfold deferA at h
 split at h
 ·rename_i hro1
  rw [hro1] at hro
  have hro2:fr'.roundOf=none:=by generalize fr'.roundOf=q at hro;cases hro;rfl
  have hg:=stG_op (cs:=cs') (w:=w) (P:=tb.p) HH.mode HH.todo HH.op HH.wanted (.inl hro2)
  have hrun:(execOp fr'.eval o).run tb.p w=.ok (.defer d') w:=by
   unfold execOp
   rw [hop]
   simp only [Sem.run_bind,hres,Result.andThen_ok]
   rfl
  have hst:=(App.of hg).defer hrun
  simp only [Go.Ev.am] at h
  split at h<;>first|(simp at h;done)|skip
  rename_i fr1 hf
  obtain rfl:=Option.some.inj h
  have S':StR tb N G w0 base ⟨addDefer fr d,cs,m⟩ { fr' with defers:=d'::fr'.defers } cs' w E lo:=⟨S.mem,S.glob,addDefer_top S.top HH.mode hd,S.callers,S.lo⟩
  exact value_okS S' (fun ops rem hist mask sched k k' h1 h2=>hh ops rem hist mask sched k k' h1 h2) S.mem (.refl _ _ _) (.undef E) hf (.one hst)
 ·rename_i l hro1
  rw [hro1] at hro
  split at h<;>first|(simp at h;done)|skip
  rename_i st pe fn tmps nt ps a b ds hl
  split at h<;>first|(simp at h;done)|skip
  rename_i calls hds
  obtain⟨il,hil,hEl⟩:∃ il:Info,fr'.roundOf=some il.blk∧E l=some il:=by
   generalize fr'.roundOf=q at hro
   cases hro with
   |some h=>exact⟨_,rfl,h⟩
  obtain⟨ob,hob,hR⟩:=S.mem.objs l il _ hEl hl rfl
  cases hR with
  | @loop _ _ _ _ _ tm _ _ _ _ j ht hEd =>
  obtain⟨ob2,hob2,hR2⟩:=S.mem.objs ds j _ hEd hds rfl
  cases hR2 with
  | @dfr _ calls' hcs =>
  have hg:=stG_defer (cs:=cs') (w:=w) (P:=tb.p) HH.mode HH.todo HH.op HH.wanted hil hop
  obtain⟨p1,p2⟩:=putIter S.mem hEd hds rfl (o2:=.dfr (some (d::calls))) rfl hob2 (by simp) (ob2:=.deferred (some (d'::calls'))) (.dfr (.cons hd hcs))
  have hrun:(do Instr.deferInRound il.blk (← resolve fr'.eval c o.type);pure .skip:Sem Next).run tb.p w=.ok .skip { w with heap:=w.heap.setIfInBounds j.blk (.deferred (some (d'::calls'))) }:=by
   have g1:(getObj il.blk).run tb.p w=.ok (.loop { state:=st,pending:=pe,fn,tmps:=tm,params:=⟨ps⟩,assign:=a,body:=b,defers:=j.blk }) w:=by simp [getObj,Sem.run,hob]
   have g2:(getObj j.blk).run tb.p w=.ok (.deferred (some calls')) w:=by simp [getObj,Sem.run,hob2]
   simp only [Sem.run_bind,hres,Result.andThen_ok,Instr.deferInRound,Instr.getLoop,g1,g2,p1]
   simp [Sem.run_bind,Sem.run,pure,g2,p1,Result.andThen]
  have hst:=(App.of hg).skip hrun
  simp only [Go.Ev.am] at h
  split at h<;>first|(simp at h;done)|skip
  rename_i fr1 hf
  obtain rfl:=Option.some.inj h
  exact value_okS S hh p2 (MExt.put _ hEd) (.undef E) hf (.one hst)
theorem doCall_ok [E0C] (pk:ProgOk tb N G w0) {fr:AFrame} {ops:Array Oper} {i:Nat} {o:Oper} {rest:List Nat} {k1:List Item} (S:StR tb N G w0 base ⟨fr,cs,m⟩ fr' cs' w E lo) (HH:HeadR tb E G fr.tmps fr' ops i o rest k1)
  (hh:∀ ops rem hist mask sched k k',fr.todo=.dr ops rem hist mask::k→fr'.todo=.inRegion ops sched::k'→∃ i o l rest,rem=(i,o)::l∧sched=i::rest)
  (h:doCall tb o fr cs m=some am):StepOutM tb N G w0 base am (lone fr' cs' w):=by
 have harr:∀ a:Array Operand,a.map fr'.eval=⟨a.toList.map fr'.eval⟩:=fun a=>Array.ext' (by simp)
 unfold doCall at h
 split at h
 ·rename_i c hop
  have happ:=App.of (stG_op (cs:=cs') (w:=w) (P:=tb.p) HH.mode HH.todo HH.op HH.wanted (.inr fun c e=>by rw [hop] at e;simp at e))
  have hargs:VRs E (evs fr.tmps c.args.toList) (c.args.toList.map fr'.eval):=evs_rel fun y hy=>HH.args y (by rw [hop];simp only [Op.operands,Call.operands,Array.toList_append,List.mem_append];exact .inr hy)
  split at h
  ·rename_i f hcal
   have hf:VR E (ev fr.tmps f) (fr'.eval f):=HH.args f (by rw [hop];simp [Op.operands,Call.operands,hcal])
   refine goA_ok pk S hh ?_ happ (by rw [HH.todo];simp) h
   refine NextR.congr ?_ (callValue_ok pk S.mem S.glob hf hargs)
   unfold execOp
   rw [hop]
   simp only [resolve,hcal,harr]
  ·rename_i b hcal
   have hres:∃ q,(execOp fr'.eval o).run tb.p w=(builtin b c.argTypes o.type q (c.args.map fr'.eval)).run tb.p w:=by
    obtain⟨q,hq⟩:=run_resolve_builtin (tb:=tb) (w:=w) (ρ := fr'.eval) (t:=o.type) hcal
    refine⟨q,?_⟩
    unfold execOp
    rw [hop]
    simp only [Sem.run_bind,hq,Result.andThen_ok,invoke]
   obtain⟨q,hres⟩:=hres
   split at h<;>first|(simp at h;done)|skip
   ·exact recoverA_ok S hh happ (by rw [hres];rfl) h
   ·split at h<;>first|(simp at h;done)|skip
    rename_i t v hev
    obtain rfl:=Option.some.inj h
    rw [hev] at hargs
    generalize hl:c.args.toList.map fr'.eval=l at hargs
    cases hargs with
    |cons h1 h2 =>
    cases h2
    have h10:=h1
    cases h1 with
    | @iface _ _ v' hv =>
    refine raise_ok S h10 (happ.panic ?_)
    rw [hres,harr,hl]
    rfl
  ·simp at h
 ·rename_i c hop
  split at h<;>first|(simp at h;done)|skip
  rename_i d hd
  unfold deferOf at hd
  split at hd<;>first|(simp at hd;done)|skip
  rename_i f hcal
  split at hd<;>first|(simp at hd;done)|skip
  rename_i fn first captured hev
  obtain rfl:=Option.some.inj hd
  have hargs:VRs E (evs fr.tmps c.args.toList) (c.args.toList.map fr'.eval):=evs_rel fun y hy=>HH.args y (by rw [hop];simp only [Op.operands,Call.operands,Array.toList_append,List.mem_append];exact .inr hy)
  have hf:VR E (ev fr.tmps f) (fr'.eval f):=HH.args f (by rw [hop];simp [Op.operands,Call.operands,hcal])
  rw [hev] at hf
  obtain⟨first⟩:=first
  obtain⟨captured⟩:=captured
  generalize hq:fr'.eval f=q at hf
  cases hf with
  | @func _ _ f1 _ c1 hne h1 h2 =>
    refine deferA_ok S HH hh hop (d' := { target:=.fn fn ⟨c1⟩,args:=⟨f1++c.args.toList.map fr'.eval⟩ }) (.fn (.func hne .nil h2) (h1.append hargs)) ?_ h
    simp only [resolve,hcal,hq,Deferred.ofValue,harr,mk_append]
    rfl
  | @yield _ il hE =>
    refine deferA_ok S HH hh hop (d' := { target:=.fn (.yield il.blk) ⟨[]⟩,args:=⟨[]++c.args.toList.map fr'.eval⟩ }) (.fn (.yield hE) (VRs.nil.append hargs)) ?_ h
    simp only [resolve,hcal,hq,Deferred.ofValue,harr,mk_append]
    rfl
 ·rename_i x hop
  have happ:=App.of (stG_op (cs:=cs') (w:=w) (P:=tb.p) HH.mode HH.todo HH.op HH.wanted (.inr fun c e=>by rw [hop] at e;simp at e))
  split at h<;>first|(simp at h;done)|skip
  rename_i t v hev
  obtain rfl:=Option.some.inj h
  have hx:VR E (ev fr.tmps x) (fr'.eval x):=HH.args x (by rw [hop];simp [Op.operands])
  rw [hev] at hx
  have hx0:=hx
  generalize hq:fr'.eval x=q at hx hx0
  cases hx with
  | @iface _ _ v' hv =>
  refine raise_ok S hx0 (happ.panic ?_)
  unfold execOp
  rw [hop]
  simp only [hq]
  rfl
 ·simp at h
end
end Go.Ev

namespace Go.Ev
open Go.RowKit
section
variable {P:Program} {fn:FuncId} {tmps:Array Value} {k:List Item} {ds:List Deferred} {kind:CallKind} {ro:Option Nat} {c:Frame} {cs:List Frame} {w w':World}
inductive Leaves:List Item→Option Code→Prop where
 |fin:Leaves [] none
 |ret (k:List Item):Leaves (.code .ret::k) (some .ret)
 |exit {id:Nat} {k:List Item} (h:exitTo id k=none):Leaves (.code (.exit id)::k) (some (.exit id))
 |goto {l:Nat} {k:List Item} (h:gotoIn l k=none):Leaves (.code (.goto l)::k) (some (.goto l))
theorem su_leave_round {l:Nat} {todo:List Item} {j:Option Code} {v:Value} (h:Leaves todo j) (hr:(Instr.endRound l j).run P w=.ok v w') :
  step P (lone (rf fn tmps ds .normal (some l) todo) (c::cs) w)=.next (lone (c.finish v) cs w'):=by
 refine step_lone_go ?_
 cases h with
 |fin=>simp [stepG,stepG.exec,rf,Sem.runT_eq,hr,doReturn]
 |ret k=>simp [stepG,stepG.exec,rf,Sem.runT_eq,hr,doReturn]
 |exit h=>simp [stepG,stepG.exec,rf,Sem.runT_eq,hr,doReturn,h]
 |goto h=>simp [stepG,stepG.exec,rf,Sem.runT_eq,hr,doReturn,h]
theorem su_leave_fn {todo:List Item} {j:Option Code} (h:Leaves todo j) (hj:j=none∨j=some .ret) :
  step P (lone (rf fn tmps ds kind none todo) cs w)=.next (lone { rf fn tmps ds kind none todo with mode:=.returning } cs w):=by
 cases h with
 |fin=>exact su_end
 |ret k=>exact su_ret
 |exit h=>rcases hj with hj|hj<;>simp at hj
 |goto h=>rcases hj with hj|hj<;>simp at hj
end
section
variable {tb:Tabs} {N G:Nat} {w0:World} {base:List Frame} {E:Env} {m:Mem} {lo hi:Nat} {cs:List AFrame} {fr':Frame} {cs':List Frame} {w:World} {am:AM} {m0:Machine}
variable {fn:FuncId} {t:T Value} {nt:Nat} {ds:List Deferred} {kind:CallKind} {ro:Option Nat}
theorem back_ok [E0C] {c fr1:AFrame} {c':Frame} {rest:List AFrame} {rest':List Frame} {lo1:Nat} {m':Mem} {E':Env} {w':World} {v v':Value} (hc:FR tb E m lo1 lo G true c c') (hct:CsR tb E m G base lo1 rest rest') (hcl:lo1≤lo) (hlo:lo≤m.next) (HG:GlobE G E)
  (HM:MR tb.p N w0 E' m' w') (hx:MExt lo E m E' m') (hv:VR E' v v') (hf:finishA tb c v m'=some fr1) (hst:Steps tb.p m0 (lone (c'.finish v') rest' w')):StepOutM tb N G w0 base ⟨fr1,rest,m'⟩ m0 :=
 ⟨_,_,_,E',lo1,hst,⟨HM,fun g hg=>hx.le _ _ (HG g hg),(hc.wait hx).finish (Nat.le_trans hlo hx.next) hv hf,hct.ext (hx.lower hcl),Nat.le_trans hcl (Nat.le_trans hlo hx.next)⟩⟩
theorem leaveA_ok [E0C] {k:List AItem} {tm:Array Value} {ds':List Deferred} {ro':Option Nat} {todo':List Item} {j:Option Code} {k2:List AItem}
  (S:StR tb N G w0 base ⟨⟨fn,t,nt,k,ds,.run,kind,ro⟩,cs,m⟩ (rf fn tm ds' kind ro' todo') cs' w E lo) (hs:TR E t nt tm) (hd:DefsR E ds ds') (hr:RoR E ro ro') (hki:kind=.normal∨kind=.deferred) (hf:(tb.p.funcs[fn]?).isSome=true)
  (hl:Leaves todo' j) (h:leaveA tb (frm fn t nt k2 ds kind ro) cs m j=some am):StepOutM tb N G w0 base am (lone (rf fn tm ds' kind ro' todo') cs' w):=by
 unfold leaveA at h
 simp only [frm] at h
 cases hr with
 |none =>
  simp only at h
  have go:some (⟨setMode ⟨fn,t,nt,k2,ds,.run,kind,none⟩ .returning,cs,m⟩:AM)=some am→(j=none∨j=some .ret)→StepOutM tb N G w0 base am (lone (rf fn tm ds' kind none todo') cs' w):=by
   intro h hj
   obtain rfl:=Option.some.inj h
   exact⟨_,_,_,E,lo,.one (su_leave_fn hl hj),⟨S.mem,S.glob,.ret hf hs hd .none hki,S.callers,S.lo⟩⟩
  split at h
  ·exact go h (.inl rfl)
  ·split at h
   ·exact go h (.inr rfl)
   ·simp at h
 | @some l i hE =>
   simp only at h
   split at h<;>first|(simp at h;done)|skip
   rename_i st pe fnl tmps ntl ps a b dsl hol
   split at h<;>first|(simp at h;done)|skip
   split at h<;>first|(simp at h;done)|skip
   rename_i c rest
   obtain⟨ob,hob,hR⟩:=S.mem.objs l i _ hE hol rfl
   cases hR with
   | @loop _ _ _ _ _ tml _ _ _ _ jd ht hEd =>
   have hC:=S.callers
   cases hC with
   | @cons _ lo1 _ c' _ rest' hc hct hcl =>
   have fin:∀ (st2:LoopState) (j2:Option Code) (q:Bool),(Instr.endRound i.blk j).run tb.p w=.ok (.bool q) { w with heap:=w.heap.setIfInBounds i.blk (.loop { state:=st2,pending:=j2,fn:=fnl,tmps:=tml,params:=⟨ps⟩,assign:=a,body:=b,defers:=jd.blk }) } →
     Go.Ev.am (finishA tb c (.bool q) (putObj m l (.loop st2 j2 fnl tmps ntl ps a b dsl))) rest (putObj m l (.loop st2 j2 fnl tmps ntl ps a b dsl))=some am→StepOutM tb N G w0 base am (lone (rf fn tm ds' .normal (some i.blk) todo') (c'::rest') w):=by
    intro st2 j2 q hrun h
    simp only [Go.Ev.am] at h
    split at h<;>first|(simp at h;done)|skip
    rename_i fr1 hf1
    obtain rfl:=Option.some.inj h
    obtain⟨p1,p2⟩:=putIter S.mem hE hol rfl (o2:=.loop st2 j2 fnl tmps ntl ps a b dsl) rfl hob (by simp) (ob2:=.loop { state:=st2,pending:=j2,fn:=fnl,tmps:=tml,params:=⟨ps⟩,assign:=a,body:=b,defers:=jd.blk }) (.loop ht hEd)
    exact back_ok hc hct hcl S.lo S.glob p2 (MExt.put _ hE) (.bool q) hf1 (.one (su_leave_round hl hrun))
   have hget:(getObj i.blk).run tb.p w=.ok (.loop { state:=st,pending:=pe,fn:=fnl,tmps:=tml,params:=⟨ps⟩,assign:=a,body:=b,defers:=jd.blk }) w:=by simp [getObj,Sem.run,hob]
   split at h
   ·refine fin .ready none true ?_ h
    simp [Instr.endRound,Instr.getLoop,Sem.run_bind,Sem.run,pure,setObj,getObj,hob,Result.andThen]
   ·rename_i j2
    refine fin .done (some j2) false ?_ h
    simp [Instr.endRound,Instr.getLoop,Sem.run_bind,Sem.run,pure,setObj,getObj,hob,Result.andThen]
end
end Go.Ev

