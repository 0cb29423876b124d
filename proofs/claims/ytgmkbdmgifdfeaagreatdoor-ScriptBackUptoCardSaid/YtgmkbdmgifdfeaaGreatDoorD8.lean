/- A part of a proof: ScriptBack. -/
import Derived.KernelRfl
import Derived.Lib.Bytealg
import Derived.Test.YtgmkbdmgifdfeaaGreatDoorD7
set_option linter.unusedVariables false
set_option linter.unusedSimpArgs false
namespace Go.Ev
open Go.RowKit
section
variable {tb:Tabs} {N G:Nat} {w0:World} {base:List Frame} {E:Env} {m:Mem} {lo hi:Nat} {cs:List AFrame} {fr':Frame} {cs':List Frame} {w:World} {am:AM} {m0:Machine}
variable {fn:FuncId} {t:T Value} {nt:Nat} {ds:List Deferred} {kind:CallKind} {ro:Option Nat} {k:List AItem}
theorem Jb5 {l:Nat} (S:StR tb N G w0 base ⟨⟨fn,t,nt,.beginRound::k,ds,.run,kind,some l⟩,cs,m⟩ fr' cs' w E lo) (h:Qwf l k fn t nt ds kind cs m=some am):Qb3 tb N G w0 base am (lone fr' cs' w):=by
 obtain⟨tm,k',ds',ro',X,rfl,ht,hs,hd,hr,hki,hf⟩:=S.top.run_inv
 obtain⟨x',k1,rfl,hx,hk,rfl⟩:=ht.item_inv (by simp) (by simp)
 cases hx
 cases hr with
 | @some _ i hE =>
 unfold Qwf at h
 split at h<;>first|(simp at h;done)|skip
 rename_i pe f tl n ps a b d hl
 obtain rfl:=Kai h
 obtain⟨ob,hob,hR⟩:=S.mem.objs l i _ hE hl rfl
 cases hR with
 | @loop _ _ _ _ _ tml _ _ _ _ jd htl hEd =>
 obtain⟨p1,p2⟩:=Qh8 S.mem hE hl rfl (o2:=.loop .busy pe f tl n ps a b d) rfl hob (by simp) (ob2:=.loop { state:=.busy,pending:=pe,fn:=f,tmps:=tml,params:=⟨ps⟩,assign:=a,body:=b,defers:=jd.blk }) (.loop htl hEd)
 have hx:∀ hi,MExt hi E m E (Qas m l (.loop .busy pe f tl n ps a b d)):=fun hi=>MExt.put _ hE
 have hrun:(Instr.beginRound i.blk).run tb.p w=.ok () { w with heap:=w.heap.setIfInBounds i.blk (.loop { state:=.busy,pending:=pe,fn:=f,tmps:=tml,params:=⟨ps⟩,assign:=a,body:=b,defers:=jd.blk }) }:=by
  simp [Instr.beginRound,Instr.getLoop,Sem.run_bind,Sem.run,pure,setObj,getObj,hob,Result.andThen]
 refine⟨_,_,_,E,lo,.one (step_lone_go (fr':=rf fn tm ds' kind (some i.blk) k1) ?_),⟨p2,S.glob,FR.plain hk hs hd (.some hE) hki hf,S.callers.ext (hx _),S.lo⟩⟩
 simp [stepG,stepG.exec,rf,stepG.apply,Sem.runT_eq,Sem.run_bind,hrun,pure,Sem.run,Result.andThen,Frame.finish]
theorem endA_ok (pk:ProgOk tb N G w0) {l:Nat} (S:StR tb N G w0 base ⟨⟨fn,t,nt,.endRangeFunc l::k,ds,.run,kind,ro⟩,cs,m⟩ fr' cs' w E lo) (h:endA tb l k fn t nt ds kind ro cs m=some am):Qb3 tb N G w0 base am (lone fr' cs' w):=by
 obtain⟨tm,k',ds',ro',X,rfl,ht,hs,hd,hr,hki,hf⟩:=S.top.run_inv
 obtain⟨x',k1,rfl,hx,hk,rfl⟩:=ht.item_inv (by simp) (by simp)
 cases hx with
 | @endRangeFunc _ i hE =>
 unfold endA at h
 split at h<;>first|(simp at h;done)|skip
 rename_i st pe f tl n ps a b d hl
 obtain⟨ob,hob,hR⟩:=S.mem.objs l i _ hE hl rfl
 cases hR with
 | @loop _ _ _ _ _ tml _ _ _ _ jd htl hEd =>
 have go:∀ (k2:List AItem) (k2':List Item),st≠.busy→ItsR E G k2 k2'→mkA fn t nt ds kind ro cs (Qas m l (.loop .exhausted pe f tl n ps a b d)) k2=some am→(pe.map Item.code).toList++k1=k2'→Qb3 tb N G w0 base am (lone (rf fn tm ds' kind ro' (.endRangeFunc i.blk::k1)) cs' w):=by
  intro k2 k2' hst hk2 h he
  obtain rfl:=Kai h
  obtain⟨p1,p2⟩:=Qh8 S.mem hE hl rfl (o2:=.loop .exhausted pe f tl n ps a b d) rfl hob (by simp) (ob2:=.loop { state:=.exhausted,pending:=pe,fn:=f,tmps:=tml,params:=⟨ps⟩,assign:=a,body:=b,defers:=jd.blk }) (.loop htl hEd)
  have hx:∀ hi,MExt hi E m E (Qas m l (.loop .exhausted pe f tl n ps a b d)):=fun hi=>MExt.put _ hE
  have hrun:(Instr.endLoop i.blk).run tb.p w=.ok pe { w with heap:=w.heap.setIfInBounds i.blk (.loop { state:=.exhausted,pending:=pe,fn:=f,tmps:=tml,params:=⟨ps⟩,assign:=a,body:=b,defers:=jd.blk }) }:=by
   have:(st==LoopState.busy)=false:=by cases st<;>first|rfl|exact absurd rfl hst
   simp [Instr.endLoop,Instr.getLoop,Sem.run_bind,Sem.run,pure,setObj,getObj,hob,Result.andThen,this,hst]
  refine⟨_,_,_,E,lo,.one (step_lone_go (fr':=rf fn tm ds' kind ro' k2') ?_),⟨p2,S.glob,FR.plain hk2 hs hd hr hki hf,S.callers.ext (hx _),S.lo⟩⟩
  rw [← he]
  simp [stepG,stepG.exec,rf,Sem.runT_eq,hrun]
 split at h<;>first|(simp at h;done)|skip
 rename_i hst
 split at h
 ·rename_i c
  split at h<;>first|(simp at h;done)|skip
  rename_i hc
  rw [pk.g] at hc
  exact go _ _ (fun e=>hst e) (.cons (.code hc) hk) h rfl
 ·exact go _ _ (fun e=>hst e) hk h rfl
theorem Qqe (pk:ProgOk tb N G w0) {f:Operand} {ps:Array Tmp} {a b:Code} (S:StR tb N G w0 base ⟨⟨fn,t,nt,.code (.rangeFunc f ps a b)::k,ds,.run,kind,ro⟩,cs,m⟩ fr' cs' w E lo) (h:Qiv tb (ev t f) ps.toList a b k fn t nt ds kind ro cs m=some am):Qb3 tb N G w0 base am (lone fr' cs' w):=by
 obtain⟨tm,k',ds',ro',X,rfl,ht,hs,hd,hr,hki,hf⟩:=S.top.run_inv
 obtain⟨x',k1,rfl,hx,hk,rfl⟩:=ht.item_inv (by simp) (by simp)
 cases hx with
 |code hc =>
 simp only [Qb6,Kba] at hc
 have main:∀ (l:Nat) (bl:Nat) (m1:Mem) (w1:World) (E1:Env) (ds1:List Deferred) (mark:List Deferred),MR tb.p N w0 E1 m1 w1→MExt m.next E m E1 m1→(∃ i,E1 l=some i∧i.blk=bl)→DefsR E1 ds1 (mark++ds') →
   (Instr.enterLoop fn tm ps a b ro').run tb.p w=.ok (bl,mark) w1→goA tb (Qaz tb (ev t f) [.func (.yield l) #[] #[]] m1) (frm fn t nt (.inRangeFunc l::k) ds1 kind ro) cs m1=some am →
   Qb3 tb N G w0 base am (lone (rf fn tm ds' kind ro' (.code (.rangeFunc f ps a b)::k1)) cs' w):=by
  rintro l bl m1 w1 E1 ds1 mark HM hx ⟨i,hE,rfl⟩ hd1 hrun h
  have hG1:Qhc G E1:=fun g hg=>hx.le _ _ (S.glob g hg)
  have hs1:TR E1 t nt tm:=hs.mono hx.le
  have S1:StR tb N G w0 base ⟨frm fn t nt (.inRangeFunc l::k) ds1 kind ro,cs,m1⟩ (rf fn tm (mark++ds') kind ro' (.inRangeFunc i.blk::k1)) cs' w1 E1 lo :=
   ⟨HM,hG1,FR.plain (.cons (.inRangeFunc hE) (hk.mono hx.le)) hs1 hd1 (hr.mono hx.le) hki hf,S.callers.ext (hx.lower S.lo),Knt S.lo hx.next⟩
  have hfv:VR E1 (ev t f) ((rf fn tm (mark++ds') kind ro' (.inRangeFunc i.blk::k1)).eval f):=Qfw hG1 hs1 hc.1.1 (by simp)
  have hn:=Qlw pk HM hG1 hfv (a:=[.func (.yield l) #[] #[]]) (a':=[.func (.yield i.blk) #[] #[]]) (.cons (.yield hE) .nil)
  have hn2:Qjr tb N G w0 E1 m1 w1 (do let d ← resolve (rf fn tm (mark++ds') kind ro' (.inRangeFunc i.blk::k1)).eval { callee:=.value f,args := #[.const (.func (.yield i.blk) #[] #[])],argTypes := #[] } 0;invoke d.target d.args) (Qaz tb (ev t f) [.func (.yield l) #[] #[]] m1):=by
   refine Qjr.congr ?_ hn
   have he:(#[Operand.const (.func (.yield i.blk) #[] #[])]:Array Operand).map (rf fn tm (mark++ds') kind ro' (.inRangeFunc i.blk::k1)).eval=⟨[.func (.yield i.blk) #[] #[]]⟩:=Array.ext' (by simp [Frame.eval])
   simp only [resolve,he]
  refine goA_ok pk S1 (by simp [frm]) hn2 ?_ (by simp [rf]) h
  intro fr2 cs2 w2 hb
  refine step_lone_go ?_
  rw [← hb]
  simp only [stepG,stepG.exec,rf,Sem.runT_eq,hrun,GStep.bare_after]
 unfold Qiv at h
 have HM:MR tb.p N w0 E m w:=S.mem
 cases hr with
 |none =>
  simp only at h
  have d0:=HM.dom m.next (Knr _)
  have HM0:MR tb.p N w0 (E.add m.next ⟨w.heap.size,0,0⟩) (Qah m (.dfr (some []))) { w with heap:=w.heap.push (.deferred (some [])) } :=
   (HM.lay (.dfr (some []))).mat (w' := { w with heap:=w.heap.push (.deferred (some [])) }) (ob:=.deferred (some [])) (sh:=0) (ex:=0) d0.2 (by rw [Qan,if_pos rfl]) (by rw [Qaf];omega) rfl rfl rfl rfl rfl (.dfr .nil)
  have hx0:MExt m.next E m (E.add m.next ⟨w.heap.size,0,0⟩) (Qah m (.dfr (some []))):=(MExt.lay HM _).trans (MExt.mat d0.2 (Knr _))
  have d1:=HM0.dom (m.next+1) (by rw [Qaf];omega)
  have e0:(E.add m.next ⟨w.heap.size,0,0⟩) m.next=some ⟨w.heap.size,0,0⟩:=Env.add_at
  have hle1:Env.le (E.add m.next ⟨w.heap.size,0,0⟩) ((E.add m.next ⟨w.heap.size,0,0⟩).add (m.next+1) ⟨w.heap.size+1,0,0⟩):=Env.add_le d1.2
  have HM1:MR tb.p N w0 ((E.add m.next ⟨w.heap.size,0,0⟩).add (m.next+1) ⟨w.heap.size+1,0,0⟩) (Qah (Qah m (.dfr (some []))) (.loop .ready none fn t nt ps.toList a b m.next))
    { w with heap:=(w.heap.push (.deferred (some []))).push (.loop { state:=.ready,pending:=none,fn,tmps:=tm,params:=ps,assign:=a,body:=b,defers:=w.heap.size }) }:=by
   have:=(HM0.lay (.loop .ready none fn t nt ps.toList a b m.next)).mat (b:=m.next+1) d1.2 (o:=.loop .ready none fn t nt ps.toList a b m.next) (ob:=.loop { state:=.ready,pending:=none,fn,tmps:=tm,params:=ps,assign:=a,body:=b,defers:=w.heap.size })
    (w' := { w with heap:=(w.heap.push (.deferred (some []))).push (.loop { state:=.ready,pending:=none,fn,tmps:=tm,params:=ps,assign:=a,body:=b,defers:=w.heap.size }) }) (sh:=0) (ex:=0)
    (by rw [Qan,if_pos (by rw [Qaf])]) (by rw [Qaf,Qaf];omega) rfl rfl rfl rfl rfl (by
     have:(⟨ps.toList⟩:Array Tmp)=ps:=rfl
     simp only [Array.size_push]
     exact .loop (j:=⟨w.heap.size,0,0⟩) (hs.mono (hx0.le.trans hle1)) (hle1 _ _ e0))
   simpa using this
  have hx1:MExt m.next E m _ _:=hx0.trans (((MExt.lay HM0 (.loop .ready none fn t nt ps.toList a b m.next)).lower (by rw [Qaf];omega)).trans (MExt.mat (i:=⟨w.heap.size+1,0,0⟩) d1.2 (by omega)))
  refine main (m.next+1) (w.heap.size+1) _ _ _ _ [{ target:=.collected w.heap.size,args := #[] }] HM1 hx1 ⟨_,Env.add_at,rfl⟩ (.cons (.coll (i:=⟨w.heap.size,0,0⟩) (hle1 _ _ e0)) (hd.mono hx1.le)) ?_ h
  simp [Instr.enterLoop,newObj,Sem.run_bind,Sem.run,pure,Result.andThen]
  exact⟨rfl,rfl,rfl⟩
 | @some l i hE =>
   simp only at h
   split at h<;>first|(simp at h;done)|skip
   rename_i st pe f2 tl n ps2 a2 b2 d hl
   obtain⟨ob,hob,hR⟩:=HM.objs l i _ hE hl rfl
   cases hR with
   | @loop _ _ _ _ _ tml _ _ _ _ jd htl hEd =>
   have d0:=HM.dom m.next (Knr _)
   have hle0:Env.le E (E.add m.next ⟨w.heap.size,0,0⟩):=Env.add_le d0.2
   have HM0:MR tb.p N w0 (E.add m.next ⟨w.heap.size,0,0⟩) (Qah m (.loop .ready none fn t nt ps.toList a b d)) { w with heap:=w.heap.push (.loop { state:=.ready,pending:=none,fn,tmps:=tm,params:=ps,assign:=a,body:=b,defers:=jd.blk }) } :=
    (HM.lay (.loop .ready none fn t nt ps.toList a b d)).mat (w' := { w with heap:=w.heap.push (.loop { state:=.ready,pending:=none,fn,tmps:=tm,params:=ps,assign:=a,body:=b,defers:=jd.blk }) }) (ob:=.loop { state:=.ready,pending:=none,fn,tmps:=tm,params:=ps,assign:=a,body:=b,defers:=jd.blk }) (sh:=0) (ex:=0) d0.2 (by rw [Qan,if_pos rfl]) (by rw [Qaf];omega) rfl rfl rfl rfl rfl (.loop (hs.mono hle0) (hle0 _ _ hEd))
   have hx0:MExt m.next E m (E.add m.next ⟨w.heap.size,0,0⟩) (Qah m (.loop .ready none fn t nt ps.toList a b d)):=(MExt.lay HM _).trans (MExt.mat d0.2 (Knr _))
   refine main m.next w.heap.size _ _ _ _ [] HM0 hx0 ⟨_,Env.add_at,rfl⟩ (hd.mono hx0.le) ?_ h
   simp [Instr.enterLoop,Instr.getLoop,getObj,hob,newObj,Sem.run_bind,Sem.run,pure,Result.andThen]
end
end Go.Ev

namespace Go.Ev
open Go.RowKit
section
variable {tb:Tabs} {N G:Nat} {w0:World} {base:List Frame} {E:Env} {m:Mem} {lo hi:Nat} {cs:List AFrame} {fr':Frame} {cs':List Frame} {w:World} {am:AM}
variable {fn:FuncId} {t:T Value} {nt:Nat} {ds:List Deferred} {kind:CallKind} {ro:Option Nat} {k:List AItem}
theorem Quc {n s:Nat} (h:n<s):List.range' n (s-n)=n::List.range' (n+1) (s-(n+1)):=by
 obtain⟨q,hq⟩:∃ q,s-n=q+1:=⟨s-n-1,by omega⟩
 rw [hq,List.range'_succ,show s-(n+1)=q from by omega]
theorem itemA_ok (pk:ProgOk tb N G w0) {i:AItem} (S:StR tb N G w0 base ⟨⟨fn,t,nt,i::k,ds,.run,kind,ro⟩,cs,m⟩ fr' cs' w E lo) (h:Qhn tb i k fn t nt ds kind ro cs m=some am):Qb3 tb N G w0 base am (lone fr' cs' w):=by
 cases i with
 |inBlock id=>exact Qh9 S h (.inl ⟨_,rfl⟩)
 |inScope b=>exact Qh9 S h (.inr (.inl ⟨_,rfl⟩))
 |inLoop b=>exact Qh9 S h (.inr (.inr ⟨_,rfl⟩))
 |inRangeFunc l=>simp [Qhn] at h
 |beginRound =>
  simp only [Qhn] at h
  split at h
  ·exact Jb5 S h
  ·simp at h
 |endRangeFunc l=>exact endA_ok pk S h
 |code c =>
  refine codeA_ok S h (fun j hj hc=>?_) (fun f ps a b e=>?_)
  ·obtain⟨tm,k',ds',ro',X,rfl,ht,hs,hd,hr,hki,hf⟩:=S.top.run_inv
   obtain⟨x',k1,rfl,hx,hk,rfl⟩:=ht.item_inv (by simp) (by simp)
   cases hx
   refine Qsi S hs hd hr hki hf ?_ hj
   rcases hc with ⟨rfl,rfl⟩|⟨id,rfl,rfl,he⟩|⟨l,rfl,rfl,he⟩
   ·exact .ret _
   ·exact .exit ((Qle (id:=id) hk).2 he)
   ·exact .goto ((Qlb (l:=l) hk).2 he)
  ·subst e
   exact Qqe pk S h
 |ops ops l =>
  refine Qxg pk.tabs S h fun o l1 t1 m1 fr2 w2 E2 S2 hw hcall=>?_
  obtain⟨tm,k',ds',ro',X,rfl,ht,hs,hd,hr,hki,hf⟩:=S2.top.run_inv
  obtain⟨n,k1,rfl,hl,hk,hok,rfl⟩:=ht.ops_inv
  obtain⟨h1,h2,h3⟩:=Qny hl
  have hlt:n<ops.size:=by simpa using h3
  exact Qs0 pk S2 (Qtk.of S2.glob hs rfl (by rw [rf,Quc hlt]) h1 hok (fun _ _ h=>h) hw) (by simp [frm]) hcall
 |dr ops rem hist mask =>
  refine Jbn pk.tabs S h fun i o l hist1 mask1 rest k1 tm ds' ro' t1 m1 w2 E2 S2 ho hdep hw hwr=>?_
  obtain⟨tm2,k',ds2,ro2,X,e,ht,hs,hd,hr,hki,hf⟩:=S2.top.run_inv
  simp only [rf,Frame.mk.injEq,true_and,and_true] at e
  obtain⟨rfl,rfl,rfl,rfl⟩:=e
  obtain⟨sched,k2,e2,hdr,hk,hok,rfl⟩:=ht.dr_inv
  simp only [List.cons.injEq,Item.inRegion.injEq,true_and] at e2
  obtain⟨rfl,rfl⟩:=e2
  have hhd:∀ ops' rem' hist' mask' sched' k3 k3',(frm fn t1 nt (.dr ops ((i,o)::l) hist1 mask1::k) ds kind ro).todo=.dr ops' rem' hist' mask'::k3→(rf fn tm ds' kind ro' (.inRegion ops (i::rest)::k1)).todo=.inRegion ops' sched'::k3'→∃ i o l rest,rem'=(i,o)::l∧sched'=i::rest:=by
   intro ops' rem' hist' mask' sched' k3 k3' g1 g2
   simp only [frm,List.cons.injEq,AItem.dr.injEq] at g1
   simp only [rf,List.cons.injEq,Item.inRegion.injEq] at g2
   obtain⟨⟨_,rfl,_⟩,_⟩:=g1
   obtain⟨⟨_,rfl⟩,_⟩:=g2
   exact⟨_,_,_,_,rfl,rfl⟩
  have HH:=Qtk.of (tb:=tb) (nt:=nt) (fr':=rf fn tm ds' kind ro' (.inRegion ops (i::rest)::k1)) (rest:=rest) (k1:=k1) S2.glob hs rfl rfl ho hok (hdr.reads_done ho hdep) hw
  unfold Qij at hwr
  simp only at hwr
  split at hwr<;>first|(simp at hwr;done)|skip
  split at hwr<;>first|(simp at hwr;done)|skip
  ·rename_i v m' he
   simp only [Go.Ev.am] at hwr
   split at hwr<;>first|(simp at hwr;done)|skip
   rename_i fr1 hf1
   obtain rfl:=Kai hwr
   exact write_ok pk.tabs S2 HH hhd he hf1
  ·exact Qs0 pk S2 HH hhd hwr
theorem Qvh (pk:ProgOk tb N G w0) {a:AM} (S:StR tb N G w0 base a fr' cs' w E lo) (h:Qcn tb a=some am):Qb3 tb N G w0 base am (lone fr' cs' w):=by
 obtain⟨⟨fn,t,nt,todo,ds,mode,kind,ro⟩,cs,m⟩:=a
 unfold Qcn Qdi at h
 cases mode with
 |run =>
  simp only [Qco] at h
  cases todo with
  |nil =>
   obtain⟨tm,k',ds',ro',X,rfl,ht,hs,hd,hr,hki,hf⟩:=S.top.run_inv
   cases ht with
   |plain hk =>
   cases hk
   exact Qsi S hs hd hr hki hf .fin h
  |cons i k=>exact itemA_ok pk S h
 |returning=>exact Qox pk S (by simp) h
 |panicking chain=>exact Qox pk S (by simp) h
theorem Qzl (pk:ProgOk tb N G w0):∀ (n:Nat) {a:AM} {fr':Frame} {cs':List Frame} {w:World} {E:Env} {lo:Nat},StR tb N G w0 base a fr' cs' w E lo→runA tb n a=some am→Qb3 tb N G w0 base am (lone fr' cs' w)
 |0,a,fr',cs',w,E,lo,S,h=>by
  obtain rfl:=Kai h
  exact⟨_,_,_,_,_,.refl _ _,S⟩
 |n+1,a,fr',cs',w,E,lo,S,h=>by
  have h':(match doneA a with|true=>some a|false=>match Qcn tb a with|some b=>runA tb n b|none=>none)=some am:=h
  split at h'
  ·obtain rfl:=Kai h'
   exact⟨_,_,_,_,_,.refl _ _,S⟩
  ·split at h'<;>first|(simp at h';done)|skip
   rename_i b hb
   obtain⟨fr2,cs2,w2,E2,lo2,h1,S2⟩:=Qvh pk S hb
   obtain⟨fr3,cs3,w3,E3,lo3,h3,S3⟩:=Qzl pk n S2 h'
   exact⟨fr3,cs3,w3,E3,lo3,h1.trans h3,S3⟩
end
end Go.Ev

namespace Go.Ev
open Go.RowKit
def Env.globs (G:Nat):Env:=fun b=>if b<G then some ⟨b,0,0⟩ else none
theorem globs_ok (G:Nat):Qhc G (Env.globs G):=fun g hg=>by simp [Env.globs,hg]
section
variable (tb:Tabs)
noncomputable def finalA (f:FuncId) (am:AM):Option (Value × Mem) :=
 match am with
 | ⟨⟨fn,t,_,_,ds,mode,kind,_⟩,cs,m⟩=>match cs,ds,mode,kind with
   | [],[],.returning,.normal=>match Nat.beq fn f with
     |true=>match tb.funcs.get fn with
      |some fd=>match Qcp tb fd t m with
       |some v=>some (v,m)
       |none=>none
      |none=>none
     |false=>none
   |_,_,_,_=>none
noncomputable def runF (n:Nat) (f:FuncId) (args:List Value) (m:Mem):Option (Value × Mem) :=
 match Qf2 tb f args .normal with
 |some g=>match runA tb n ⟨g,[],m⟩ with
  |some am=>finalA tb f am
  |none=>none
 |none=>none
end
section
variable {tb:Tabs} {N G:Nat} {w0:World} {E:Env} {m m':Mem} {w:World}
theorem Qq3 (pk:ProgOk tb N G w0) {f:FuncId} {args args':List Value} {v:Value} (HM:MR tb.p N w0 E m w) (HG:Qhc G E) (ha:VRs E args args') (n:Nat) (h:runF tb n f args m=some (v,m')) :
  Calls tb.p f ⟨args'⟩ w fun e w'=>∃ v' E',e=.returned v'∧VR E' v v'∧MR tb.p N w0 E' m' w':=by
 intro cs
 unfold runF at h
 split at h<;>first|(simp at h;done)|skip
 rename_i g hg
 split at h<;>first|(simp at h;done)|skip
 rename_i am hr
 have S:StR tb N G w0 cs ⟨g,[],m⟩ (Frame.enter tb.p f ⟨args'⟩ .normal) cs w E m.next:=⟨HM,HG,FR.enter pk hg ha (.inl rfl),.nil _,Knr _⟩
 obtain⟨fr2,cs2,w2,E2,lo2,hs,S2⟩:=Qzl pk n S hr
 obtain⟨⟨fn,t,nt,k,ds,mode,kind,ro⟩,cs1,m2⟩:=am
 unfold finalA at h
 simp only at h
 split at h<;>first|(simp at h;done)|skip
 split at h<;>first|(simp at h;done)|skip
 rename_i hfn
 split at h<;>first|(simp at h;done)|skip
 rename_i fd hfd
 split at h<;>first|(simp at h;done)|skip
 rename_i v2 hv2
 simp only [Kaj,Kpj] at h
 obtain⟨rfl,rfl⟩:=h
 obtain rfl:=Knq hfn
 have hC:=S2.callers
 cases hC
 have hT:=S2.top
 cases hT with
 | @ret _ _ _ _ _ _ _ tm k' ds' ro' hf hts hd hrr hk =>
 cases hd
 obtain⟨v',hrun,hvr⟩:=Qk2 pk.tabs S2.mem hts hv2
 exact⟨.returned v',w2,_,⟨v',E2,rfl,hvr,S2.mem⟩,hs,rfl,rfl,rfl,rfl,fd,pk.tabs.funcs _ _ hfd,hrun⟩
end
theorem Qnd (P:Program) (g:Nat) (ov:T (List Value→Mem→Option (Value × Mem))):TabsOk (Qdo P g ov):=by
 refine⟨fun t i h=>?_,fun f fn h=>?_⟩
 ·simp only [ti,Qdo,T.get_ofList] at h
  split at h
  ·rename_i x hx
   subst h
   rw [List.getElem?_map,Option.map_eq_some_iff] at hx
   obtain⟨a,ha,hb⟩:=hx
   rw [Kgs] at ha
   obtain⟨_,ha⟩:=ha
   simp only [List.getElem_range] at ha
   rw [ha];exact hb
  ·simp at h
 ·simp only [Qdo,T.get_ofList] at h
  show P.funcs[f]? = some fn
  simpa using h
theorem Qoq {fn:Func} (h:fn.name = "internal/bytealg.IndexByteString"):Extern.find fn=some Extern.BytealgIndexByte.indexByte:=by
 obtain⟨name⟩:=fn
 simp only at h
 subst h
 kernel_rfl
theorem Qqq {fn:Func} (h:fn.name = "internal/abi.NoEscape"):Extern.find fn=some Extern.AbiNoEscape.same:=by
 obtain⟨name⟩:=fn
 simp only at h
 subst h
 kernel_rfl
theorem Qlo (c:Nat) (hc:c<256):∀ (l:List UInt8) (i:Nat),indexByte c l i=if Lib.indexByte l c.toUInt8 = -1 then -1 else Lib.indexByte l c.toUInt8+i
 | [],i=>rfl
 |b::l,i=>by
  have hb:(Nat.beq b.toNat c=true)↔b=c.toUInt8:=by
   rw [Nat.beq_eq,← UInt8.toNat_inj]
   simp [Nat.mod_eq_of_lt hc]
  have hge:=Lib.indexByte_ge l c.toUInt8
  unfold indexByte Lib.indexByte
  by_cases e:b=c.toUInt8
  ·rw [hb.2 e];simp [e]
  ·have:Nat.beq b.toNat c=false:=by
    cases h:Nat.beq b.toNat c with
    |false=>rfl
    |true=>exact absurd (hb.1 h) e
   rw [this]
   simp only [Qlo c hc l (i+1)]
   simp only [beq_iff_eq,e,if_false]
   split
   ·rename_i h;simp
   ·rename_i h
    rw [if_neg (by omega)]
    omega
def Qpj (G:Nat) (fn:Func):Bool :=
 match fn.body with
 |some c=>!(fn.name == "runtime.NumGoroutine")&&Qb6 G c
 |none=>!(fn.name == "runtime.NumGoroutine")&&(Extern.findNext fn).isNone
theorem Qz4 {P:Program} {G N:Nat} {w0:World} (h:P.funcs.toList.all (Qpj G)=true):ProgOk (Qdo P G .lf) N G w0:=by
 have hget:∀ f fn,(Qdo P G .lf).funcs.get f=some fn→Qpj G fn=true:=by
  intro f fn hf
  simp only [Qdo,T.get_ofList] at hf
  exact List.all_eq_true.1 h fn (List.mem_of_getElem? hf)
 refine⟨Qnd _ _ _,rfl,fun f fn hf=>?_,fun f fn c hf hb=>?_,fun f fn args v hf hb he E args' w ha=>?_,fun f g args m v m' hg=>?_⟩
 ·have:=hget f fn hf
  unfold Qpj at this
  split at this<;>(simp only [Kba,Bool.not_eq_true'] at this;exact this.1)
 ·have:=hget f fn hf
  unfold Qpj at this
  rw [hb] at this
  simp only [Kba] at this
  exact this.2
 ·have hg:=hget f fn hf
  unfold Qpj at hg
  rw [hb] at hg
  simp only [Kba,Bool.not_eq_true',Option.isNone_iff_eq_none] at hg
  obtain⟨g1,g2⟩:=hg
  have hfn:(Qdo P G .lf).p.funcs[f]? = some fn:=(Qnd P G .lf).funcs f fn hf
  have hcall:∀ {e:Array Value→Sem Value} {v':Value},Extern.find fn=some e→(e ⟨args'⟩).run (Qdo P G .lf).p w=.ok v' w→(callFunc f ⟨args'⟩).run (Qdo P G .lf).p w=.ok (.value v') w:=by
   intro e v' h1 h2
   have g1':¬ fn.name = "runtime.NumGoroutine" := by simpa using g1
   unfold callFunc
   simp [hfn,g1',hb,g2,h1,h2]
  unfold Qld at he
  split at he
  ·rename_i hn
   split at he<;>first|(simp at he;done)|skip
   split at he<;>first|(simp at he;done)|skip
   rename_i s c _ hc
   simp only [ANext.value.injEq] at he
   subst he
   obtain⟨_,_,rfl,h1,h2⟩:=ha.two
   cases h1
   cases h2
   have hc':c<256:=by simpa [Nat.blt_eq] using hc
   refine⟨_,hcall (Qoq (by simpa using hn)) (Lib.run_indexByteString s _ w),?_⟩
   rw [Qa3,Qlo c hc']
   have:(if Lib.indexByte s.data.toList c.toUInt8 = -1 then -1 else Lib.indexByte s.data.toList c.toUInt8+(0:Nat))=Lib.indexByte s.data.toList (Int.ofNat c).toNat.toUInt8:=by
    show _=Lib.indexByte s.data.toList c.toUInt8
    split
    ·rename_i h;exact h.symm
    ·simp
   rw [this]
   exact .int _ _
  ·split at he<;>first|(simp at he;done)|skip
   rename_i hn
   split at he<;>first|(simp at he;done)|skip
   simp only [ANext.value.injEq] at he
   subst he
   obtain⟨_,rfl,h1⟩:=ha.one
   exact⟨_,hcall (Qqq (by simpa using hn)) rfl,h1⟩
 ·simp [Qdo,T.get_lf] at hg
end Go.Ev

namespace Go.Ev
open Go.RowKit
section
variable (tb:Tabs)
noncomputable def Qh2:Nat→AM→Option AM
 |0,a=>some a
 |n+1,a=>match Qcn tb a with|some b=>Qh2 n b|none=>none
def To (a b:AM):Prop:=∃ n,Qh2 tb n a=some b
def To1 (a b:AM):Prop:=∃ n,Qh2 tb (n+1) a=some b
variable {tb} {a b c:AM}
theorem To.refl (a:AM):To tb a a:=⟨0,rfl⟩
theorem To.step (h:Qcn tb a=some b) (k:To tb b c):To tb a c:=by
 obtain⟨n,k⟩:=k
 exact⟨n+1,by simp only [Qh2,h];exact k⟩
theorem To.one (h:Qcn tb a=some b):To tb a b:=.step h (.refl b)
theorem Qkx:∀ {n k:Nat} {a b c:AM},Qh2 tb n a=some b→Qh2 tb k b=some c→Qh2 tb (n+k) a=some c
 |0,k,a,b,c,h,g=>by
  obtain rfl:=Kai h
  rw [Nat.zero_add];exact g
 |n+1,k,a,b,c,h,g=>by
  rw [Nat.succ_add]
  simp only [Qh2] at h ⊢
  split at h<;>first|(simp at h;done)|skip
  exact Qkx h g
theorem To.trans (h:To tb a b) (k:To tb b c):To tb a c:=by
 obtain⟨n,h⟩:=h
 obtain⟨j,k⟩:=k
 exact⟨_,Qkx h k⟩
theorem To1.to (h:To1 tb a b):To tb a b:=by obtain⟨n,h⟩:=h;exact⟨_,h⟩
theorem To1.trans (h:To1 tb a b) (k:To tb b c):To1 tb a c:=by
 obtain⟨n,h⟩:=h
 obtain⟨j,k⟩:=k
 refine⟨n+j,?_⟩
 rw [show n+j+1=(n+1)+j from by omega]
 exact Qkx h k
theorem To1.step (h:Qcn tb a=some b) (k:To tb b c):To1 tb a c:=by
 obtain⟨n,k⟩:=k
 exact⟨n,by simp only [Qh2,h];exact k⟩
theorem To1.congr {a2:AM} (e:Qcn tb a=Qcn tb a2) (h:To1 tb a2 b):To1 tb a b:=by
 obtain⟨n,h⟩:=h
 refine⟨n,?_⟩
 simp only [Qh2] at h ⊢
 rw [e];exact h
theorem To.ok {N G:Nat} {w0:World} {base:List Frame} (pk:ProgOk tb N G w0) (h:To tb a b):∀ {fr':Frame} {cs':List Frame} {w:World} {E:Env} {lo:Nat},StR tb N G w0 base a fr' cs' w E lo→Qb3 tb N G w0 base b (lone fr' cs' w):=by
 obtain⟨n,h⟩:=h
 induction n generalizing a with
 |zero =>
  intro fr' cs' w E lo S
  obtain rfl:=Kai h
  exact⟨_,_,_,_,_,.refl _ _,S⟩
 |succ n ih =>
  intro fr' cs' w E lo S
  simp only [Qh2] at h
  split at h<;>first|(simp at h;done)|skip
  rename_i q hq
  obtain⟨fr2,cs2,w2,E2,lo2,h1,S2⟩:=Qvh pk S hq
  obtain⟨fr3,cs3,w3,E3,lo3,h3,S3⟩:=ih h S2
  exact⟨fr3,cs3,w3,E3,lo3,h1.trans h3,S3⟩
end
inductive OutA where
 |ret (v:Value)
 |pan (ch:List PanicEntry)
section
variable (tb:Tabs)
def Leav (f:FuncId) (fr:AFrame) (m:Mem):OutA→Prop
 | .ret v=>fr.defers=[]∧fr.mode=.returning∧fr.kind=.normal∧fr.fn=f∧∃ fd,tb.funcs.get f=some fd∧Qcp tb fd fr.tmps m=some v
 | .pan ch=>fr.defers=[]∧fr.mode=.panicking ch
def Qaw (f:FuncId) (args:List Value) (m:Mem) (R:OutA→Mem→Prop):Prop :=
 ∃ g,Qf2 tb f args .normal=some g∧∀ cs,∃ out m' fr,R out m'∧To tb ⟨g,cs,m⟩ ⟨fr,cs,m'⟩∧Leav tb f fr m' out
variable {tb}
theorem Qaw.mono {f:FuncId} {args:List Value} {m:Mem} {R R':OutA→Mem→Prop} (h:Qaw tb f args m R) (k:∀ o m',R o m'→R' o m'):Qaw tb f args m R':=by
 obtain⟨g,h1,h2⟩:=h
 exact⟨g,h1,fun cs=>by obtain⟨o,m',fr,a,b⟩:=h2 cs;exact⟨o,m',fr,k _ _ a,b⟩⟩
theorem leav_ret {f:FuncId} {fr c:AFrame} {cs:List AFrame} {m:Mem} {v:Value} {c1:AFrame} (h:Leav tb f fr m (.ret v)) (hf:Qbn tb c v m=some c1):Qcn tb ⟨fr,c::cs,m⟩=some ⟨c1,cs,m⟩:=by
 obtain⟨fn,t,nt,todo,ds,mode,kind,ro⟩:=fr
 obtain⟨h1,h2,h3,h4,fd,h5,h6⟩:=h
 simp only at h1 h2 h3 h4 h6
 subst h1;subst h2;subst h3;subst h4
 simp only [Qcn,Qdi,Qhf,Qjh,h5,h6,hf,am]
theorem leav_pan {f:FuncId} {fr c:AFrame} {cs:List AFrame} {m:Mem} {ch:List PanicEntry} (h:Leav tb f fr m (.pan ch)):Qcn tb ⟨fr,c::cs,m⟩=some ⟨Qj3 c ch,cs,m⟩:=by
 obtain⟨fn,t,nt,todo,ds,mode,kind,ro⟩:=fr
 obtain⟨h1,h2⟩:=h
 simp only at h1 h2
 subst h1;subst h2
 simp only [Qcn,Qdi,Qhf]
theorem Qoc {N G:Nat} {w0:World} {E:Env} {m:Mem} {w:World} (pk:ProgOk tb N G w0) {f:FuncId} {args args':List Value} {R:Value→Mem→Prop} (HM:MR tb.p N w0 E m w) (HG:Qhc G E) (ha:VRs E args args')
  (h:Qaw tb f args m fun out m'=>∃ v,out=.ret v∧R v m') :
  Calls tb.p f ⟨args'⟩ w fun e w'=>∃ v v' E' m',R v m'∧e=.returned v'∧VR E' v v'∧MR tb.p N w0 E' m' w':=by
 intro cs
 obtain⟨g,hg,h⟩:=h
 obtain⟨out,m',fr,⟨v,rfl,hR⟩,hto,hl⟩:=h []
 have S:StR tb N G w0 cs ⟨g,[],m⟩ (Frame.enter tb.p f ⟨args'⟩ .normal) cs w E m.next:=⟨HM,HG,FR.enter pk hg ha (.inl rfl),.nil _,Knr _⟩
 obtain⟨fr2,cs2,w2,E2,lo2,hs,S2⟩:=hto.ok pk S
 obtain⟨h1,h2,h3,h4,fd,h5,h6⟩:=hl
 have hC:=S2.callers
 cases hC
 have hT:=S2.top
 obtain⟨fn,t,nt,todo,ds,mode,kind,ro⟩:=fr
 simp only at h1 h2 h3 h4 h6 hT
 subst h1;subst h2;subst h3;subst h4
 cases hT with
 | @ret _ _ _ _ _ _ _ tm k' ds' ro' hf hts hd hrr hk =>
 cases hd
 obtain⟨v',hrun,hvr⟩:=Qk2 pk.tabs S2.mem hts h6
 exact⟨.returned v',w2,_,⟨v,v',E2,m',hR,rfl,hvr,S2.mem⟩,hs,rfl,rfl,rfl,rfl,fd,pk.tabs.funcs _ _ h5,hrun⟩
end
def Qb7 (l:List Value) (t:T Value):Prop:=∀ x,ev t (.tmp x)=l.getD x undef
noncomputable def evL (l:List Value) (x:Operand):Value:=ev (T.ofList l) x
theorem Qa7 (l:List Value):Qb7 l (T.ofList l):=fun x=>by
 simp only [ev,T.get_ofList,List.getD_eq_getElem?_getD]
 cases l[x]? <;> rfl
theorem Qb7.ev {l:List Value} {t:T Value} (h:Qb7 l t) (x:Operand):ev t x=evL l x:=by
 unfold evL
 cases x with
 |tmp i=>rw [h i,Qa7 l i]
 |_=>rfl
theorem Qb7.opA {tb:Tabs} {l:List Value} {t:T Value} (h:Qb7 l t) (o:Op) (m:Mem):opA o tb t m=opA o tb (T.ofList l) m :=
 Qic (fun x _=>h.ev x) m
def Qbu (d:Option Tmp) (v:Value) (l:List Value):List Value:=match d with|some d=>l.set d v|none=>l
theorem Qe2 {d:Option Tmp} {v:Value} {l:List Value}:(Qbu d v l).length=l.length:=by cases d<;>simp [Qbu]
def dstOk (d:Option Tmp) (l:List Value):Prop:=∀ x,d=some x→x<l.length
theorem Qb7.put {l:List Value} {t:T Value} (h:Qb7 l t) {d:Option Tmp} {v:Value} (hd:dstOk d l):∃ t',putT t l.length d v=some t'∧Qb7 (Qbu d v l) t':=by
 cases d with
 |none=>exact⟨t,rfl,h⟩
 |some d =>
  have hlt:=hd d rfl
  refine⟨t.set d v,?_,fun x=>?_⟩
  ·unfold putT
   have:Nat.blt d l.length=true:=by simpa [Nat.blt_eq] using hlt
   simp only [this]
   cases t.set d v<;>rfl
  ·rw [Qv6]
   simp only [Qbu,List.getD_eq_getElem?_getD,List.getElem?_set]
   by_cases e:x=d
   ·subst e;simp [hlt]
   ·rw [if_neg e,if_neg (fun h=>e h.symm)]
    have:=h x
    rw [List.getD_eq_getElem?_getD] at this
    exact this
noncomputable def Qfp (l:List Value) (ops:Array Oper) (g:Option (Nat × Bool)):Bool:=Qbh (T.ofList l) ops g
theorem Qb7.wanted {l:List Value} {t:T Value} (h:Qb7 l t) (ops:Array Oper) (g:Option (Nat × Bool)):Qbh t ops g=Qfp l ops g:=by
 cases g with
 |none=>rfl
 |some g =>
  obtain⟨j,w⟩:=g
  have:∀ t',Qb7 l t'→(Qbh t' ops (some (j,w))=true↔∃ oj d,ops.toList[j]? = some oj∧oj.dst=some d∧l.getD d undef=.bool w):=fun t' h'=>by
   rw [Qfq]
   simp only [h' _]
  have e:=(this t h).trans (this _ (Qa7 l)).symm
  unfold Qfp
  cases h1:Qbh t ops (some (j,w))<;>cases h2:Qbh (T.ofList l) ops (some (j,w))<;>simp_all
structure FC where
 fn:FuncId
 kind:CallKind
 ro:Option Nat
def mkF (F:FC) (t:T Value) (nt:Nat) (k:List AItem) (ds:List Deferred):AFrame:=⟨F.fn,t,nt,k,ds,.run,F.kind,F.ro⟩
inductive ExA where
 |normal
 |jump (c:Code)
 |pan (ch:List PanicEntry)
def isJump:Code→Bool
 | .ret=>true
 | .exit _=>true
 | .goto _=>true
 |_=>false
def Qv2:Code→List AItem→Option (List AItem)
 | .exit id,k=>Qfb id k
 | .goto l,k=>Qgn l k
 |_,_=>none
def Aft (F:FC) (t:T Value) (nt:Nat) (k:List AItem) (ds:List Deferred) (cs:List AFrame) (m:Mem):ExA→AM→Prop
 | .normal,b=>b=⟨mkF F t nt k ds,cs,m⟩
 | .jump c,b=>∃ k',b=⟨mkF F t nt (.code c::k') ds,cs,m⟩∧Qv2 c k'=Qv2 c k∧isJump c=true
 | .pan ch,b=>∃ k',b=⟨⟨F.fn,t,nt,k',ds,.panicking ch,F.kind,F.ro⟩,cs,m⟩∧(ds=[]∨isDr k'=false)
abbrev Qda:=ExA→List Value→List Deferred→Mem→Prop
def wpC (tb:Tabs) (F:FC) (c:Code) (l:List Value) (ds:List Deferred) (m:Mem) (Q:Qda):Prop :=
 ∀ t k cs,Qb7 l t→∃ e l' t' ds' m' b,Qb7 l' t'∧l'.length=l.length∧Q e l' ds' m'∧Aft F t' l.length k ds' cs m' e b∧To tb ⟨mkF F t l.length (.code c::k) ds,cs,m⟩ b
def Qhx (N:List Value→List Deferred→Mem→Prop) (Q:Qda):Qda
 | .normal,l,ds,m=>N l ds m
 |e,l,ds,m=>Q e l ds m
def Qpr (id:Nat) (Q:Qda):Qda
 | .jump (.exit i),l,ds,m=>if i=id then Q .normal l ds m else Q (.jump (.exit i)) l ds m
 |e,l,ds,m=>Q e l ds m
section
variable {tb:Tabs} {F:FC} {l:List Value} {ds:List Deferred} {m:Mem} {Q Q':Qda} {a b:Code}
theorem wpC.mono {c:Code} (h:wpC tb F c l ds m Q) (k:∀ e l' ds' m',Q e l' ds' m'→Q' e l' ds' m'):wpC tb F c l ds m Q':=fun t kk cs ht=>by
 obtain⟨e,l',t',ds',m',b,h1,h2,h3,h4⟩:=h t kk cs ht
 exact⟨e,l',t',ds',m',b,h1,h2,k _ _ _ _ h3,h4⟩
theorem wp_skip (h:Q .normal l ds m):wpC tb F .skip l ds m Q:=fun t k cs ht=>⟨.normal,l,t,ds,m,_,ht,rfl,h,rfl,.one rfl⟩
theorem wp_label {i:Nat} (h:Q .normal l ds m):wpC tb F (.label i) l ds m Q:=fun t k cs ht=>⟨.normal,l,t,ds,m,_,ht,rfl,h,rfl,.one rfl⟩
theorem wp_ret (h:Q (.jump .ret) l ds m):wpC tb F .ret l ds m Q:=fun t k cs ht=>⟨.jump .ret,l,t,ds,m,_,ht,rfl,h,⟨k,rfl,rfl,rfl⟩,.refl _⟩
theorem wp_exit {i:Nat} (h:Q (.jump (.exit i)) l ds m):wpC tb F (.exit i) l ds m Q:=fun t k cs ht=>⟨_,l,t,ds,m,_,ht,rfl,h,⟨k,rfl,rfl,rfl⟩,.refl _⟩
theorem wp_seq (h:wpC tb F a l ds m (Qhx (fun l ds m=>wpC tb F b l ds m Q) Q)):wpC tb F (.seq a b) l ds m Q:=fun t k cs ht=>by
 obtain⟨e,l1,t1,ds1,m1,b1,h1,h2,h3,h4,h5⟩:=h t (.code b::k) cs ht
 have hst:To tb ⟨mkF F t l.length (.code (.seq a b)::k) ds,cs,m⟩ b1:=.step rfl h5
 cases e with
 |normal =>
  obtain rfl:=h4
  obtain⟨e,l2,t2,ds2,m2,b2,g1,g2,g3,g4,g5⟩:=h3 t1 k cs h1
  rw [h2] at g2 g4 g5
  exact⟨e,l2,t2,ds2,m2,b2,g1,g2,g3,g4,hst.trans g5⟩
 |jump c =>
  obtain⟨k',rfl,hk,hj⟩:=h4
  exact⟨.jump c,l1,t1,ds1,m1,_,h1,h2,h3,⟨k',rfl,hk.trans (by cases c<;>rfl),hj⟩,hst⟩
 |pan ch=>exact⟨.pan ch,l1,t1,ds1,m1,b1,h1,h2,h3,h4,hst⟩
theorem wp_cond {c:Operand} {v:Bool} (hc:evL l c=.bool v) (h:wpC tb F (match v with|true=>a|false=>b) l ds m Q):wpC tb F (.cond c a b) l ds m Q:=fun t k cs ht=>by
 obtain⟨e,l1,t1,ds1,m1,b1,h1,h2,h3,h4,h5⟩:=h t k cs ht
 refine⟨e,l1,t1,ds1,m1,b1,h1,h2,h3,h4,.step ?_ h5⟩
 have:=ht.ev c
 rw [hc] at this
 simp only [Qcn,Qdi,mkF,Qco,Qhn,Qn8,this,condA,mkA]
 cases v<;>rfl
theorem wp_block {id:Nat} (h:wpC tb F b l ds m (Qpr id Q)):wpC tb F (.block id b) l ds m Q:=fun t k cs ht=>by
 obtain⟨e,l1,t1,ds1,m1,b1,h1,h2,h3,h4,h5⟩:=h t (.inBlock id::k) cs ht
 have hst:To tb ⟨mkF F t l.length (.code (.block id b)::k) ds,cs,m⟩ b1:=.step rfl h5
 cases e with
 |normal =>
  obtain rfl:=h4
  exact⟨.normal,l1,t1,ds1,m1,_,h1,h2,h3,rfl,hst.trans (.one rfl)⟩
 |pan ch=>exact⟨.pan ch,l1,t1,ds1,m1,b1,h1,h2,h3,h4,hst⟩
 |jump c =>
  obtain⟨k',rfl,hk,hj⟩:=h4
  by_cases hc:∃ i,c=.exit i
  ·obtain⟨i,rfl⟩:=hc
   simp only [Qpr] at h3
   by_cases hi:i=id
   ·subst hi
    rw [if_pos rfl] at h3
    refine⟨.normal,l1,t1,ds1,m1,_,h1,h2,h3,rfl,hst.trans (.one ?_)⟩
    simp only [Qv2,Qfb,Nat.beq_refl] at hk
    simp only [Qcn,Qdi,mkF,Qco,Qhn,Qn8,hk,Jaw,mkA]
   ·rw [if_neg hi] at h3
    refine⟨_,l1,t1,ds1,m1,_,h1,h2,h3,⟨k',rfl,hk.trans ?_,rfl⟩,hst⟩
    simp only [Qv2,Qfb]
    rw [beqF (fun e=>hi e.symm)]
  ·have h3':Q (.jump c) l1 ds1 m1:=by
    cases c<;>first|exact h3|exact absurd ⟨_,rfl⟩ hc
   exact⟨.jump c,l1,t1,ds1,m1,_,h1,h2,h3',⟨k',rfl,hk.trans (by cases c<;>first|rfl|exact absurd ⟨_,rfl⟩ hc),hj⟩,hst⟩
theorem wp_loop (h:wpC tb F b l ds m (Qhx (fun l ds m=>wpC tb F (.loop b) l ds m Q) Q)):wpC tb F (.loop b) l ds m Q:=fun t k cs ht=>by
 obtain⟨e,l1,t1,ds1,m1,b1,h1,h2,h3,h4,h5⟩:=h t (.inLoop b::k) cs ht
 have hst:To tb ⟨mkF F t l.length (.code (.loop b)::k) ds,cs,m⟩ b1:=.step rfl h5
 cases e with
 |normal =>
  obtain rfl:=h4
  obtain⟨e,l2,t2,ds2,m2,b2,g1,g2,g3,g4,n,g5⟩:=h3 t1 k cs h1
  rw [h2] at g2 g4 g5
  cases n with
  |zero =>
   obtain rfl:=Kai g5
   exfalso
   cases e with
   |normal =>
    have:=congrArg (fun x=>x.fr.todo.length) g4
    simp [mkF] at this
   |jump c =>
    obtain⟨k',hk',_,hj⟩:=g4
    have:=congrArg (fun x=>x.fr.todo.head?) hk'
    simp [mkF] at this
    subst this
    simp [isJump] at hj
   |pan ch =>
    obtain⟨k',hk',_⟩:=g4
    have:=congrArg (fun x=>x.fr.mode) hk'
    simp [mkF] at this
  |succ n =>
   refine⟨e,l2,t2,ds2,m2,b2,g1,g2,g3,g4,hst.trans ⟨n+1,?_⟩⟩
   exact g5
 |jump c =>
  obtain⟨k',rfl,hk,hj⟩:=h4
  exact⟨.jump c,l1,t1,ds1,m1,_,h1,h2,h3,⟨k',rfl,hk.trans (by cases c<;>rfl),hj⟩,hst⟩
 |pan ch=>exact⟨.pan ch,l1,t1,ds1,m1,b1,h1,h2,h3,h4,hst⟩
end
end Go.Ev

namespace Go.Ev
open Go.RowKit
def dstB (d:Option Tmp) (n:Nat):Bool:=match d with|none=>true|some d=>Nat.blt d n
theorem Qqy {d:Option Tmp} {l:List Value} (h:dstB d l.length=true):dstOk d l:=by
 intro x e
 subst e
 simpa [dstB,Nat.blt_eq] using h
noncomputable def evsL (l:List Value) (x:List Operand):List Value:=evs (T.ofList l) x
theorem Qb7.evs {l:List Value} {t:T Value} (h:Qb7 l t) (x:List Operand):evs t x=evsL l x:=Qha fun y _=>h.ev y
theorem Qb7.deferOf {l:List Value} {t:T Value} (h:Qb7 l t) (c:Call) (ty:TypeId):deferOf t c ty=deferOf (T.ofList l) c ty:=by
 unfold Go.Ev.deferOf
 cases c.callee with
 |value f=>simp only [h.ev f,h.evs,evL,evsL]
 |_=>rfl
section
variable (tb:Tabs)
def AnsA (g:AFrame) (m:Mem) (R:OutA→Mem→Prop):Prop :=
 ∀ c cs,∃ out m',R out m'∧match out with
   | .ret v=>∀ c1,Qbn tb c v m'=some c1→To tb ⟨g,c::cs,m⟩ ⟨c1,cs,m'⟩
   | .pan ch=>To tb ⟨g,c::cs,m⟩ ⟨Qj3 c ch,cs,m'⟩
variable {tb}
theorem Qaw.ans {f:FuncId} {args:List Value} {m:Mem} {R:OutA→Mem→Prop} (h:Qaw tb f args m R):∃ g,Qf2 tb f args .normal=some g∧AnsA tb g m R:=by
 obtain⟨g,h1,h2⟩:=h
 refine⟨g,h1,fun c cs=>?_⟩
 obtain⟨out,m',fr,a,b,d⟩:=h2 (c::cs)
 refine⟨out,m',a,?_⟩
 cases out with
 |ret v=>exact fun c1 hf=>b.trans (.one (leav_ret d hf))
 |pan ch=>exact b.trans (.one (leav_pan d))
variable (tb)
noncomputable def Qqc (l:Nat) (args:List Value) (m:Mem):Option AFrame :=
 match m.objs.get l with
 |some (.loop _ _ fn tmps nt ps a b _) =>
  match Qb6 tb.g a&&Qb6 tb.g b&&(tb.funcs.get fn).isSome with
  |false=>none
  |true=>match Qfz nt ps args tmps with
   |some t=>some ⟨fn,t,nt,[.code a,.beginRound,.code b],[],.run,.normal,some l⟩
   |none=>none
 |_=>none
theorem Qzq (l:Nat) (args:List Value) (fr:AFrame) (cs:List AFrame) (m:Mem):Qvr tb l args fr cs m=match Qqc tb l args m with|some g=>some ⟨g,fr::cs,m⟩|none=>none:=by
 unfold Qvr Qqc
 cases m.objs.get l with
 |none=>rfl
 |some o =>
  cases o with
  |loop st pe fn tmps nt ps a b ds =>
   simp only
   cases Qb6 tb.g a&&Qb6 tb.g b&&(tb.funcs.get fn).isSome with
   |false=>rfl
   |true=>cases Qfz nt ps args tmps<;>rfl
  |_=>rfl
def Qrg (l:Nat) (args:List Value) (m:Mem) (R:OutA→Mem→Prop):Prop:=∃ g,Qqc tb l args m=some g∧AnsA tb g m R
def Qey (n:ANext) (ds:List Deferred) (m:Mem) (K:Value→List Deferred→Mem→Prop) (PK:List PanicEntry→Mem→Prop):Prop :=
 match n with
 | .enter f args=>Qaw tb f args m fun out m'=>match out with | .ret v=>K v ds m' | .pan ch=>PK ch m'
 | .round l args=>Qrg tb l args m fun out m'=>match out with | .ret v=>K v ds m' | .pan ch=>PK ch m'
 | .value v=>K v ds m
 | .over v m'=>K v ds m'
 | .bad=>False
def Qnm:Value→Bool
 | .iface _ _=>true
 |_=>false
def Qeu (F:FC) (o:Oper) (l:List Value) (ds:List Deferred) (m:Mem) (K:Value→List Deferred→Mem→Prop) (PK:List PanicEntry→Mem→Prop):Prop :=
 match o.op with
 | .call c=>match c.callee with
   | .value f=>Qey tb (Qaz tb (evL l f) (evsL l c.args.toList) m) ds m K PK
   | .builtin b=>match b with
     | .recover=>F.ro=none∧F.kind=.normal∧K .nilIface ds m
     |_=>False
   | .invoke _ _=>False
 | .defer c=>F.ro=none∧∃ d,deferOf (T.ofList l) c o.type=some d∧K undef (d::ds) m
 | .panic x=>Qnm (evL l x)=true∧PK [{ v:=evL l x,recovered:=false }] m
 |_=>False
def Qks (F:FC) (ops:Array Oper) (Q:Qda):List Oper→List Value→List Deferred→Mem→Prop
 | [],l,ds,m=>Q .normal l ds m
 |o::os,l,ds,m=>dstB o.dst l.length=true ∧
  match Qfp l ops o.guard with
  |false=>Qks F ops Q os (Qbu o.dst undef l) ds m
  |true=>match opA o.op tb (T.ofList l) m with
   | .r v=>Qks F ops Q os (Qbu o.dst v l) ds m
   | .f ob mk=>Qks F ops Q os (Qbu o.dst (mk m.next) l) ds (Qah m ob)
   | .e v m'=>Qks F ops Q os (Qbu o.dst v l) ds m'
   | .c=>Qeu tb F o l ds m (fun v ds m=>Qks F ops Q os (Qbu o.dst v l) ds m) (fun ch m=>Q (.pan ch) l ds m)
   | .bad=>False
variable {tb}
variable {F:FC} {ops:Array Oper} {Q:Qda}
def Qe8 (tb:Tabs) (F:FC) (Q:Qda) (n:Nat) (k:List AItem) (cs:List AFrame) (a:AM):Prop :=
 ∃ e l' t' ds' m' b,Qb7 l' t'∧l'.length=n∧Q e l' ds' m'∧Aft F t' n k ds' cs m' e b∧To1 tb a b
theorem Qe8.congr {n:Nat} {k:List AItem} {cs:List AFrame} {a a2:AM} (e:Qcn tb a=Qcn tb a2) (h:Qe8 tb F Q n k cs a2):Qe8 tb F Q n k cs a:=by
 obtain⟨e1,l',t',ds',m',b,h1,h2,h3,h4,h5⟩:=h
 exact⟨e1,l',t',ds',m',b,h1,h2,h3,h4,h5.congr e⟩
theorem Qe8.after {n:Nat} {k:List AItem} {cs:List AFrame} {a a2:AM} (e:To1 tb a a2) (h:Qe8 tb F Q n k cs a2):Qe8 tb F Q n k cs a:=by
 obtain⟨e1,l',t',ds',m',b,h1,h2,h3,h4,h5⟩:=h
 exact⟨e1,l',t',ds',m',b,h1,h2,h3,h4,e.trans h5.to⟩
theorem Qui {n:ANext} {ds:List Deferred} {m:Mem} {nt:Nat} {k:List AItem} {cs:List AFrame} {l:List Value} {t:T Value} (hl:l.length=nt) (ht:Qb7 l t) {K:Value→List Deferred→Mem→Prop} {PK:List PanicEntry→Mem→Prop} {kk:List AItem}
  (hp:∀ ch m',PK ch m'→(ds=[]∨isDr kk=false)∧Q (.pan ch) l ds m') (h:Qey tb n ds m K PK) (hfin:∀ v m',K v ds m'→∃ c1,Qbn tb (mkF F t nt kk ds) v m'=some c1∧Qe8 tb F Q nt k cs ⟨c1,cs,m'⟩) {a:AM} (hst:∀ b,goA tb n (mkF F t nt kk ds) cs m=some b→Qcn tb a=some b) :
  Qe8 tb F Q nt k cs a:=by
 have key:∀ g R,(∀ b,some (⟨g,mkF F t nt kk ds::cs,m⟩:AM)=some b→Qcn tb a=some b)→AnsA tb g m R→(∀ v m',R (.ret v) m'→K v ds m')→(∀ ch m',R (.pan ch) m'→PK ch m')→Qe8 tb F Q nt k cs a:=by
  intro g R hs hA h1 h2
  obtain⟨out,m',hR,hout⟩:=hA (mkF F t nt kk ds) cs
  have hs1:=hs _ rfl
  cases out with
  |ret v =>
   obtain⟨c1,hf,hg⟩:=hfin v m' (h1 v m' hR)
   exact hg.after (.step hs1 (hout c1 hf))
  |pan ch=>exact⟨.pan ch,l,t,ds,m',_,ht,hl,(hp ch m' (h2 ch m' hR)).2,⟨kk,rfl,(hp ch m' (h2 ch m' hR)).1⟩,.step hs1 hout⟩
 cases n with
 |bad=>exact h.elim
 |enter f args =>
  obtain⟨g,hg,hA⟩:=Qaw.ans h
  exact key g _ (fun b hb=>hst b (by simp only [goA,hg];exact hb)) hA (fun v m' h=>h) (fun ch m' h=>h)
 |round lp args =>
  obtain⟨g,hg,hA⟩:=h
  exact key g _ (fun b hb=>hst b (by simp only [goA,Qzq,hg];exact hb)) hA (fun v m' h=>h) (fun ch m' h=>h)
 |value v =>
  obtain⟨c1,hf,hg⟩:=hfin v m h
  exact hg.after (.step (hst _ (by simp only [goA,am,hf])) (.refl _))
 |over v m' =>
  obtain⟨c1,hf,hg⟩:=hfin v m' h
  exact hg.after (.step (hst _ (by simp only [goA,am,hf])) (.refl _))
theorem Ql7:∀ (os:List Oper) (l:List Value) (ds:List Deferred) (m:Mem) (t:T Value) (k:List AItem) (cs:List AFrame),Qb7 l t→Qks tb F ops Q os l ds m →
  Qe8 tb F Q l.length k cs ⟨mkF F t l.length (.ops ops os::k) ds,cs,m⟩
 | [],l,ds,m,t,k,cs,ht,h=>⟨.normal,l,t,ds,m,_,ht,rfl,h,rfl,.step rfl (.refl _)⟩
 |o::os,l,ds,m,t,k,cs,ht,h=>by
  obtain⟨hd,h⟩:=h
  have hw:=ht.wanted ops o.guard
  have hput:∀ v,∃ t',putT t l.length o.dst v=some t'∧Qb7 (Qbu o.dst v l) t':=fun v=>ht.put (Qqy hd)
  have go:∀ v m',Qks tb F ops Q os (Qbu o.dst v l) ds m'→(∀ t',putT t l.length o.dst v=some t'→Qcn tb ⟨mkF F t l.length (.ops ops (o::os)::k) ds,cs,m⟩=Qcn tb ⟨mkF F t' l.length (.ops ops os::k) ds,cs,m'⟩) →
    Qe8 tb F Q l.length k cs ⟨mkF F t l.length (.ops ops (o::os)::k) ds,cs,m⟩:=by
   intro v m' h1 h2
   obtain⟨t',p1,p2⟩:=hput v
   have ih:=Ql7 os (Qbu o.dst v l) ds m' t' k cs p2 h1
   rw [Qe2] at ih
   exact ih.congr (h2 t' p1)
  split at h
  ·rename_i hf
   refine go undef m h fun t' p=>?_
   simp only [Qcn,Qdi,mkF,Qco,Qhn,Qhl,opsA,Qg4,Qhk,hw.trans hf,Qj4,p]
  ·rename_i hf
   have hop:=ht.opA (tb:=tb) o.op m
   split at h
   ·rename_i v ho
    refine go v m h fun t' p=>?_
    simp only [Qcn,Qdi,mkF,Qco,Qhn,Qhl,opsA,Qg4,Qhk,hw.trans hf,hop.trans ho,opsK,Qj4,p]
   ·rename_i ob mk ho
    refine go (mk m.next) (Qah m ob) h fun t' p=>?_
    simp only [Qcn,Qdi,mkF,Qco,Qhn,Qhl,opsA,Qg4,Qhk,hw.trans hf,hop.trans ho,opsK,Qj4,p]
   ·rename_i v m' ho
    refine go v m' h fun t' p=>?_
    simp only [Qcn,Qdi,mkF,Qco,Qhn,Qhl,opsA,Qg4,Qhk,hw.trans hf,hop.trans ho,opsK,Qj4,p]
   ·rename_i ho
    have hstop:Qcn tb ⟨mkF F t l.length (.ops ops (o::os)::k) ds,cs,m⟩=Qe7 tb o (mkF F t l.length (.ops ops (o::os)::k) ds) cs m:=by
     simp only [Qcn,Qdi,mkF,Qco,Qhn,Qhl,opsA,Qg4,Qhk,hw.trans hf,hop.trans ho,opsK,frm]
    have hfin:∀ v ds2 m',Qks tb F ops Q os (Qbu o.dst v l) ds2 m'→∃ c1,Qbn tb (mkF F t l.length (.ops ops (o::os)::k) ds2) v m'=some c1∧Qe8 tb F Q l.length k cs ⟨c1,cs,m'⟩:=by
     intro v ds2 m' h1
     obtain⟨t',p1,p2⟩:=hput v
     have ih:=Ql7 os (Qbu o.dst v l) ds2 m' t' k cs p2 h1
     rw [Qe2] at ih
     exact⟨_,by simp only [Qbn,mkF,p1];try rfl,ih⟩
    unfold Qeu at h
    split at h
    ·rename_i c hop2
     split at h
     ·rename_i f hcal
      refine Qui rfl ht (fun _ _ h=>⟨.inr rfl,h⟩) h (fun v m' h1=>hfin v ds m' h1) fun b hb=>?_
      rw [hstop]
      unfold Qe7
      rw [hop2]
      simp only [hcal,mkF] at hb ⊢
      rw [ht.ev f,ht.evs]
      exact hb
     ·rename_i b hcal
      split at h
      ·obtain⟨h1,h2,h3⟩:=h
       obtain⟨c1,q1,q2⟩:=hfin _ _ _ h3
       refine q2.after (.step ?_ (.refl _))
       rw [hstop]
       unfold Qe7
       rw [hop2]
       simp only [hcal,Qhj]
       simp only [mkF,h1,h2] at q1 ⊢
       simp only [am,q1]
      ·exact h.elim
     ·exact h.elim
    ·rename_i c hop2
     obtain⟨h1,d,h2,h3⟩:=h
     obtain⟨c1,q1,q2⟩:=hfin _ _ _ h3
     refine q2.after (.step ?_ (.refl _))
     rw [hstop]
     unfold Qe7
     rw [hop2]
     have hd2:=(ht.deferOf c o.type).trans h2
     simp only [mkF,hd2,Qs2,h1] at q1 ⊢
     simp only [Qkn,am,q1]
    ·rename_i x hop2
     obtain⟨h1,h2⟩:=h
     have hx:=ht.ev x
     generalize hv:evL l x=v at h1 h2 hx
     cases v<;>simp only [Qnm] at h1<;>first|(simp at h1;done)|skip
     rename_i ty v
     refine⟨.pan _,l,t,ds,m,_,ht,rfl,h2,⟨_,rfl,.inr rfl⟩,.step (b:=⟨Qj3 (mkF F t l.length (.ops ops (o::os)::k) ds) [{ v:=.iface ty v,recovered:=false }],cs,m⟩) ?_ (.refl _)⟩
     rw [hstop]
     unfold Qe7
     rw [hop2]
     simp only [mkF,hx]
    ·exact h.elim
   ·exact h.elim
theorem Qyh {id:Nat} {l:List Value} {ds:List Deferred} {m:Mem} (h:Qks tb F ops Q ops.toList l ds m):wpC tb F (.region id ops false) l ds m Q:=fun t k cs ht=>by
 obtain⟨e,l',t',ds',m',b,h1,h2,h3,h4,h5⟩:=Ql7 ops.toList l ds m t k cs ht h
 exact⟨e,l',t',ds',m',b,h1,h2,h3,h4,.step rfl h5.to⟩
noncomputable def resL (fd:Func) (l:List Value) (m:Mem):Option Value:=Qcp tb fd (T.ofList l) m
theorem Qfm {t t':T Value} {m:Mem} (h:∀ x,ev t (.tmp x)=ev t' (.tmp x)):∀ (rs:List ResultVar),resA tb t m rs=resA tb t' m rs
 | []=>rfl
 | .tmp i::rs=>by
   have:=h i
   simp only [ev] at this
   simp only [resA,Qfm h rs,this]
 | .cell a ty::rs=>by
   have:=h a
   simp only [ev] at this
   simp only [resA,Qfm h rs]
   cases h1:t.get a<;>cases h2:t'.get a<;>rw [h1,h2] at this<;>simp only at this
   ·subst this;rfl
   ·subst this;rfl
   ·subst this;rfl
variable (tb)
def bodyA (fd:Func) (R:OutA→Mem→Prop):Qda
 | .normal,l,ds,m=>ds=[]∧∃ v,resL (tb:=tb) fd l m=some v∧R (.ret v) m
 | .jump .ret,l,ds,m=>ds=[]∧∃ v,resL (tb:=tb) fd l m=some v∧R (.ret v) m
 | .pan ch,_,ds,m=>ds=[]∧R (.pan ch) m
 |_,_,_,_=>False
variable {tb}
theorem Qs6 {f:FuncId} {fd:Func} {c:Code} {args:List Value} {m:Mem} {R:OutA→Mem→Prop} (hf:tb.funcs.get f=some fd) (hb:fd.body=some c)
  (h:wpC tb ⟨f,.normal,none⟩ c (args++List.replicate (fd.ntmps-args.length) undef) [] m (bodyA tb fd R)):Qaw tb f args m R:=by
 refine⟨⟨f,T.ofList args,max fd.ntmps args.length,[.code c],[],.run,.normal,none⟩,by simp only [Qf2,hf,hb],fun cs=>?_⟩
 have hs:Qb7 (args++List.replicate (fd.ntmps-args.length) undef) (T.ofList args):=fun x=>by
  rw [Qa7 args x]
  simp only [List.getD_eq_getElem?_getD,List.getElem?_append]
  split
  ·rfl
  ·rename_i hx
   rw [List.getElem?_eq_none (by omega),List.getElem?_replicate]
   split<;>rfl
 have hl:(args++List.replicate (fd.ntmps-args.length) undef).length=max fd.ntmps args.length:=by
  simp only [Kla,List.length_replicate];omega
 obtain⟨e,l',t',ds',m',b,h1,h2,h3,h4,h5⟩:=h (T.ofList args) [] cs hs
 rw [hl] at h5 h4
 have hres:∀ fd,Qcp tb fd t' m'=resL (tb:=tb) fd l' m':=fun fd=>by
  unfold resL Qcp
  rw [Qfm fun x=>(h1.ev (.tmp x)).trans ((Qa7 l').ev (.tmp x)).symm]
 cases e with
 |normal =>
  obtain rfl:=h4
  obtain⟨rfl,v,hv,hR⟩:=h3
  exact⟨.ret v,m',_,hR,h5.trans (.one rfl),rfl,rfl,rfl,rfl,fd,hf,(hres fd).trans hv⟩
 |jump c =>
  obtain⟨k',rfl,hk,hj⟩:=h4
  cases c<;>first|exact h3.elim|skip
  obtain⟨rfl,v,hv,hR⟩:=h3
  exact⟨.ret v,m',_,hR,h5.trans (.one rfl),rfl,rfl,rfl,rfl,fd,hf,(hres fd).trans hv⟩
 |pan ch =>
  obtain⟨k',rfl,_⟩:=h4
  obtain⟨rfl,hR⟩:=h3
  exact⟨.pan ch,m',_,hR,h5,rfl,rfl⟩
end
end Go.Ev

namespace Go.Ev
open Go.RowKit
section
variable {tb:Tabs} {F:FC} {ops:Array Oper} {Q:Qda}
theorem Jb2 {o:Oper} {ds:List Deferred} {m:Mem} {nt:Nat} {k:List AItem} {cs:List AFrame} {l:List Value} {t:T Value} (hl:l.length=nt) (ht:Qb7 l t) {K:Value→List Deferred→Mem→Prop} {PK:List PanicEntry→Mem→Prop} {kk:List AItem}
  (hp:∀ ch m',PK ch m'→(ds=[]∨isDr kk=false)∧Q (.pan ch) l ds m') (h:Qeu tb F o l ds m K PK) (hfin:∀ v ds2 m',K v ds2 m'→∃ c1,Qbn tb (mkF F t nt kk ds2) v m'=some c1∧Qe8 tb F Q nt k cs ⟨c1,cs,m'⟩) {a:AM}
  (hstop:Qcn tb a=Qe7 tb o (mkF F t nt kk ds) cs m):Qe8 tb F Q nt k cs a:=by
 unfold Qeu at h
 split at h
 ·rename_i c hop2
  split at h
  ·rename_i f hcal
   refine Qui hl ht hp h (fun v m' h1=>hfin v ds m' h1) fun b hb=>?_
   rw [hstop]
   unfold Qe7
   rw [hop2]
   simp only [hcal,mkF] at hb ⊢
   rw [ht.ev f,ht.evs]
   exact hb
  ·rename_i b hcal
   split at h
   ·obtain⟨h1,h2,h3⟩:=h
    obtain⟨c1,q1,q2⟩:=hfin _ _ _ h3
    refine q2.after (.step ?_ (.refl _))
    rw [hstop]
    unfold Qe7
    rw [hop2]
    simp only [hcal,Qhj]
    simp only [mkF,h1,h2] at q1 ⊢
    simp only [am,q1]
   ·exact h.elim
  ·exact h.elim
 ·rename_i c hop2
  obtain⟨h1,d,h2,h3⟩:=h
  obtain⟨c1,q1,q2⟩:=hfin _ _ _ h3
  refine q2.after (.step ?_ (.refl _))
  rw [hstop]
  unfold Qe7
  rw [hop2]
  have hd2:=(ht.deferOf c o.type).trans h2
  simp only [mkF,hd2,Qs2,h1] at q1 ⊢
  simp only [Qkn,am,q1]
 ·rename_i x hop2
  obtain⟨h1,h2⟩:=h
  have hx:=ht.ev x
  generalize hv:evL l x=v at h1 h2 hx
  cases v<;>simp only [Qnm] at h1<;>first|(simp at h1;done)|skip
  rename_i ty v
  refine⟨.pan _,l,t,ds,m,_,ht,hl,(hp _ _ h2).2,⟨_,rfl,(hp _ _ h2).1⟩,.step (b:=⟨Qj3 (mkF F t nt kk ds) [{ v:=.iface ty v,recovered:=false }],cs,m⟩) ?_ (.refl _)⟩
  rw [hstop]
  unfold Qe7
  rw [hop2]
  simp only [mkF,hx]
 ·exact h.elim
end
section
variable (tb:Tabs) (ops:Array Oper)
def Qhq (K:List (Nat × Oper)→List Value→Mem→List Hist→Nat→Prop):List (Nat × Oper)→List Nat→List (Nat × Oper)→List Value→Mem→List Hist→Nat→Prop
 | [],bl,rem,l,m,hist,mask=>K rem.reverse l m hist mask
 |x::xs,bl,rem,l,m,hist,mask =>
  match Qc6 bl x.2.after.toList with
  |true=>Qhq K xs (x.1::bl) (x::rem) l m hist mask
  |false=>Qf4 ops x.2 hist=true∧dstB x.2.dst l.length=true∧match Qfp l ops x.2.guard with
   |false=>∃ mask',Qj9 ops x.2 mask=some mask'∧Qhq K xs bl rem (Qbu x.2.dst undef l) m (⟨x.1,x.2,[],.s,undef⟩::hist) mask'
   |true=>match opA x.2.op tb (T.ofList l) m with
    | .r v=>∃ mask',Qj9 ops x.2 mask=some mask'∧Qhq K xs bl rem (Qbu x.2.dst v l) m (⟨x.1,x.2,evsL l x.2.op.operands.toList,.r,v⟩::hist) mask'
    | .f ob mk=>∃ mask',Qj9 ops x.2 mask=some mask'∧Qhq K xs bl rem (Qbu x.2.dst (mk m.next) l) (Qah m ob) (⟨x.1,x.2,evsL l x.2.op.operands.toList,.f m.next,mk m.next⟩::hist) mask'
    | .e _ _=>Qhq K xs (x.1::bl) (x::rem) l m hist mask
    | .c=>Qhq K xs (x.1::bl) (x::rem) l m hist mask
    | .bad=>False
def CheckP (l:List Value) (m:Mem) (h:Hist):Prop :=
 (match h.o.dst with|none=>True|some d=>evL l (.tmp d)=h.v)∧vEq 100 h.v h.v=true ∧
 match h.k with
 | .s=>Qfp l ops h.o.guard=false
 | .f _=>Qfp l ops h.o.guard=true∧evsL l h.o.op.operands.toList=h.vs∧vEqL h.vs h.vs=true
 | .r=>Qfp l ops h.o.guard=true∧evsL l h.o.op.operands.toList=h.vs∧vEqL h.vs h.vs=true∧(Qln h.o.op=true∨opA h.o.op tb (T.ofList l) m=.r h.v)
def Qiu (l:List Value) (m:Mem) (after:List Edge):List Hist→Prop
 | []=>True
 |h::hs=>(Qct h.i after=true∨CheckP tb ops l m h)∧Qiu l m after hs
variable (F:FC) (Q:Qda)
def wpDr:Nat→List (Nat × Oper)→List Value→List Deferred→Mem→List Hist→Nat→Prop
 |0,_,_,_,_,_,_=>False
 |n+1,rem,l,ds,m,hist,mask=>Qhq tb ops (fun rem l m hist mask =>
   match rem with
   | []=>Q .normal l ds m
   | (i,o)::r=>(Qrd [i] r&&Qf4 ops o hist&&Qfp l ops o.guard)=true∧dstB o.dst l.length=true ∧
     match opA o.op tb (T.ofList l) m with
     | .e v m'=>Qiu tb ops (Qbu o.dst v l) m' o.after.toList hist∧wpDr n r (Qbu o.dst v l) ds m' hist mask
     | .c=>Qeu tb F o l ds m (fun v ds m'=>Qiu tb ops (Qbu o.dst v l) m' o.after.toList hist∧wpDr n r (Qbu o.dst v l) ds m' hist mask) (fun ch m=>ds=[]∧Q (.pan ch) l ds m)
     |_=>False) rem [] [] l m hist mask
variable {tb ops F Q}
theorem Qhy {K:List (Nat × Oper)→List Value→Mem→List Hist→Nat→Prop}:∀ (xs:List (Nat × Oper)) (bl:List Nat) (rem:List (Nat × Oper)) (l:List Value) (t:T Value) (m:Mem) (hist:List Hist) (mask:Nat),Qb7 l t→Qhq tb ops K xs bl rem l m hist mask →
  ∃ t1 l1 m1 rem1 hist1 mask1,Qhv tb ops l.length xs bl rem t m hist mask=.ok t1 m1 rem1 hist1 mask1∧Qb7 l1 t1∧l1.length=l.length∧K rem1 l1 m1 hist1 mask1
 | [],bl,rem,l,t,m,hist,mask,ht,h=>⟨t,l,m,_,hist,mask,rfl,ht,rfl,h⟩
 |x::xs,bl,rem,l,t,m,hist,mask,ht,h=>by
  have hstep:∀ bl rem t m hist mask,Qhv tb ops l.length (x::xs) bl rem t m hist mask=Qja tb ops l.length x xs (Qhv tb ops l.length xs) bl rem t m hist mask:=fun _ _ _ _ _ _=>rfl
  unfold Qhq at h
  split at h
  ·rename_i hb
   obtain⟨t1,l1,m1,rem1,hist1,mask1,p1,p2⟩:=Qhy xs _ _ l t m hist mask ht h
   exact⟨t1,l1,m1,rem1,hist1,mask1,by rw [hstep];simp only [Qja,hb];exact p1,p2⟩
  ·rename_i hb
   obtain⟨hdep,hd,h⟩:=h
   have hw:=ht.wanted ops x.2.guard
   have hop:=ht.opA (tb:=tb) x.2.op m
   have go:∀ {v:Value} {m2:Mem} {hi:Hist},(∃ mask',Qj9 ops x.2 mask=some mask'∧Qhq tb ops K xs bl rem (Qbu x.2.dst v l) m2 (hi::hist) mask') →
     (∀ t' mask',putT t l.length x.2.dst v=some t'→Qj9 ops x.2 mask=some mask'→Qhv tb ops l.length (x::xs) bl rem t m hist mask=Qhv tb ops l.length xs bl rem t' m2 (hi::hist) mask') →
     ∃ t1 l1 m1 rem1 hist1 mask1,Qhv tb ops l.length (x::xs) bl rem t m hist mask=.ok t1 m1 rem1 hist1 mask1∧Qb7 l1 t1∧l1.length=l.length∧K rem1 l1 m1 hist1 mask1:=by
    rintro v m2 hi ⟨mask',hm,h⟩ he
    obtain⟨t',p1,p2⟩:=ht.put (v:=v) (Qqy hd)
    obtain⟨t1,l1,m1,rem1,hist1,mask1,q1,q2,q3,q4⟩:=Qhy xs _ _ _ t' m2 _ mask' p2 h
    rw [Qe2] at q1 q3
    exact⟨t1,l1,m1,rem1,hist1,mask1,(he t' mask' p1 hm).trans q1,q2,q3,q4⟩
   split at h
   ·rename_i hf
    exact go h fun t' mask' p1 p2=>by rw [hstep];simp only [Qja,hb,hdep,hw.trans hf,Qsz,p1,p2]
   ·rename_i hf
    split at h
    ·rename_i v ho
     exact go h fun t' mask' p1 p2=>by rw [hstep];simp only [Qja,hb,hdep,hw.trans hf,hop.trans ho,drK,Qsz,p1,p2,ht.evs]
    ·rename_i ob mk ho
     exact go h fun t' mask' p1 p2=>by rw [hstep];simp only [Qja,hb,hdep,hw.trans hf,hop.trans ho,drK,Qsz,p1,p2,ht.evs]
    ·rename_i ho
     obtain⟨t1,l1,m1,rem1,hist1,mask1,p1,p2⟩:=Qhy xs _ _ l t m hist mask ht h
     exact⟨t1,l1,m1,rem1,hist1,mask1,by rw [hstep];simp only [Qja,hb,hdep,hw.trans hf,hop.trans ho,drK];exact p1,p2⟩
    ·rename_i ho
     obtain⟨t1,l1,m1,rem1,hist1,mask1,p1,p2⟩:=Qhy xs _ _ l t m hist mask ht h
     exact⟨t1,l1,m1,rem1,hist1,mask1,by rw [hstep];simp only [Qja,hb,hdep,hw.trans hf,hop.trans ho,drK];exact p1,p2⟩
    ·exact h.elim
theorem Qji {l:List Value} {t:T Value} {m:Mem} {after:List Edge} (ht:Qb7 l t):∀ {hs:List Hist},Qiu tb ops l m after hs→Qh6 tb ops t m after hs=true
 | [],_=>rfl
 |h::hs,⟨h1,h2⟩=>by
  unfold Qh6
  cases he:Qct h.i after with
  |true=>exact Qji ht h2
  |false =>
   rw [he] at h1
   obtain⟨c1,c2,c3⟩:=h1.resolve_left (by simp)
   have hc:Qoa tb ops t m h=true:=by
    clear h2 h1 he
    obtain⟨i,o,vs,k,v⟩:=h
    have e1:∀ d,o.dst=some d→vEq 100 (ev t (.tmp d)) v=true:=fun d hd=>by
     simp only [hd] at c1
     rw [ht.ev,c1];exact c2
    clear c1
    obtain⟨dst,op,type,pos,aft,guard⟩:=o
    unfold Qoa
    simp only at e1 c2 c3 ⊢
    have e2:(match dst with|none=>true|some d=>vEq 100 (ev t (.tmp d)) v)=true:=by
     cases dst with
     |none=>rfl
     |some d=>exact e1 d rfl
    cases dst<;>simp only at e2 ⊢ <;> (try rw [e2])<;>(try simp only) <;>
    (cases k with
    |s=>simp only at c3 ⊢;rw [ht.wanted,c3];rfl
    |f b =>
     obtain⟨d1,d2,d3⟩:=c3
     simp only [ht.wanted,d1,ht.evs,d2,d3,Bool.and_self]
    |r =>
     obtain⟨d1,d2,d3,d4⟩:=c3
     simp only [ht.wanted,d1,ht.evs,d2,d3,Bool.and_self]
     rcases d4 with d4|d4
     ·simp only [d4]
     ·simp only [ht.opA,d4,c2]
      split<;>rfl)
   rw [hc]
   exact Qji ht h2
theorem Qyj:∀ (n:Nat) (rem:List (Nat × Oper)) (l:List Value) (ds:List Deferred) (m:Mem) (hist:List Hist) (mask:Nat) (t:T Value) (k:List AItem) (cs:List AFrame),Qb7 l t→wpDr tb ops F Q n rem l ds m hist mask →
  Qe8 tb F Q l.length k cs ⟨mkF F t l.length (.dr ops rem hist mask::k) ds,cs,m⟩
 |0,_,_,_,_,_,_,_,_,_,_,h=>h.elim
 |n+1,rem,l,ds,m,hist,mask,t,k,cs,ht,h=>by
  obtain⟨t1,l1,m1,rem1,hist1,mask1,p1,p2,p3,p4⟩:=Qhy rem [] [] l t m hist mask ht h
  have hs:Qcn tb ⟨mkF F t l.length (.dr ops rem hist mask::k) ds,cs,m⟩=Qij tb ops rem1 hist1 mask1 k F.fn t1 l.length ds F.kind F.ro cs m1:=by
   simp only [Qcn,Qdi,mkF,Qco,Qhn,Qwa,p1]
  cases rem1 with
  |nil=>exact⟨.normal,l1,t1,ds,m1,_,p2,p3,p4,rfl,.step (hs.trans rfl) (.refl _)⟩
  |cons x r =>
   obtain⟨i,o⟩:=x
   obtain⟨h1,h2,h3⟩:=p4
   have hw:=p2.wanted ops o.guard
   have hop:=p2.opA (tb:=tb) o.op m1
   rw [← hw] at h1
   have hfin:∀ v ds2 m',Qiu tb ops (Qbu o.dst v l1) m' o.after.toList hist1∧wpDr tb ops F Q n r (Qbu o.dst v l1) ds2 m' hist1 mask1 →
     ∃ c1,Qbn tb (mkF F t1 l.length (.dr ops ((i,o)::r) hist1 mask1::k) ds2) v m'=some c1∧Qe8 tb F Q l.length k cs ⟨c1,cs,m'⟩:=by
    rintro v ds2 m' ⟨g1,g2⟩
    obtain⟨t',q1,q2⟩:=p2.put (v:=v) (Qqy h2)
    have ih:=Qyj n r (Qbu o.dst v l1) ds2 m' hist1 mask1 t' k cs q2 g2
    rw [Qe2,p3] at ih
    rw [p3] at q1
    exact⟨_,by simp only [Qbn,mkF,q1,Qji q2 g1];try rfl,ih⟩
   split at h3
   ·rename_i v m' ho
    obtain⟨c1,q1,q2⟩:=hfin v ds m' h3
    refine q2.after (.step (hs.trans ?_) (.refl _))
    simp only [Qij,h1,hop.trans ho]
    simp only [frm,mkF] at q1 ⊢
    simp only [q1,am]
   ·rename_i ho
    refine Jb2 p3 p2 (fun _ _ h=>⟨.inl h.1,h.2⟩) h3 hfin (hs.trans ?_)
    simp only [Qij,h1,hop.trans ho]
    rfl
   ·exact h3.elim
theorem wp_draw {id:Nat} {l:List Value} {ds:List Deferred} {m:Mem} (n:Nat) (h:wpDr tb ops F Q n ((List.range ops.toList.length).zip ops.toList) l ds m [] 0):wpC tb F (.region id ops true) l ds m Q:=fun t k cs ht=>by
 obtain⟨e,l',t',ds',m',b,h1,h2,h3,h4,h5⟩:=Qyj n _ l ds m [] 0 t k cs ht h
 exact⟨e,l',t',ds',m',b,h1,h2,h3,h4,.step rfl h5.to⟩
end
end Go.Ev

