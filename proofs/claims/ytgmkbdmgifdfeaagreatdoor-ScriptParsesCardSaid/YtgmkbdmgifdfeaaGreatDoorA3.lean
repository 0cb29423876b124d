/- A part of a proof: ScriptParses. -/
import Derived.Laws.Cells
import Derived.Laws.Concat
import Derived.Laws.Strings
import Derived.Tactics
import Derived.Test.YtgmkbdmgifdfeaaGreatDoorA2
set_option linter.unusedVariables false
set_option linter.unusedSimpArgs false
namespace Go.Ev
theorem putT_some {t t':T Value} {nt d:Nat} {v:Value} (h:putT t nt (some d) v=some t'):d<nt∧t'=t.set d v:=by
 unfold putT at h
 simp only at h
 split at h<;>first|(simp at h;done)|skip
 rename_i hb
 refine⟨by simpa [Nat.blt_eq] using hb,?_⟩
 split at h
 ·rename_i he;simp only [Option.some.injEq] at h;rw [he];exact h.symm
 ·rename_i he;simp only [Option.some.injEq] at h;rw [he];exact h.symm
theorem putT_none {t t':T Value} {nt:Nat} {v:Value} (h:putT t nt none v=some t'):t'=t:=by
 unfold putT at h
 simp only [Option.some.injEq] at h;exact h.symm
theorem ev_set (t:T Value) (d:Nat) (v:Value) (x:Nat):ev (t.set d v) (.tmp x)=if x=d then v else ev t (.tmp x):=by
 simp only [ev,T.get_set]
 by_cases h:x=d
 ·rw [if_pos h,if_pos h]
 ·rw [if_neg h,if_neg h]
theorem ev_put {t t':T Value} {nt:Nat} {dst:Option Tmp} {v:Value} (h:putT t nt dst v=some t') (x:Nat):ev t' (.tmp x)=if dst=some x then v else ev t (.tmp x):=by
 cases dst with
 |none=>rw [putT_none h];simp
 |some d =>
  rw [(putT_some h).2,ev_set]
  by_cases e:x=d
  ·subst e;simp
  ·rw [if_neg e,if_neg (by simpa using fun h:d=x=>e h.symm)]
theorem ev_const (t t':T Value):∀ x:Operand,(∀ d,x=.tmp d→ev t (.tmp d)=ev t' (.tmp d))→ev t x=ev t' x
 | .tmp d,h=>h d rfl
 | .const v,_=>rfl
 | .global g,_=>rfl
 | .func f,_=>rfl
def reads (ops:Array Oper) (o:Oper) (d:Nat):Prop:=.tmp d∈o.op.operands.toList∨∃ j wn oj,o.guard=some (j,wn)∧ops.toList[j]? = some oj∧oj.dst=some d
theorem bit_or (k t d:Nat):Nat.testBit (Nat.lor k (Nat.shiftLeft 1 t)) d=true↔Nat.testBit k d=true∨t=d:=by
 show (k ||| (1 <<< t)).testBit d=true↔_
 rw [Nat.testBit_or,Bool.or_eq_true,Nat.one_shiftLeft,Nat.testBit_two_pow]
 simp
theorem maskOp_bit:∀ (l:List Operand) (k d:Nat),Nat.testBit (maskOp l k) d=true↔Nat.testBit k d=true∨Operand.tmp d∈l
 | [],k,d=>by simp [maskOp]
 |x::l,k,d=>by
  cases x with
  |tmp t =>
   simp only [maskOp]
   rw [maskOp_bit l,bit_or]
   constructor
   ·rintro ((h|h)|h)
    ·exact .inl h
    ·subst h;exact .inr (by simp)
    ·exact .inr (List.mem_cons_of_mem _ h)
   ·rintro (h|h)
    ·exact .inl (.inl h)
    ·rcases List.mem_cons.1 h with h|h
     ·injection h with h;exact .inl (.inr h.symm)
     ·exact .inr h
  |const v=>simp only [maskOp];rw [maskOp_bit l];simp
  |global g=>simp only [maskOp];rw [maskOp_bit l];simp
  |func f=>simp only [maskOp];rw [maskOp_bit l];simp
theorem namesA_bit (ops:Array Oper) (o:Oper) (k d:Nat):Nat.testBit (namesA ops o k) d=true↔Nat.testBit k d=true∨reads ops o d:=by
 unfold namesA reads
 cases hg:o.guard with
 |none=>simp only;rw [maskOp_bit];simp
 |some g =>
  obtain⟨j,wn⟩:=g
  simp only
  cases hj:ops.toList[j]? with
  |none =>
   simp only;rw [maskOp_bit]
   constructor
   ·rintro (h|h);exact .inl h;exact .inr (.inl h)
   ·rintro (h|h|⟨j',wn',oj,h1,h2,h3⟩)
    ·exact .inl h
    ·exact .inr h
    ·simp only [Option.some.injEq,Prod.mk.injEq] at h1;obtain⟨rfl,rfl⟩:=h1;rw [hj] at h2;simp at h2
  |some oj =>
   simp only
   cases hd:oj.dst with
   |none =>
    simp only;rw [maskOp_bit]
    constructor
    ·rintro (h|h);exact .inl h;exact .inr (.inl h)
    ·rintro (h|h|⟨j',wn',oj',h1,h2,h3⟩)
     ·exact .inl h
     ·exact .inr h
     ·simp only [Option.some.injEq,Prod.mk.injEq] at h1;obtain⟨rfl,rfl⟩:=h1;rw [hj] at h2;obtain rfl:=Option.some.inj h2;rw [hd] at h3;simp at h3
   |some q =>
    simp only;rw [maskOp_bit,bit_or]
    constructor
    ·rintro ((h|h)|h)
     ·exact .inl h
     ·subst h;exact .inr (.inr ⟨j,wn,oj,rfl,hj,hd⟩)
     ·exact .inr (.inl h)
    ·rintro (h|h|⟨j',wn',oj',h1,h2,h3⟩)
     ·exact .inl (.inl h)
     ·exact .inr h
     ·simp only [Option.some.injEq,Prod.mk.injEq] at h1;obtain⟨rfl,rfl⟩:=h1;rw [hj] at h2;obtain rfl:=Option.some.inj h2;rw [hd] at h3;exact .inl (.inr (Option.some.inj h3))
theorem maskA_some {ops:Array Oper} {o:Oper} {k k':Nat} (h:maskA ops o k=some k') :
  (∀ d,o.dst=some d→Nat.testBit k d=false∧¬ reads ops o d)∧(∀ d,Nat.testBit k d=true→Nat.testBit k' d=true)∧(∀ d,reads ops o d→Nat.testBit k' d=true)∧(∀ d,o.dst=some d→Nat.testBit k' d=true):=by
 unfold maskA at h
 cases hd:o.dst with
 |none =>
  rw [hd] at h
  simp only [Option.some.injEq] at h;subst h
  exact⟨by simp,fun d h=>(namesA_bit _ _ _ _).2 (.inl h),fun d h=>(namesA_bit _ _ _ _).2 (.inr h),by simp⟩
 |some q =>
  rw [hd] at h
  simp only at h
  split at h<;>first|(simp at h;done)|skip
  rename_i hb
  simp only [Option.some.injEq] at h;subst h
  refine⟨?_,fun d h=>(bit_or _ _ _).2 (.inl ((namesA_bit _ _ _ _).2 (.inl h))),fun d h=>(bit_or _ _ _).2 (.inl ((namesA_bit _ _ _ _).2 (.inr h))),?_⟩
  ·intro d he
   obtain rfl:=Option.some.inj he
   refine⟨?_,fun hr=>?_⟩
   ·cases hk:Nat.testBit k q with
    |false=>rfl
    |true=>rw [(namesA_bit ops o k q).2 (.inl hk)] at hb;simp at hb
   ·rw [(namesA_bit ops o k q).2 (.inr hr)] at hb;simp at hb
  ·intro d he
   exact (bit_or _ _ _).2 (.inr (Option.some.inj he))
theorem edgeFrom_some {i:Nat}:∀ {l:List Edge},edgeFrom i l=true→∃ e∈l,e.on=i∧Region.binds .any e=true
 | [],h=>by simp [edgeFrom] at h
 |e::l,h=>by
  simp only [edgeFrom] at h
  split at h
  ·rename_i hb
   split at h
   ·rename_i hq
    exact⟨e,by simp,Nat.eq_of_beq_eq_true hb,hq⟩
   ·obtain⟨e',h1,h2⟩:=edgeFrom_some h;exact⟨e',List.mem_cons_of_mem _ h1,h2⟩
  ·obtain⟨e',h1,h2⟩:=edgeFrom_some h;exact⟨e',List.mem_cons_of_mem _ h1,h2⟩
theorem depsOk_some {ops:Array Oper} {o:Oper}:∀ {l:List Hist},depsOk ops o l=true→∀ h∈l,∀ d,h.o.dst=some d→reads ops o d→edgeFrom h.i o.after.toList=true
 | [],_,_,hm=>by simp at hm
 |g::l,hk,h,hm=>by
  intro d hd hr
  simp only [depsOk] at hk
  rcases List.mem_cons.1 hm with rfl|hm
  ·rw [hd] at hk
   simp only at hk
   rw [(namesA_bit ops o 0 d).2 (.inr hr)] at hk
   simp only at hk
   split at hk
   ·assumption
   ·simp at hk
  ·split at hk
   ·exact depsOk_some hk h hm d hd hr
   ·split at hk
    ·exact depsOk_some hk h hm d hd hr
    ·split at hk
     ·exact depsOk_some hk h hm d hd hr
     ·simp at hk
theorem blockedBy_some {bl:List Nat}:∀ {l:List Edge},blockedBy bl l=true→∃ e∈l,e.on∈bl∧Region.binds .any e=true
 | [],h=>by simp [blockedBy] at h
 |e::l,h=>by
  simp only [blockedBy] at h
  split at h
  ·rename_i hq
   split at h
   ·rename_i hb
    rw [List.any_eq_true] at hb
    obtain⟨y,hy,he⟩:=hb
    have:=Nat.eq_of_beq_eq_true he
    exact⟨e,by simp,by rw [this];exact hy,hq⟩
   ·obtain⟨e',h1,h2⟩:=blockedBy_some h;exact⟨e',List.mem_cons_of_mem _ h1,h2⟩
  ·obtain⟨e',h1,h2⟩:=blockedBy_some h;exact⟨e',List.mem_cons_of_mem _ h1,h2⟩
theorem alone_head {ops:Array Oper} {x:Nat} {sched:List Nat} (hv:Valid ops (x::sched)):∀ {rem:List (Nat × Oper)} {bl:List Nat},alone bl rem=true→(∀ y∈bl,y∈x::sched)→(∀ z∈rem,z.1∈x::sched∧ops.toList[z.1]? = some z.2)→∀ z∈rem,z.1≠x
 | [],bl,_,_,_=>by simp
 | (i,o)::l,bl,h,hbl,hrem=>by
   simp only [alone] at h
   split at h<;>first|(simp at h;done)|skip
   rename_i hb
   obtain⟨hi,ho⟩:=hrem (i,o) (by simp)
   intro z hz
   rcases List.mem_cons.1 hz with rfl|hz
   ·intro e
    simp only at e;subst e
    obtain⟨e,he,h1,h2⟩:=blockedBy_some hb
    exact hv.2.1 o ho e he h2 (hbl _ h1)
   ·exact alone_head hv h (fun y hy=>by
     rcases List.mem_cons.1 hy with rfl|hy
     ·exact hi
     ·exact hbl y hy) (fun z hz=>hrem z (List.mem_cons_of_mem _ hz)) z hz
theorem wantedA_iff {t:T Value} {ops:Array Oper} {j:Nat} {wn:Bool}:wantedA t ops (some (j,wn))=true↔∃ oj d,ops.toList[j]? = some oj∧oj.dst=some d∧ev t (.tmp d)=.bool wn:=by
 unfold wantedA
 simp only
 cases hj:ops.toList[j]? with
 |none=>simp
 |some oj =>
  simp only
  cases hd:oj.dst with
  |none=>simp [hd]
  |some d =>
   simp only
   constructor
   ·intro h
    refine⟨oj,d,rfl,hd,?_⟩
    simp only [ev]
    split at h<;>first|(simp at h;done)|skip
    rename_i b hb
    rw [hb]
    simp only
    split at h<;>first|rfl|(simp at h)
   ·rintro⟨oj',d',h1,h2,h3⟩
    obtain rfl:=Option.some.inj h1
    rw [hd] at h2
    obtain rfl:=Option.some.inj h2
    simp only [ev] at h3
    cases hg:t.get d with
    |none=>rw [hg] at h3;simp [undef] at h3
    |some v =>
     rw [hg] at h3
     simp only at h3
     subst h3
     cases wn<;>rfl
section
variable {tb:Tabs} {ops:Array Oper} {o:Oper} {t t':T Value} (h:∀ d,reads ops o d→ev t (.tmp d)=ev t' (.tmp d))
include h
theorem wantedA_congr:wantedA t ops o.guard=wantedA t' ops o.guard:=by
 cases hg:o.guard with
 |none=>rfl
 |some g =>
  obtain⟨j,wn⟩:=g
  have:wantedA t ops (some (j,wn))=true↔wantedA t' ops (some (j,wn))=true:=by
   rw [wantedA_iff,wantedA_iff]
   constructor
   ·rintro⟨oj,d,h1,h2,h3⟩
    exact⟨oj,d,h1,h2,by rw [← h d (.inr ⟨j,wn,oj,hg,h1,h2⟩)];exact h3⟩
   ·rintro⟨oj,d,h1,h2,h3⟩
    exact⟨oj,d,h1,h2,by rw [h d (.inr ⟨j,wn,oj,hg,h1,h2⟩)];exact h3⟩
  cases h1:wantedA t ops (some (j,wn))<;>cases h2:wantedA t' ops (some (j,wn))<;>simp_all
theorem ops_congr:∀ x∈o.op.operands.toList,ev t x=ev t' x:=fun x hx=>ev_const t t' x fun d e=>h d (.inl (by rw [← e];exact hx))
theorem opA_congr' (m:Mem):opA o.op tb t m=opA o.op tb t' m:=opA_congr (ops_congr h) m
theorem evs_congr':evs t o.op.operands.toList=evs t' o.op.operands.toList:=evs_congr (ops_congr h)
end
end Go.Ev

namespace Go.Ev
open Go.RowKit
section
variable (tb:Tabs) (E:Env) (m:Mem) (lo hi:Nat) (ops:Array Oper) (t:T Value) (nt:Nat)
def HFact (h:Hist):Prop :=
 (∀ d,h.o.dst=some d→ev t (.tmp d)=h.v∧d<nt) ∧
 match h.k with
 | .s=>wantedA t ops h.o.guard=false∧h.v=undef
 | .r=>wantedA t ops h.o.guard=true∧evs t h.o.op.operands.toList=h.vs∧(isPure h.o.op=true→∀ m,opA h.o.op tb t m=.r h.v)
 | .f b=>wantedA t ops h.o.guard=true∧evs t h.o.op.operands.toList=h.vs∧lo≤b∧b<hi∧E b=none∧∃ ob mk,(∀ m,opA h.o.op tb t m=.f ob mk)∧h.v=mk b∧m.objs.get b=some ob
def HNow (h:Hist):Prop :=
 match h.k with
 | .r=>opA h.o.op tb t m=.r h.v
 |_=>True
structure DrI (wait:Bool) (rem:List (Nat × Oper)) (hist:List Hist) (mask:Nat) (sched:List Nat):Prop where
 valid:Valid ops sched
 remOps:∀ x∈rem,ops.toList[x.1]? = some x.2
 remIn:∀ x∈rem,x.1∈sched
 remNd:(rem.map (·.1)).Nodup
 histOps:∀ h∈hist,ops.toList[h.i]? = some h.o
 histNd:(hist.map (·.i)).Nodup
 apart:∀ h∈hist,∀ x∈rem,h.i≠x.1
 all:∀ k∈sched,(∃ x∈rem,x.1=k)∨∃ h∈hist,h.i=k
 fact:∀ h∈hist,h.i∈sched→HFact tb E m lo hi ops t nt h
 now:wait=false→∀ h∈hist,h.i∈sched→HNow tb m t h
 deps:∀ h∈hist,∀ g∈hist,g.i≠h.i→∀ d,g.o.dst=some d→reads ops h.o d→edgeFrom g.i h.o.after.toList=true
 names:∀ h∈hist,(∀ d,reads ops h.o d→Nat.testBit mask d=true)∧∀ d,h.o.dst=some d→Nat.testBit mask d=true
 ids:∀ h∈hist,∀ g∈hist,∀ b,h.k=.f b→g.k=.f b→h.i=g.i
 idlt:∀ h∈hist,∀ b,h.k=.f b→b<hi
 own:∀ h∈hist,∀ d,h.o.dst=some d→¬ reads ops h.o d
end
section
variable {tb:Tabs} {E:Env} {m m':Mem} {lo hi hi':Nat} {ops:Array Oper} {t t':T Value} {nt:Nat}
theorem HFact.step {h:Hist} (H:HFact tb E m lo hi ops t nt h) (hr:∀ d,reads ops h.o d→ev t (.tmp d)=ev t' (.tmp d)) (hd:∀ d,h.o.dst=some d→ev t (.tmp d)=ev t' (.tmp d)) (S:Sub m m') (hh:hi≤hi'):HFact tb E m' lo hi' ops t' nt h:=by
 obtain⟨h1,h2⟩:=H
 refine⟨fun d e=>⟨by rw [← hd d e];exact (h1 d e).1,(h1 d e).2⟩,?_⟩
 cases hk:h.k with
 |s=>rw [hk] at h2;exact⟨by rw [← wantedA_congr hr];exact h2.1,h2.2⟩
 |r =>
  rw [hk] at h2
  exact⟨by rw [← wantedA_congr hr];exact h2.1,by rw [← evs_congr' hr];exact h2.2.1,fun hp m=>by rw [← opA_congr' hr];exact h2.2.2 hp m⟩
 |f b =>
  rw [hk] at h2
  obtain⟨g1,g2,g3,g4,g5,ob,mk,g6,g7,g8⟩:=h2
  exact⟨by rw [← wantedA_congr hr];exact g1,by rw [← evs_congr' hr];exact g2,g3,by omega,g5,ob,mk,fun m=>by rw [← opA_congr' hr];exact g6 m,g7,S _ _ g8⟩
theorem HNow.step {h:Hist} (H:HNow tb m t h) (hr:∀ d,reads ops h.o d→ev t (.tmp d)=ev t' (.tmp d)) (S:Sub m m'):HNow tb m' t' h:=by
 unfold HNow at H ⊢
 cases hk:h.k with
 |r=>rw [hk] at H;simp only at H ⊢;rw [← opA_congr' hr];exact opA_sub S H
 |_=>trivial
theorem DrI.exec {rem rem':List (Nat × Oper)} {hist:List Hist} {mask mask':Nat} {sched:List Nat} {x:Nat × Oper} {v:Value} {k:HK} {vs:List Value} (H:DrI tb E m lo hi ops t nt false rem hist mask sched)
  (hx:x∈rem) (hrem:∀ y∈rem',y∈rem∧y.1≠x.1) (hnd:(rem'.map (·.1)).Nodup) (hall:∀ y∈rem,y=x∨y∈rem') (hp:putT t nt x.2.dst v=some t') (hm:maskA ops x.2 mask=some mask') (hdeps:depsOk ops x.2 hist=true)
  (S:Sub m m') (hh:hi≤hi') (hid:∀ b,k=.f b→hi≤b∧b<hi')
  (hnew:HFact tb E m' lo hi' ops t' nt ⟨x.1,x.2,vs,k,v⟩) (hnow:HNow tb m' t' ⟨x.1,x.2,vs,k,v⟩):DrI tb E m' lo hi' ops t' nt false rem' (⟨x.1,x.2,vs,k,v⟩::hist) mask' sched:=by
 obtain⟨m1,m2,m3,m4⟩:=maskA_some hm
 have hev:∀ d,Nat.testBit mask d=true→ev t (.tmp d)=ev t' (.tmp d):=by
  intro d hd
  rw [ev_put hp,if_neg]
  intro e
  rw [(m1 d e).1] at hd;simp at hd
 have hrd:∀ h∈hist,∀ d,reads ops h.o d→ev t (.tmp d)=ev t' (.tmp d):=fun h hh d hr=>hev d ((H.names h hh).1 d hr)
 have hds:∀ h∈hist,∀ d,h.o.dst=some d→ev t (.tmp d)=ev t' (.tmp d):=fun h hh d hr=>hev d ((H.names h hh).2 d hr)
 refine⟨H.valid,fun y hy=>H.remOps y (hrem y hy).1,fun y hy=>H.remIn y (hrem y hy).1,hnd,?_,?_,?_,?_,?_,?_,?_,?_,?_,?_,?_⟩
 ·intro h hm
  rcases List.mem_cons.1 hm with rfl|hm
  ·exact H.remOps x hx
  ·exact H.histOps h hm
 ·rw [List.map_cons,List.nodup_cons]
  refine⟨fun hm=>?_,H.histNd⟩
  obtain⟨h,h1,h2⟩:=List.mem_map.1 hm
  exact H.apart h h1 x hx h2
 ·intro h hm y hy
  rcases List.mem_cons.1 hm with rfl|hm
  ·exact fun e=>(hrem y hy).2 e.symm
  ·exact H.apart h hm y (hrem y hy).1
 ·intro j hj
  rcases H.all j hj with ⟨y,hy,e⟩|⟨h,hm,e⟩
  ·rcases hall y hy with rfl|hy
   ·exact .inr ⟨_,List.mem_cons_self,e⟩
   ·exact .inl ⟨y,hy,e⟩
  ·exact .inr ⟨h,List.mem_cons_of_mem _ hm,e⟩
 ·intro h hm hs
  rcases List.mem_cons.1 hm with rfl|hm
  ·exact hnew
  ·exact (H.fact h hm hs).step (hrd h hm) (hds h hm) S hh
 ·intro _ h hm hs
  rcases List.mem_cons.1 hm with rfl|hm
  ·exact hnow
  ·exact (H.now rfl h hm hs).step (hrd h hm) S
 ·intro h hm g gm hne d hd hr
  rcases List.mem_cons.1 hm with rfl|hm
  ·rcases List.mem_cons.1 gm with rfl|gm
   ·exact absurd rfl hne
   ·exact depsOk_some hdeps g gm d hd hr
  ·rcases List.mem_cons.1 gm with rfl|gm
   ·have h1:=(H.names h hm).1 d hr
    rw [(m1 d hd).1] at h1;simp at h1
   ·exact H.deps h hm g gm hne d hd hr
 ·intro h hm
  rcases List.mem_cons.1 hm with rfl|hm
  ·exact⟨m3,m4⟩
  ·exact⟨fun d hr=>m2 d ((H.names h hm).1 d hr),fun d hr=>m2 d ((H.names h hm).2 d hr)⟩
 ·intro h hm g gm b hk gk
  rcases List.mem_cons.1 hm with rfl|hm
  ·rcases List.mem_cons.1 gm with rfl|gm
   ·rfl
   ·have:=H.idlt g gm b gk;have:=hid b hk;omega
  ·rcases List.mem_cons.1 gm with rfl|gm
   ·have:=H.idlt h hm b hk;have:=hid b gk;omega
   ·exact H.ids h hm g gm b hk gk
 ·intro h hm b hk
  rcases List.mem_cons.1 hm with rfl|hm
  ·exact (hid b hk).2
  ·have:=H.idlt h hm b hk;omega
 ·intro h hm d hd
  rcases List.mem_cons.1 hm with rfl|hm
  ·exact (m1 d hd).2
  ·exact H.own h hm d hd
theorem sub_newObjA {o:AObj} (hn:m.objs.get m.next=none):Sub m (newObjA m o):=by
 intro b q hq
 rw [get_newObjA,if_neg (by intro e;subst e;rw [hn] at hq;simp at hq)];exact hq
theorem drPut_ok {tt:Option (T Value)} {mk:Option Nat} {bl:List Nat} {rem:List (Nat × Oper)} {hist:List Hist} {ih:DrF} {t1:T Value} {m1:Mem} {rem1:List (Nat × Oper)} {hist1:List Hist} {mask1:Nat}
  (h:drPut tt mk bl rem m hist ih=.ok t1 m1 rem1 hist1 mask1):∃ t' mask',tt=some t'∧mk=some mask'∧ih bl rem t' m hist mask'=.ok t1 m1 rem1 hist1 mask1:=by
 unfold drPut at h
 split at h
 ·exact⟨_,_,rfl,rfl,h⟩
 ·simp at h
end
section
variable {tb:Tabs} {N:Nat} {w0:World} {E:Env} {w:World} {lo:Nat} {ops:Array Oper} {nt:Nat} {sched:List Nat}
theorem perm_take {rem l:List (Nat × Oper)} {x:Nat × Oper} (h:((rem.reverse++x::l).map (·.1)).Nodup):(∀ y∈rem.reverse++l,y∈rem.reverse++x::l∧y.1≠x.1)∧((rem.reverse++l).map (·.1)).Nodup∧(∀ y∈rem.reverse++x::l,y=x∨y∈rem.reverse++l):=by
 rw [List.map_append,List.map_cons,List.nodup_append,List.nodup_cons] at h
 obtain⟨h1,⟨h2,h3⟩,h4⟩:=h
 refine⟨?_,?_,?_⟩
 ·intro y hy
  rcases List.mem_append.1 hy with hy|hy
  ·exact⟨List.mem_append.2 (.inl hy),h4 _ (List.mem_map.2 ⟨y,hy,rfl⟩) _ List.mem_cons_self⟩
  ·exact⟨List.mem_append.2 (.inr (List.mem_cons_of_mem _ hy)),fun e=>h2 (by rw [← e];exact List.mem_map.2 ⟨y,hy,rfl⟩)⟩
 ·rw [List.map_append,List.nodup_append]
  exact⟨h1,h3,fun a ha b hb=>h4 a ha b (List.mem_cons_of_mem _ hb)⟩
 ·intro y hy
  rcases List.mem_append.1 hy with hy|hy
  ·exact .inr (List.mem_append.2 (.inl hy))
  ·rcases List.mem_cons.1 hy with rfl|hy
   ·exact .inl rfl
   ·exact .inr (List.mem_append.2 (.inr hy))
def PassOut (tb:Tabs) (N:Nat) (w0:World) (E:Env) (w:World) (lo:Nat) (ops:Array Oper) (nt:Nat) (sched:List Nat) (t:T Value) (m:Mem) (hist:List Hist) (t1:T Value) (m1:Mem) (rem1:List (Nat × Oper)) (hist1:List Hist) (mask1:Nat):Prop :=
 lo≤m1.next∧MR tb.p N w0 E m1 w∧MExt lo E m E m1∧DrI tb E m1 lo m1.next ops t1 nt false rem1 hist1 mask1 sched ∧
   (∀ X:Nat→Prop,(∀ h∈hist1,∀ d,h.o.dst=some d→h.i∈sched→X d)→∀ x,¬ X x→ev t1 (.tmp x)=ev t (.tmp x))∧∀ h∈hist,h∈hist1
theorem drPass_ok:∀ (l:List (Nat × Oper)) (bl:List Nat) (rem:List (Nat × Oper)) (t:T Value) (m:Mem) (hist:List Hist) (mask:Nat) (t1:T Value) (m1:Mem) (rem1:List (Nat × Oper)) (hist1:List Hist) (mask1:Nat),
  drPass tb ops nt l bl rem t m hist mask=.ok t1 m1 rem1 hist1 mask1→lo≤m.next→MR tb.p N w0 E m w→DrI tb E m lo m.next ops t nt false (rem.reverse++l) hist mask sched →
  PassOut tb N w0 E w lo ops nt sched t m hist t1 m1 rem1 hist1 mask1
 | [],bl,rem,t,m,hist,mask,t1,m1,rem1,hist1,mask1,h,hlo,HM,HD=>by
   have h:DrR.ok t m rem.reverse hist mask=.ok t1 m1 rem1 hist1 mask1:=h
   simp only [DrR.ok.injEq] at h
   obtain⟨rfl,rfl,rfl,rfl,rfl⟩:=h
   exact⟨hlo,HM,.refl _ _ _,by simpa using HD,fun X _ x _=>rfl,fun h hh=>hh⟩
 |x::l,bl,rem,t,m,hist,mask,t1,m1,rem1,hist1,mask1,h,hlo,HM,HD=>by
  have h:drStep tb ops nt x l (drPass tb ops nt l) bl rem t m hist mask=.ok t1 m1 rem1 hist1 mask1:=h
  have keep:drPass tb ops nt l (x.1::bl) (x::rem) t m hist mask=.ok t1 m1 rem1 hist1 mask1→PassOut tb N w0 E w lo ops nt sched t m hist t1 m1 rem1 hist1 mask1:=fun h=>drPass_ok l _ _ t m hist mask t1 m1 rem1 hist1 mask1 h hlo HM (by simpa using HD)
  have hx:x∈rem.reverse++x::l:=by simp
  obtain⟨p1,p2,p3⟩:=perm_take HD.remNd
  have hxs:x.1∈sched:=HD.remIn x hx
  unfold drStep at h
  split at h
  ·exact keep h
  ·split at h
   ·simp at h
   ·rename_i hdeps
    have go:∀ (t':T Value) (m':Mem) (mask':Nat) (v:Value) (k:HK) (vs:List Value),putT t nt x.2.dst v=some t'→maskA ops x.2 mask=some mask'→Sub m m'→m.next≤m'.next→MR tb.p N w0 E m' w→MExt lo E m E m'→(∀ b,k=.f b→m.next≤b∧b<m'.next) →
      HFact tb E m' lo m'.next ops t' nt ⟨x.1,x.2,vs,k,v⟩→HNow tb m' t' ⟨x.1,x.2,vs,k,v⟩→drPass tb ops nt l bl rem t' m' (⟨x.1,x.2,vs,k,v⟩::hist) mask'=.ok t1 m1 rem1 hist1 mask1→PassOut tb N w0 E w lo ops nt sched t m hist t1 m1 rem1 hist1 mask1:=by
     intro t' m' mask' v k vs hp hm S hn HM' hx' hid hf hnow h
     have HD':=HD.exec hx p1 p2 p3 hp hm hdeps S hn hid hf hnow
     obtain⟨r1,r2,r3,r4,r5,r6⟩:=drPass_ok l bl rem t' m' _ mask' t1 m1 rem1 hist1 mask1 h (by omega) HM' HD'
     refine⟨r1,r2,hx'.trans r3,r4,fun X hX y hy=>?_,fun g hg=>r6 g (List.mem_cons_of_mem _ hg)⟩
     rw [r5 X hX y hy,ev_put hp,if_neg]
     intro e
     exact hy (hX _ (r6 _ List.mem_cons_self) y e hxs)
    split at h
    ·rename_i hw
     obtain⟨t',mask',e1,e2,h⟩:=drPut_ok h
     have hr:∀ d,reads ops x.2 d→ev t (.tmp d)=ev t' (.tmp d):=fun d hr=>by
      rw [ev_put e1,if_neg];intro e;exact ((maskA_some e2).1 d e).2 hr
     refine go t' m mask' undef .s [] e1 e2 (Sub.refl m) (Nat.le_refl _) HM (.refl _ _ _) (by simp) ⟨fun d e=>⟨by rw [ev_put e1];simp only at e;rw [if_pos e],?_⟩,by rw [← wantedA_congr hr];exact hw,rfl⟩ trivial h
     simp only at e;rw [e] at e1;exact (putT_some e1).1
    ·rename_i hw
     unfold drK at h
     split at h
     ·rename_i v hop
      obtain⟨t',mask',e1,e2,h⟩:=drPut_ok h
      have hr:∀ d,reads ops x.2 d→ev t (.tmp d)=ev t' (.tmp d):=fun d hr=>by
       rw [ev_put e1,if_neg];intro e;exact ((maskA_some e2).1 d e).2 hr
      refine go t' m mask' v .r _ e1 e2 (Sub.refl m) (Nat.le_refl _) HM (.refl _ _ _) (by simp) ⟨fun d e=>⟨by rw [ev_put e1];simp only at e;rw [if_pos e],?_⟩,by rw [← wantedA_congr hr];exact hw,by rw [← evs_congr' hr],fun hp m2=>?_⟩ ?_ h
      ·simp only at e;rw [e] at e1;exact (putT_some e1).1
      ·rw [← opA_congr' hr,opA_pure hp t m2 m];exact hop
      ·show opA x.2.op tb t' m=.r v
       rw [← opA_congr' hr];exact hop
     ·rename_i ob mk hop
      obtain⟨t',mask',e1,e2,h⟩:=drPut_ok h
      have hr:∀ d,reads ops x.2 d→ev t (.tmp d)=ev t' (.tmp d):=fun d hr=>by
       rw [ev_put e1,if_neg];intro e;exact ((maskA_some e2).1 d e).2 hr
      have hdom:=HM.dom m.next (Nat.le_refl _)
      refine go t' (newObjA m ob) mask' (mk m.next) (.f m.next) _ e1 e2 (sub_newObjA hdom.1) (by rw [next_newObjA];omega) (HM.lay ob) ((MExt.lay HM ob).lower hlo) (by intro b e;cases e;rw [next_newObjA];omega)
       ⟨fun d e=>⟨by rw [ev_put e1];simp only at e;rw [if_pos e],?_⟩,by rw [← wantedA_congr hr];exact hw,by rw [← evs_congr' hr],hlo,by rw [next_newObjA];omega,hdom.2,ob,mk,fun m2=>?_,rfl,by rw [get_newObjA,if_pos rfl]⟩ trivial h
      ·simp only at e;rw [e] at e1;exact (putT_some e1).1
      ·rw [← opA_congr' hr];exact opA_f hop m2
     ·exact keep h
     ·exact keep h
     ·simp at h
end
end Go.Ev

namespace Go.Ev
section
variable {P:Program} {fr:Frame} {cs:List Frame} {w w':World} {k:List Item} {ops:Array Oper} {i:Nat} {rest:List Nat}
theorem st_region_nil (hm:fr.mode=.run) (ht:fr.todo=.inRegion ops []::k):step P (lone fr cs w)=.next (lone { fr with todo:=k } cs w):=by
 obtain⟨fn,tmps,todo,defers,mode,kind,ro⟩:=fr
 simp only at hm ht;subst hm;subst ht
 exact step_lone_go (by simp [stepG,stepG.exec])
theorem st_skip (hm:fr.mode=.run) (ht:fr.todo=.inRegion ops (i::rest)::k) (h:((ops[i]?).map (Region.wanted · (yielded ops fr.tmps))).getD false=false):step P (lone fr cs w)=.next (lone (fr.finish undef) cs w):=by
 obtain⟨fn,tmps,todo,defers,mode,kind,ro⟩:=fr
 simp only at hm ht h;subst hm;subst ht
 exact step_lone_go (by simp [stepG,stepG.exec,h])
theorem stG_op (hm:fr.mode=.run) (ht:fr.todo=.inRegion ops (i::rest)::k) {o:Oper} (ho:ops[i]? = some o) (hw:Region.wanted o (yielded ops fr.tmps)=true) (hd:fr.roundOf=none∨∀ c,o.op≠.defer c) :
  stepG P true { frame:=fr,callers:=cs,status:=.running,dying:=none } w=stepG.apply P true fr cs none (execOp fr.eval o) w:=by
 obtain⟨fn,tmps,todo,defers,mode,kind,ro⟩:=fr
 simp only at hm ht hw hd;subst hm;subst ht
 rcases hd with rfl|hd
 ·simp [stepG,stepG.exec,stepG.oper,Frame.oper?,ho,hw]
 ·cases ro with
  |none=>simp [stepG,stepG.exec,stepG.oper,Frame.oper?,ho,hw]
  |some l =>
   cases hop:o.op<;>first|(exact absurd hop (hd _))|simp [stepG,stepG.exec,stepG.oper,Frame.oper?,ho,hw,hop]
theorem st_apply_value {s:Sem Next} {nx:Next} {v:Value} (hr:s.run P w=.ok nx w') (hn:nx=.value v∨(nx=.skip∧v=undef)) (hg:stepG P true { frame:=fr,callers:=cs,status:=.running,dying:=none } w=stepG.apply P true fr cs none s w) :
  step P (lone fr cs w)=.next (lone (fr.finish v) cs w'):=by
 refine step_lone_go ?_
 rw [hg]
 rcases hn with rfl|⟨rfl,rfl⟩<;>simp [stepG.apply,Sem.runT_eq,hr]
end
end Go.Ev

namespace Go.Ev
theorem addI_eq (x y:Int):addI x y=x+y:=by cases x<;>cases y<;>rfl
theorem subI_eq (x y:Int):subI x y=x-y:=by
 cases x with
 |ofNat a=>cases y with
  |ofNat b =>
   simp only [subI]
   split
   ·rename_i h
    have h':b≤a:=by simpa [Nat.ble_eq] using h
    simp only [Int.ofNat_eq_natCast];omega
   ·rename_i h
    have h':¬ b≤a:=fun e=>by rw [Nat.ble_eq_true_of_le e] at h;simp at h
    simp only [Int.ofNat_eq_natCast,Int.negSucc_eq];omega
  |negSucc b=>rfl
 |negSucc a=>rfl
theorem mulI_eq (x y:Int):mulI x y=x*y:=by cases x<;>cases y<;>rfl
theorem quoI_some {x y r:Int} (h:quoI x y=some r):y≠0∧r=x.tdiv y:=by
 cases y with
 |ofNat b =>
  cases b with
  |zero=>cases x<;>simp [quoI] at h
  |succ b =>
   refine⟨by simp only [Int.ofNat_eq_natCast];omega,?_⟩
   cases x<;>(simp only [quoI,Option.some.injEq] at h;rw [← h];try rfl)
 |negSucc b =>
  refine⟨by simp [Int.negSucc_eq];omega,?_⟩
  cases x<;>(simp only [quoI,Option.some.injEq] at h;rw [← h])
theorem remI_some {x y r:Int} (h:remI x y=some r):y≠0∧r=x.tmod y:=by
 cases y with
 |ofNat b =>
  cases b with
  |zero=>cases x<;>simp [remI] at h
  |succ b =>
   refine⟨by simp only [Int.ofNat_eq_natCast];omega,?_⟩
   cases x<;>(simp only [remI,Option.some.injEq] at h;rw [← h];try rfl)
 |negSucc b =>
  refine⟨by simp [Int.negSucc_eq];omega,?_⟩
  cases x<;>(simp only [remI,Option.some.injEq] at h;rw [← h])
theorem kEq_true {a b:IntKind} (h:kEq a b=true):a=b:=by cases a<;>cases b<;>first|rfl|(simp [kEq] at h)
theorem intEq_eq (x y:Int):intEq x y=(x==y):=by
 rw [Bool.eq_iff_iff,beq_iff_eq]
 cases x<;>cases y<;>simp [intEq]<;>omega
theorem intLt_eq (x y:Int):intLt x y=decide (x<y):=by
 rw [Bool.eq_iff_iff,decide_eq_true_iff]
 cases x<;>cases y<;>simp only [intLt,Nat.blt_eq,Int.ofNat_eq_natCast,Int.negSucc_eq,Bool.false_eq_true,true_iff,false_iff]<;>omega
theorem wrap_u64 (n:Int):IntKind.wrap .u64 n=n%18446744073709551616:=by
 simp [IntKind.wrap,IntKind.signed,IntKind.bits]
theorem wrap_u32 (n:Int):IntKind.wrap .u32 n=n%4294967296:=by simp [IntKind.wrap,IntKind.signed,IntKind.bits]
theorem wrap_u16 (n:Int):IntKind.wrap .u16 n=n%65536:=by simp [IntKind.wrap,IntKind.signed,IntKind.bits]
theorem wrap_u8 (n:Int):IntKind.wrap .u8 n=n%256:=by simp [IntKind.wrap,IntKind.signed,IntKind.bits]
theorem wrap_i64 (n:Int):IntKind.wrap .i64 n=if n%18446744073709551616≥9223372036854775808 then n%18446744073709551616-18446744073709551616 else n%18446744073709551616:=by
 simp [IntKind.wrap,IntKind.signed,IntKind.bits]
theorem wrap_i32 (n:Int):IntKind.wrap .i32 n=if n%4294967296≥2147483648 then n%4294967296-4294967296 else n%4294967296:=by
 simp [IntKind.wrap,IntKind.signed,IntKind.bits]
theorem wrap_i16 (n:Int):IntKind.wrap .i16 n=if n%65536≥32768 then n%65536-65536 else n%65536:=by
 simp [IntKind.wrap,IntKind.signed,IntKind.bits]
theorem wrap_i8 (n:Int):IntKind.wrap .i8 n=if n%256≥128 then n%256-256 else n%256:=by
 simp [IntKind.wrap,IntKind.signed,IntKind.bits]
theorem wrapN_eq (k:IntKind) (m:Nat):wrapN k m=k.wrap (.ofNat m):=by
 cases k<;>simp only [wrapN]
 all_goals first
  | (
    split
    ·rename_i h
     have h':=h
     simp only [Nat.blt_eq] at h'
     simp only [wrap_i64,wrap_i32,wrap_i16,wrap_i8,Int.ofNat_eq_natCast]
     omega
    ·rfl)
  | (simp only [wrap_u64,wrap_u32,wrap_u16,wrap_u8,Int.ofNat_eq_natCast];omega)
theorem wrapF_eq (k:IntKind) (n:Int):wrapF k n=k.wrap n:=by
 cases n with
 |ofNat m=>exact wrapN_eq k m
 |negSucc m =>
  cases k<;>simp only [wrapF]
  ·split
   ·rename_i h
    have h':=h
    simp only [Nat.blt_eq] at h'
    simp only [wrap_i64,Int.negSucc_eq]
    omega
   ·rfl
  ·simp only [wrap_u64,Int.ofNat_eq_natCast,Int.negSucc_eq];omega
theorem vInt_eq (k:IntKind) (n:Int):vInt k n=.int k n:=fInt_eq _ _
theorem oI_some {k:IntKind} {x:Option Int} {v:Value} (h:oI k x=some v):∃ n,x=some n∧v=.int k n:=by
 cases x with
 |none=>simp [oI] at h
 |some n=>simp only [oI,vInt_eq,Option.some.injEq] at h;exact⟨n,rfl,h.symm⟩
theorem wrap_mod (k:IntKind) (n:Nat):k.wrap ((n%2 ^ k.bits:Nat):Int)=k.wrap (n:Int):=by
 simp only [IntKind.wrap]
 have:(((n%2 ^ k.bits:Nat):Int)%(2 ^ k.bits:Int))=((n:Int)%(2 ^ k.bits:Int)):=by
  rw [Int.natCast_emod];simp
 rw [this]
theorem ofInt_nat (w a:Nat):(BitVec.ofInt w (.ofNat a)).toNat=a%2 ^ w:=by
 simp
theorem bitsF_eq (op:BinOp) (k:IntKind) (x y:Int):bitsF op k x y=bitsI op k x y:=by
 cases x with
 |negSucc a=>rfl
 |ofNat a=>cases y with
  |negSucc b=>rfl
  |ofNat b =>
   cases op<;>simp only [bitsF,bitsI]
   ·rw [wrapN_eq,BitVec.toNat_and,ofInt_nat,ofInt_nat,← Nat.and_mod_two_pow,wrap_mod];rfl
   ·rw [wrapN_eq,BitVec.toNat_or,ofInt_nat,ofInt_nat,← Nat.or_mod_two_pow,wrap_mod];rfl
   ·rw [wrapN_eq,BitVec.toNat_xor,ofInt_nat,ofInt_nat,← Nat.xor_mod_two_pow,wrap_mod];rfl
theorem bytesEq_eq:∀ (a b:List UInt8),bytesEq a b=(a==b)
 | [],[]=>rfl
 | [],_::_=>rfl
 |_::_,[]=>rfl
 |x::a,y::b=>by
  have ih:=bytesEq_eq a b
  simp only [bytesEq]
  rw [Bool.eq_iff_iff,beq_iff_eq]
  cases h:Nat.beq x.toNat y.toNat with
  |true =>
   have:=Nat.eq_of_beq_eq_true h
   have hxy:x=y:=UInt8.toNat_inj.1 this
   subst hxy
   simp [ih]
  |false =>
   have:=Nat.ne_of_beq_eq_false h
   simp
   intro e;subst e;exact absurd rfl this
theorem toList_eq (s:ByteArray):s.toList=s.data.toList:=Go.ByteArray.toList_eq s
end Go.Ev

namespace Go.Ev
open Go.RowKit
structure TabsOk (tb:Tabs):Prop where
 types:∀ t i,ti tb t=some i→mkTI tb.p t=some i
 funcs:∀ f fn,tb.funcs.get f=some fn→tb.p.funcs[f]? = some fn
theorem mkTI_some {P:Program} {t:TypeId} {i:TI} (h:mkTI P t=some i) :
  P.info? t=some i.inf∧P.underlying t=some i.d∧i.agg=isAggD i.d∧i.zc=(match i.inf.zero with|some z=>cellsOfV z|none=>[])∧i.hasZ=hasZ0 P i.inf i.d ∧
  i.flds=(match i.d with | .struct fs=>fs.toList.map fun f=>(f.offset,P.cellsOf f.type,f.type,f.name == "_")|_=>[])∧i.guard=P.eqGuardType P.depth t∧i.held=P.stoodInHeld t:=by
 unfold mkTI at h
 split at h
 ·rename_i inf d h1 h2
  simp only [Option.some.injEq] at h
  subst h
  exact⟨h1,h2,rfl,rfl,rfl,rfl,rfl,rfl⟩
 ·simp at h
theorem flatV_self {E:Env} {v:Value} (h:flatV v=true):VR E v v:=by
 unfold flatV at h
 split at h<;>first|constructor|(simp at h)
theorem flatVs_self {E:Env}:∀ {l:List Value},l.all flatV=true→VRs E l l
 | [],_=>.nil
 |v::l,h=>by
  rw [List.all_cons,Bool.and_eq_true] at h
  exact .cons (flatV_self h.1) (flatVs_self h.2)
theorem cellsOfV_self {E:Env} {z:Value} (h:(cellsOfV z).all flatV=true):VR E z z:=by
 cases z with
 |agg cs=>obtain⟨cs⟩:=cs;exact .agg (flatVs_self (by simpa [cellsOfV] using h))
 |_=>exact flatV_self (by simpa [cellsOfV] using h)
section
variable {tb:Tabs} (ok:TabsOk tb)
include ok
theorem zeroV_some {t:TypeId} {i:TI} (h:ti tb t=some i) {z:Value} (hz:zeroV i=some z) (E:Env):i.inf.zero=some z∧VR E z z:=by
 unfold zeroV at hz
 split at hz
 ·rename_i hh
  obtain⟨_,_,_,_,h2,_⟩:=mkTI_some (ok.types t i h)
  unfold hasZ0 at h2
  rw [h2,hz] at hh
  simp only [Bool.and_eq_true] at hh
  exact⟨hz,cellsOfV_self hh.1.1⟩
 ·simp at hz
theorem TabsOk.info {t:TypeId} {i:TI} (h:ti tb t=some i):tb.p.info? t=some i.inf:=(mkTI_some (ok.types t i h)).1
theorem TabsOk.und {t:TypeId} {i:TI} (h:ti tb t=some i):tb.p.underlying t=some i.d:=(mkTI_some (ok.types t i h)).2.1
theorem TabsOk.agg {t:TypeId} {i:TI} (h:ti tb t=some i):i.agg=isAggD i.d:=(mkTI_some (ok.types t i h)).2.2.1
theorem TabsOk.zc {t:TypeId} {i:TI} (h:ti tb t=some i) (hz:i.hasZ=true):∃ z,i.inf.zero=some z∧i.zc=cellsOfV z∧(cellsOfV z).all flatV=true∧i.zc.length=i.inf.size∧∀ fs,i.d=.struct fs→∀ f∈fs.toList,(tb.p.info? f.type).isSome=true:=by
 obtain⟨_,_,_,h1,h2,_⟩:=mkTI_some (ok.types t i h)
 unfold hasZ0 at h2
 rw [h2] at hz
 cases hq:i.inf.zero with
 |none=>rw [hq] at hz;simp at hz
 |some z =>
  rw [hq] at hz
  simp only [Bool.and_eq_true] at hz
  refine⟨z,rfl,by rw [h1,hq],hz.1.1,by rw [h1,hq];exact Nat.eq_of_beq_eq_true hz.1.2,fun fs hd=>?_⟩
  have:=hz.2
  rw [hd] at this
  exact List.all_eq_true.1 this
theorem TabsOk.cellsOf {t:TypeId} {i:TI} (h:ti tb t=some i):tb.p.cellsOf t=i.inf.size:=by
 simp [Program.cellsOf,ok.info h]
variable {w:World}
theorem run_ty {t:TypeId} {i:TI} (h:ti tb t=some i):(underlying t).run tb.p w=.ok i.d w:=by
 simp [underlying,ok.und h]
theorem run_inf {t:TypeId} {i:TI} (h:ti tb t=some i):(typeInfo t).run tb.p w=.ok i.inf w:=by
 simp [typeInfo,ok.info h]
theorem run_size {t:TypeId} {i:TI} (h:ti tb t=some i):(sizeOf t).run tb.p w=.ok i.inf.size w:=by
 simp [sizeOf,run_inf ok h]
theorem run_zero {t:TypeId} {i:TI} (h:ti tb t=some i) {z:Value} (hz:i.inf.zero=some z):(zeroValue t).run tb.p w=.ok z w:=by
 simp [zeroValue,run_inf ok h,hz]
theorem run_isAgg {t:TypeId} {i:TI} (h:ti tb t=some i):(isAgg t).run tb.p w=.ok i.agg w:=by
 rw [ok.agg h]
 unfold isAgg
 simp only [Sem.run_bind,run_ty ok h,Result.andThen_ok]
 cases i.d<;>rfl
end
end Go.Ev

namespace Go.Ev
open Go.RowKit
section
variable {P:Program} {w:World}
theorem run_intOp {op:BinOp} {k:IntKind} {x y:Int} {v:Value} (t:TypeId) (h1:op≠.shl) (h2:op≠.shr) (h:intOp op k x y=some v) :
  (binOp op t (.int k x) (.int k y)).run P w=.ok v w:=by
 cases op<;>simp only [intOp] at h<;>first
  |exact absurd rfl h1
  |exact absurd rfl h2
  |skip
 ·simp only [Option.some.injEq,vInt_eq,wrapF_eq,addI_eq] at h;subst h;simp [binOp,Op.intArith]
 ·simp only [Option.some.injEq,vInt_eq,wrapF_eq,subI_eq] at h;subst h;simp [binOp,Op.intArith]
 ·simp only [Option.some.injEq,vInt_eq,wrapF_eq,mulI_eq] at h;subst h;simp [binOp,Op.intArith]
 ·obtain⟨r,hr,h⟩:=oB_some.1 h
  obtain⟨h0,rfl⟩:=quoI_some hr
  simp only [Option.some.injEq,vInt_eq,wrapF_eq] at h;subst h;simp [binOp,Op.intDiv,h0]
 ·obtain⟨r,hr,rfl⟩:=oI_some h
  obtain⟨h0,rfl⟩:=remI_some hr
  simp [binOp,Op.intDiv,h0]
 ·obtain⟨r,hr,rfl⟩:=oI_some h
  rw [bitsF_eq] at hr;simp only [bitsI,Option.some.injEq] at hr;subst hr;simp [binOp,Op.intBits]
 ·obtain⟨r,hr,rfl⟩:=oI_some h
  rw [bitsF_eq] at hr;simp only [bitsI,Option.some.injEq] at hr;subst hr;simp [binOp,Op.intBits]
 ·obtain⟨r,hr,rfl⟩:=oI_some h
  rw [bitsF_eq] at hr;simp only [bitsI,Option.some.injEq] at hr;subst hr;simp [binOp,Op.intBits]
 ·obtain⟨r,hr,rfl⟩:=oI_some h
  rw [bitsF_eq] at hr;simp only [bitsI,Option.some.injEq] at hr;subst hr;simp [binOp,Op.intBits]
 ·simp only [Option.some.injEq,intEq_eq] at h;subst h;simp [binOp,Op.intCmp]
 ·simp only [Option.some.injEq,intEq_eq] at h;subst h;simp [binOp,Op.intCmp,bne]
 ·simp only [Option.some.injEq,intLt_eq] at h;subst h;simp [binOp,Op.intCmp]
 ·simp only [Option.some.injEq,intLt_eq] at h;subst h;simp [binOp,Op.intCmp];rw [Bool.eq_iff_iff];simp
 ·simp only [Option.some.injEq,intLt_eq] at h;subst h;simp [binOp,Op.intCmp]
 ·simp only [Option.some.injEq,intLt_eq] at h;subst h;simp [binOp,Op.intCmp];rw [Bool.eq_iff_iff];simp
theorem run_shiftOp {op:BinOp} {k k':IntKind} {x y:Int} {v:Value} (t:TypeId) (hop:op=.shl∨op=.shr) (h:shiftOp op k x y=some v) :
  (binOp op t (.int k x) (.int k' y)).run P w=.ok v w:=by
 cases y with
 |negSucc y=>simp [shiftOp] at h
 |ofNat y =>
  have hy:¬ ((y:Int)<0):=by omega
  rcases hop with rfl|rfl
  ·cases x with
   |ofNat a =>
    simp only [shiftOp,Option.some.injEq,vInt_eq,wrapN_eq] at h;subst h
    simp only [binOp,Op.shift,Int.ofNat_eq_natCast,if_neg hy,Int.toNat_natCast]
    have:((Nat.shiftLeft a (Nat.min y k.bits):Nat):Int)=(a:Int)*2 ^ (min y k.bits):=by
     show ((a <<< (min y k.bits):Nat):Int)=_
     rw [Nat.shiftLeft_eq];simp
    rw [this];rfl
   |negSucc a =>
    simp only [shiftOp,Option.some.injEq,vInt_eq] at h;subst h
    simp only [binOp,Op.shift,Int.ofNat_eq_natCast,if_neg hy,Int.toNat_natCast];rfl
  ·cases x with
   |ofNat a =>
    simp only [shiftOp,Option.some.injEq,vInt_eq] at h;subst h
    simp only [binOp,Op.shift,Int.ofNat_eq_natCast,if_neg hy,Int.toNat_natCast]
    have:((Nat.shiftRight a (Nat.min y k.bits):Nat):Int)=(a:Int).fdiv (2 ^ (min y k.bits)):=by
     show ((a >>> (min y k.bits):Nat):Int)=_
     rw [Nat.shiftRight_eq_div_pow,Int.fdiv_eq_ediv_of_nonneg _ (by exact_mod_cast Nat.zero_le _)];simp
    rw [this];rfl
   |negSucc a =>
    simp only [shiftOp,Option.some.injEq,vInt_eq] at h;subst h
    simp only [binOp,Op.shift,Int.ofNat_eq_natCast,if_neg hy,Int.toNat_natCast];rfl
theorem run_strOp {op:BinOp} {a b:ByteArray} {v:Value} (t:TypeId) (h:strOp op a b=some v) :
  (binOp op t (.string a) (.string b)).run P w=.ok v w:=by
 cases op<;>simp only [strOp,Option.some.injEq] at h<;>first
  | (subst h;simp only [binOp,Op.stringOp,toList_eq,← bytesEq_eq];done)
  | (subst h;simp only [binOp,Op.stringOp,toList_eq,bytesEq_eq];rfl)
  |skip
 all_goals first|(simp at h;done)|skip
 have hs:(a.data.toList.length+b.data.toList.length:Int)≤9223372036854775807:=by
  split at h
  ·rename_i hb;have:=Nat.le_of_ble_eq_true hb;omega
  ·simp at h
 have h:(.string ⟨⟨a.data.toList++b.data.toList⟩⟩:Value)=v:=by
  split at h
  ·simpa using h
  ·simp at h
 subst h
 have h1:¬ (((a.size+b.size:Nat):Int)>IntKind.i64.max):=by
  have e1:a.size=a.data.toList.length:=rfl
  have e2:b.size=b.data.toList.length:=rfl
  have:IntKind.i64.max=9223372036854775807:=by decide
  rw [this,e1,e2];simp only [Int.natCast_add];omega
 simp only [binOp,Op.stringOp,if_neg h1]
 have:a++b=(⟨⟨a.data.toList++b.data.toList⟩⟩:ByteArray):=by
  have:=ByteArray.mk_append_mk a.data.toList b.data.toList
  simpa using this
 rw [this];rfl
theorem run_unA {op:UnOp} {x:Value} {v:Value} (h:unA op x=some v):(Op.unary op x).run P w=.ok v w:=by
 unfold unA at h
 split at h
 ·simp only [Option.some.injEq,vInt_eq,wrapF_eq,subI_eq] at h;subst h;simp [Op.unary,Op.intArith]
 ·rename_i k n
  obtain⟨r,hr,rfl⟩:=oI_some h
  simp only [bitsI,Option.some.injEq] at hr;subst hr
  simp [Op.unary,Op.intBits]
 ·simp only [Option.some.injEq] at h;subst h;simp [Op.unary]
 ·simp at h
end
end Go.Ev

namespace Go.Ev
open Go.RowKit
theorem add_none (b o n:Nat):(⟨b,o,none⟩:Addr).add n=⟨b,o+n,none⟩:=by
 unfold Addr.add;split
 ·rename_i h;subst h;rfl
 ·rfl
theorem cellsFrom_zero (r:Row) (i:Nat):cellsFrom r 0 i=some []:=rfl
theorem cellsFrom_succ (r:Row) (k i:Nat):cellsFrom r (k+1) i=oB (cellAt r i) fun v=>oB (cellsFrom r k (i+1)) fun l=>some (v::l):=rfl
theorem cellsFrom_some {r:Row}:∀ {k i:Nat} {l:List Value},cellsFrom r k i=some l→l.length=k∧∀ j v,l[j]? = some v→cellAt r (i+j)=some v
 |0,i,l,h=>by
  rw [cellsFrom_zero] at h;obtain rfl:=Option.some.inj h
  exact⟨rfl,fun j v hv=>by simp at hv⟩
 |k+1,i,l,h=>by
  rw [cellsFrom_succ] at h
  obtain⟨v,hv,h⟩:=oB_some.1 h
  obtain⟨l',hl,h⟩:=oB_some.1 h
  obtain rfl:=Option.some.inj h
  obtain⟨h1,h2⟩:=cellsFrom_some hl
  refine⟨by simp [h1],fun j u hu=>?_⟩
  cases j with
  |zero=>simp at hu;subst hu;exact hv
  |succ j=>simp at hu;have:=h2 j u hu;rw [show i+(j+1)=i+1+j from by omega];exact this
section
variable {tb:Tabs} {N:Nat} {w0:World} {E:Env} {m:Mem} {w:World}
theorem MR.cells (H:MR tb.p N w0 E m w) {b:Nat} {i:Info} {r:Row} (hE:E b=some i) (h:rowOf m b=some r) {k o:Nat} {l:List Value} (hl:cellsFrom r k o=some l) :
  ∃ l',VRs E l l'∧l'.length=k∧∀ j v,l'[j]? = some v→w.cell? ⟨i.blk,i.shift+o+j,none⟩=some v:=by
 obtain⟨h1,h2⟩:=cellsFrom_some hl
 have hc:∀ j v,l[j]? = some v→∃ v',w.cell? ⟨i.blk,i.shift+o+j,none⟩=some v'∧VR E v v':=by
  intro j v hv
  obtain⟨v',h3,h4⟩:=H.cell hE h (h2 j v hv)
  exact⟨v',by rw [show i.shift+o+j=i.shift+(o+j) from by omega];exact h3,h4⟩
 refine⟨(List.range k).map fun j=>(w.cell? ⟨i.blk,i.shift+o+j,none⟩).getD undef,?_,by simp,?_⟩
 ·refine VRs.of_get (by simp [h1]) fun j v v' hv hv'=>?_
  obtain⟨u,h3,h4⟩:=hc j v hv
  rw [List.getElem?_map] at hv'
  have hjl:j<k:=by
   have:=(List.getElem?_eq_some_iff.1 hv).1;omega
  rw [List.getElem?_range hjl] at hv'
  simp [h3] at hv'
  subst hv';exact h4
 ·intro j v hv
  rw [List.getElem?_map] at hv
  by_cases hjl:j<k
  ·rw [List.getElem?_range hjl] at hv
   obtain⟨u,hu⟩:∃ u,l[j]? = some u:=⟨l[j]'(by omega),List.getElem?_eq_getElem (by omega)⟩
   obtain⟨u',h3,h4⟩:=hc j u hu
   simp [h3] at hv
   rw [h3,hv]
  ·rw [List.getElem?_eq_none (by simp;omega)] at hv;simp at hv
theorem run_cells (H:MR tb.p N w0 E m w) {b:Nat} {i:Info} {r:Row} (hE:E b=some i) (h:rowOf m b=some r) {k o:Nat} {l:List Value} (hl:cellsFrom r k o=some l) :
  ∃ l',VRs E l l'∧l'.length=k∧(loadCells ⟨i.blk,i.shift+o,none⟩ k).run tb.p w=.ok l'.toArray w:=by
 obtain⟨l',h1,h2,h3⟩:=H.cells hE h hl
 refine⟨l',h1,h2,?_⟩
 have:=run_loadCells_list (P:=tb.p) (w:=w) ⟨i.blk,i.shift+o,none⟩ l' (fun j v hv=>by rw [add_none];exact h3 j v hv)
 rw [← h2];exact this
theorem run_loadA (ok:TabsOk tb) (H:MR tb.p N w0 E m w) {t b o:Nat} {i:Info} {v:Value} (hE:E b=some i) (h:loadA tb t m b o=some v) :
  ∃ v',(loadVar t ⟨i.blk,i.shift+o,none⟩).run tb.p w=.ok v' w∧VR E v v':=by
 unfold loadA at h
 obtain⟨j,hj,h⟩:=oB_some.1 h
 obtain⟨r,hr,h⟩:=oB_some.1 h
 unfold loadVar
 simp only [Sem.run_bind,run_isAgg ok hj,Result.andThen_ok]
 cases ha:j.agg with
 |true =>
  rw [ha] at h;simp only at h
  obtain⟨l,hl,h⟩:=oB_some.1 h
  obtain rfl:=Option.some.inj h
  obtain⟨l',h1,h2,h3⟩:=run_cells H hE hr hl
  refine⟨.agg ⟨l'⟩,?_,.agg h1⟩
  simp [run_size ok hj,h3]
 |false =>
  rw [ha] at h;simp only at h
  obtain⟨v',h1,h2⟩:=H.cell hE hr h
  exact⟨v',by simp [h1],h2⟩
theorem run_partA (ok:TabsOk tb) {t off:Nat} {cs cs':List Value} {v:Value} (hcs:VRs E cs cs') (h:partA tb t cs off=some v) :
  ∃ v',(part t ⟨cs'⟩ off).run tb.p w=.ok v' w∧VR E v v':=by
 unfold partA at h
 obtain⟨j,hj,h⟩:=oB_some.1 h
 unfold part
 simp only [Sem.run_bind,run_isAgg ok hj,Result.andThen_ok]
 cases ha:j.agg with
 |true =>
  rw [ha] at h;simp only [Option.some.injEq] at h;subst h
  refine⟨.agg ⟨takeN cs' off j.inf.size⟩,?_,.agg ((hcs.drop _).take _)⟩
  simp only [if_true,Sem.run_bind,run_size ok hj,Result.andThen_ok,Sem.run_pure]
  congr 2
  rw [show off+j.inf.size=off+j.inf.size from rfl]
  apply Array.ext'
  simp [takeN,List.extract_eq_take_drop]
 |false =>
  rw [ha] at h;simp only at h
  obtain⟨v',h1,h2⟩:=hcs.get off v h
  refine⟨v',?_,h2⟩
  have:(⟨cs'⟩:Array Value)[off]? = some v':=by simpa using h1
  simp [this]
theorem run_fieldA (ok:TabsOk tb) {t f:Nat} {x x' v:Value} (hx:VR E x x') (h:fieldA tb t x f=some v) :
  ∃ v',(Instr.field t x' f).run tb.p w=.ok v' w∧VR E v v':=by
 unfold fieldA at h
 obtain⟨j,hj,h⟩:=oB_some.1 h
 split at h
 ·rename_i cs
  cases hx with
  |agg hcs =>
   split at h
   ·rename_i o s ft bl hf
    have hfl:=(mkTI_some (ok.types t j hj)).2.2.2.2.2.1
    unfold Instr.field
    simp only [Sem.run_bind,run_ty ok hj,Result.andThen_ok]
    rw [hfl] at hf
    cases hd:j.d with
    |struct fs =>
     rw [hd] at hf
     simp only [List.getElem?_map] at hf
     obtain⟨q,hq1,hq2⟩:=Option.map_eq_some_iff.1 hf
     simp only [Prod.mk.injEq] at hq2
     obtain⟨rfl,rfl,rfl,rfl⟩:=hq2
     have hq:fs[f]? = some q:=by simpa using hq1
     obtain⟨v',h1,h2⟩:=run_partA (w:=w) ok hcs h
     refine⟨v',?_,h2⟩
     simp [hq,asAgg,h1]
    |_=>rw [hd] at hf;simp at hf
   ·simp at h
 ·simp at h
theorem run_indexA (ok:TabsOk tb) {t:Nat} {x x' ix ix' v:Value} (hx:VR E x x') (hi:VR E ix ix') (h:indexA tb t x ix=some v) :
  ∃ v',(Instr.index t x' ix').run tb.p w=.ok v' w∧VR E v v':=by
 unfold indexA at h
 split at h
 ·rename_i k q
  cases hi
  obtain⟨j,hj,h⟩:=oB_some.1 h
  unfold Instr.index
  simp only [asIntOf,Sem.run_bind,Sem.run_pure,run_ty ok hj,Result.andThen_ok]
  cases hd:j.d with
  |string =>
   rw [hd] at h
   cases hx with
   |string s =>
    simp only at h
    split at h
    ·rename_i b hb
     simp only [Option.some.injEq,byteV,fNat_eq] at h;subst h
     refine⟨.int .u8 b.toNat,?_,.int _ _⟩
     have hq:s[q]? = some b:=by
      have:s.data[q]? = some b:=by simpa using hb
      obtain⟨h1,h2⟩:=Array.getElem?_eq_some_iff.1 this
      have h1':q<s.size:=h1
      rw [ByteArray.getElem?_lt' s q h1']
      congr 1
     simp [hq]
    ·simp at h
   |_=>simp at h
  |array len elem =>
   rw [hd] at h
   cases hx with
   |agg hcs =>
    simp only at h
    split at h
    ·rename_i hb
     have hlt:q<len:=by simpa [Nat.blt_eq] using hb
     obtain⟨e,he,h⟩:=oB_some.1 h
     obtain⟨v',h1,h2⟩:=run_partA (w:=w) ok hcs h
     refine⟨v',?_,h2⟩
     have hc:(0:Int)≤(q:Int)∧(q:Int)<(len:Int):=by omega
     simp [hc,run_size ok he,h1,hlt]
    ·simp at h
   |_=>simp at h
  |_=>rw [hd] at h;simp at h
 ·simp at h
theorem run_fieldAddrA (ok:TabsOk tb) {t f:Nat} {x x' v:Value} (hx:VR E x x') (h:fieldAddrA tb t x f=some v) :
  ∃ v',(Instr.fieldAt t x' f).run tb.p w=.ok v' w∧VR E v v':=by
 unfold fieldAddrA at h
 obtain⟨j,hj,h⟩:=oB_some.1 h
 split at h
 ·rename_i a
  cases hx with
  |ptr hE =>
   split at h
   ·rename_i o s q hf
    split at h
    ·simp at h
    ·rename_i s'
     simp only [Option.some.injEq] at h;subst h
     have hfl:=(mkTI_some (ok.types t j hj)).2.2.2.2.2.1
     rw [hfl] at hf
     cases hd:j.d with
     |struct fs =>
      rw [hd] at hf
      simp only [List.getElem?_map] at hf
      obtain⟨q,hq1,hq2⟩:=Option.map_eq_some_iff.1 hf
      simp only [Prod.mk.injEq] at hq2
      obtain⟨rfl,h2,rfl⟩:=hq2
      have hq:fs[f]? = some q:=by simpa using hq1
      refine⟨_,?_,.ptr hE⟩
      unfold Instr.fieldAt
      have hs:∃ inf,tb.p.info? q.type=some inf∧inf.size=s'+1:=by
       unfold Program.cellsOf at h2
       cases hi:tb.p.info? q.type with
       |none=>simp [hi] at h2
       |some inf=>simp [hi] at h2;exact⟨inf,rfl,h2⟩
      obtain⟨inf,hi1,hi2⟩:=hs
      simp [run_ty ok hj,hd,hq,Instr.sureAddr,fieldPlace,sizeOf,typeInfo,hi1,hi2,add_none,addA,Nat.add_assoc]
     |_=>rw [hd] at hf;simp at hf
   ·simp at h
 ·simp at h
theorem run_indexAddrA (ok:TabsOk tb) {t:Nat} {x x' ix ix' v:Value} (hx:VR E x x') (hi:VR E ix ix') (h:indexAddrA tb t x ix=some v) :
  ∃ v',(Instr.indexAt t x' ix').run tb.p w=.ok v' w∧VR E v v':=by
 unfold indexAddrA at h
 split at h
 ·rename_i k q
  cases hi
  obtain⟨j,hj,h⟩:=oB_some.1 h
  cases hd:j.d with
  |array len elem =>
   rw [hd] at h
   cases hx with
   |ptr hE =>
    simp only at h
    split at h
    ·rename_i hb
     have hlt:q<len:=by simpa [Nat.blt_eq] using hb
     obtain⟨e,he,h⟩:=oB_some.1 h
     simp only [Option.some.injEq] at h;subst h
     refine⟨_,?_,.ptr hE⟩
     unfold Instr.indexAt
     simp [asIntOf,hd,Instr.sureAddr,hlt,run_size ok he,run_ty ok hj,add_none,addA,Nat.add_assoc]
    ·simp at h
   |_=>simp at h
  |slice elem =>
   rw [hd] at h
   have key:∀ (a:Addr) (i:Info) (len cap':Nat),E a.block=some i→(match Nat.blt q len with|true=>oB (ti tb elem) fun e=>some (Value.pointer (some (addA a (q*e.inf.size))))|false=>none)=some v →
     ∃ v',(Instr.indexAt t (.slice (some ⟨i.blk,i.shift+a.off,none⟩) len cap') (.int k q)).run tb.p w=.ok v' w∧VR E v v':=by
    intro a i len cap' hE h
    split at h
    ·rename_i hb
     have hlt:q<len:=by simpa [Nat.blt_eq] using hb
     obtain⟨e,he,h⟩:=oB_some.1 h
     simp only [Option.some.injEq] at h;subst h
     refine⟨_,?_,.ptr hE⟩
     unfold Instr.indexAt
     simp [asIntOf,run_ty ok hj,hd,hlt,run_size ok he,add_none,addA,Nat.add_assoc]
    ·simp at h
   cases hx with
   |sl l c hE=>simp only at h;exact key ⟨_,_,none⟩ _ _ _ hE h
   |slX l c hE=>simp only at h;exact key ⟨_,_,some 0⟩ _ _ _ hE h
   |slD a b=>simp only at h;rw [show Nat.blt q 0=false from rfl] at h;simp at h
   |slE0 hE hx=>simp only at h;rw [show Nat.blt q 0=false from rfl] at h;simp at h
   |slE1 hE hx=>simp only at h;rw [show Nat.blt q 0=false from rfl] at h;simp at h
   |_=>simp at h
  |_=>rw [hd] at h;simp at h
 ·simp at h
end
end Go.Ev

