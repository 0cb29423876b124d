/- A part of a proof: ScriptOwn. -/
import Derived.Test.YtgmkbdmgifdfeaaGreatDoorF11
set_option linter.unusedVariables false
set_option linter.unusedSimpArgs false
namespace Go.Ev
open Go.RowKit
structure DH where
 o:DOp
 vs:List Value
 k:HK
 v:Value
def memL (x:Nat):List Nat→Bool
 | []=>false
 |y::l=>match Nat.beq y x with|true=>true|false=>memL x l
def anyIn (bl:List Nat):List Nat→Bool
 | []=>false
 |e::es=>match memL e bl with|true=>true|false=>anyIn bl es
theorem memL_iff (x:Nat):∀ l,memL x l=true↔x∈l
 | []=>by simp [memL]
 |y::l=>by
  unfold memL
  by_cases h:y=x
  ·subst h;simp
  ·rw [beqF h];simp only [memL_iff x l,List.mem_cons];constructor
   ·exact .inr
   ·rintro (e|e)
    ·exact absurd e.symm h
    ·exact e
def dDeps (es nm:List Nat):List DH→Bool
 | []=>true
 |h::l=>match h.o.dst with
  |none=>dDeps es nm l
  |some d=>match memL d nm with
   |false=>dDeps es nm l
   |true=>match memL h.o.i es with
    |true=>dDeps es nm l
    |false=>false
def dMask (d:Option Tmp) (nm mk:List Nat):Option (List Nat) :=
 match d with
 |none=>some (nm++mk)
 |some d=>match memL d (nm++mk) with
  |true=>none
  |false=>some (d::(nm++mk))
def dAlone:List Nat→List DOp→Bool
 |_,[]=>true
 |bl,x::l=>match anyIn bl x.es with
  |true=>dAlone (x.i::bl) l
  |false=>false
section
variable (tb:Tabs)
def dCheckK (l:List Value) (m:Mem) (o:DOp) (vs:List Value) (v:Value):HK→Prop
 | .s=>wantX l o.g=false
 | .f _=>wantX l o.g=true∧evsL l o.op.operands.toList=vs∧vEqL vs vs=true
 | .r=>wantX l o.g=true∧evsL l o.op.operands.toList=vs∧vEqL vs vs=true∧(isPure o.op=true∨opA o.op tb (T.ofList l) m=.r v)
def dCheck (l:List Value) (m:Mem) (h:DH):Prop :=
 (match h.o.dst with|none=>True|some d=>evL l (.tmp d)=h.v)∧vEq 100 h.v h.v=true∧dCheckK tb l m h.o h.vs h.v h.k
def dRecheck (l:List Value) (m:Mem) (es:List Nat):List DH→Prop
 | []=>True
 |h::hs=>(memL h.o.i es=true∨dCheck tb l m h)∧dRecheck l m es hs
abbrev DK:=List DOp→List Value→Mem→List DH→List Nat→Prop
noncomputable def dPass (K:DK):List DOp→List Nat→List DOp→List Value→Mem→List DH→List Nat→Prop
 | [],bl,rem,l,m,hist,mk=>K rem.reverse l m hist mk
 |x::xs,bl,rem,l,m,hist,mk =>
  match anyIn bl x.es with
  |true=>dPass K xs (x.i::bl) (x::rem) l m hist mk
  |false=>dDeps x.es x.nm hist=true∧dstB x.dst l.length=true∧match wantX l x.g with
   |false=>∃ mk',dMask x.dst x.nm mk=some mk'∧dPass K xs bl rem (setSl x.dst undef l) m (⟨x,[],.s,undef⟩::hist) mk'
   |true=>match opA x.op tb (T.ofList l) m with
    | .r v=>∃ mk',dMask x.dst x.nm mk=some mk'∧dPass K xs bl rem (setSl x.dst v l) m (⟨x,evsL l x.op.operands.toList,.r,v⟩::hist) mk'
    | .f ob f=>∃ mk',dMask x.dst x.nm mk=some mk'∧dPass K xs bl rem (setSl x.dst (f m.next) l) (newObjA m ob) (⟨x,evsL l x.op.operands.toList,.f m.next,f m.next⟩::hist) mk'
    | .e _ _=>dPass K xs (x.i::bl) (x::rem) l m hist mk
    | .c=>dPass K xs (x.i::bl) (x::rem) l m hist mk
    | .bad=>False
variable (F:FC) (Q:PostA)
noncomputable def dNext (next:List DOp→List Value→List Deferred→Mem→List DH→List Nat→Prop) (ds:List Deferred) (rem:List DOp) (l:List Value) (m:Mem) (hist:List DH) (mk:List Nat):Prop :=
 match rem with
 | []=>Q .normal l ds m
 |o::r=>(dAlone [o.i] r&&dDeps o.es o.nm hist&&wantX l o.g)=true∧dstB o.dst l.length=true ∧
  match opA o.op tb (T.ofList l) m with
  | .e v m'=>dRecheck tb (setSl o.dst v l) m' o.es hist∧next r (setSl o.dst v l) ds m' hist mk
  | .c=>wpCallX tb F o.op o.ty l ds m (fun v ds m'=>dRecheck tb (setSl o.dst v l) m' o.es hist∧next r (setSl o.dst v l) ds m' hist mk) (fun ch m=>ds=[]∧Q (.pan ch) l ds m)
  |_=>False
noncomputable def wpD:Nat→List DOp→List Value→List Deferred→Mem→List DH→List Nat→Prop
 |0,_,_,_,_,_,_=>False
 |n+1,rem,l,ds,m,hist,mk=>dPass tb (dNext tb F Q (wpD n) ds) rem [] [] l m hist mk
end
section
variable {tb:Tabs} {F:FC} {Q:PostA}
theorem memL_false {x:Nat} {l:List Nat}:memL x l=false↔¬ x∈l:=by
 rw [← memL_iff,Bool.not_eq_true]
theorem bind_mem {l:List Edge} {i:Nat}:i∈bindOn l↔∃ e∈l,e.on=i∧Region.binds .any e=true:=by
 simp only [bindOn,List.mem_map,List.mem_filter]
 constructor
 ·rintro⟨e,⟨h1,h2⟩,h3⟩;exact⟨e,h1,h3,h2⟩
 ·rintro⟨e,h1,h3,h2⟩;exact⟨e,⟨h1,h2⟩,h3⟩
theorem anyIn_iff {bl:List Nat}:∀ {es:List Nat},anyIn bl es=true↔∃ e∈es,e∈bl
 | []=>by simp [anyIn]
 |e::es=>by
  unfold anyIn
  cases h:memL e bl with
  |true=>rw [memL_iff] at h;simp;exact .inl h
  |false=>rw [memL_false] at h;simp [anyIn_iff,h]
theorem blocked_iff {bl:List Nat}:∀ {l:List Edge},blockedBy bl l=true↔∃ e∈l,Region.binds .any e=true∧e.on∈bl
 | []=>by simp [blockedBy]
 |e::l=>by
  have hm:(bl.any (Nat.beq e.on))=true↔e.on∈bl:=by
   simp only [List.any_eq_true,Nat.beq_eq]
   constructor
   ·rintro⟨x,hx,rfl⟩;exact hx
   ·intro h;exact⟨_,h,rfl⟩
  unfold blockedBy
  cases hb:Region.binds .any e with
  |false =>
   simp only [blocked_iff,List.mem_cons];constructor
   ·rintro⟨x,h1,h2⟩;exact⟨x,.inr h1,h2⟩
   ·rintro⟨x,h1|h1,h2⟩
    ·subst h1;rw [hb] at h2;simp at h2
    ·exact⟨x,h1,h2⟩
  |true =>
   cases ha:bl.any (Nat.beq e.on) with
   |true=>simp only [List.mem_cons,true_iff];exact⟨e,.inl rfl,hb,hm.1 ha⟩
   |false =>
    simp only [blocked_iff,List.mem_cons]
    constructor
    ·rintro⟨x,h1,h2⟩;exact⟨x,.inr h1,h2⟩
    ·rintro⟨x,h1|h1,h2⟩
     ·subst h1;rw [hm.2 h2.2] at ha;cases ha
     ·exact⟨x,h1,h2⟩
theorem d_blocked (bl:List Nat) (l:List Edge):blockedBy bl l=anyIn bl (bindOn l):=by
 rw [Bool.eq_iff_iff,blocked_iff,anyIn_iff]
 constructor
 ·rintro⟨e,h1,h2,h3⟩;exact⟨e.on,bind_mem.2 ⟨e,h1,rfl,h2⟩,h3⟩
 ·rintro⟨i,h1,h2⟩
  obtain⟨e,h3,rfl,h4⟩:=bind_mem.1 h1
  exact⟨e,h3,h4,h2⟩
theorem edge_iff {i:Nat}:∀ {l:List Edge},edgeFrom i l=true↔∃ e∈l,e.on=i∧Region.binds .any e=true
 | []=>by simp [edgeFrom]
 |e::l=>by
  unfold edgeFrom
  by_cases h:e.on=i
  ·rw [h,Nat.beq_refl]
   cases hb:Region.binds .any e with
   |true=>simp only [List.mem_cons,true_iff];exact⟨e,.inl rfl,h,hb⟩
   |false =>
    simp only [edge_iff,List.mem_cons];constructor
    ·rintro⟨x,h1,h2⟩;exact⟨x,.inr h1,h2⟩
    ·rintro⟨x,h1|h1,h2⟩
     ·subst h1;rw [hb] at h2;simp at h2
     ·exact⟨x,h1,h2⟩
  ·rw [beqF h]
   simp only [edge_iff,List.mem_cons];constructor
   ·rintro⟨x,h1,h2⟩;exact⟨x,.inr h1,h2⟩
   ·rintro⟨x,h1|h1,h2⟩
    ·subst h1;exact absurd h2.1 h
    ·exact⟨x,h1,h2⟩
theorem d_edge (i:Nat) (l:List Edge):edgeFrom i l=memL i (bindOn l):=by
 rw [Bool.eq_iff_iff,edge_iff,memL_iff,bind_mem]
theorem maskOp_memL (d:Nat):∀ (l:List Operand) (k:Nat),Nat.testBit (maskOp l k) d=(Nat.testBit k d||memL d (tmpsOf l))
 | [],k=>by simp [maskOp,tmpsOf,memL]
 |x::l,k=>by
  cases x with
  |tmp t =>
   have h1:Nat.testBit (Nat.lor k (Nat.shiftLeft 1 t)) d=(Nat.testBit k d||decide (t=d)):=by
    show Nat.testBit (k ||| 1 <<< t) d=_
    rw [Nat.testBit_or,Nat.one_shiftLeft,Nat.testBit_two_pow]
   have h2:memL d (tmpsOf (.tmp t::l))=(decide (t=d)||memL d (tmpsOf l)):=by
    show memL d (t::tmpsOf l)=_
    by_cases e:t=d
    ·subst e;simp [memL]
    ·simp [memL,beqF e,e]
   simp only [maskOp]
   rw [maskOp_memL d l,h1,h2,Bool.or_assoc]
  |const v=>exact maskOp_memL d l k
  |global g=>exact maskOp_memL d l k
  |func f=>exact maskOp_memL d l k
theorem memL_append (d:Nat) (a b:List Nat):memL d (a++b)=(memL d a||memL d b):=by
 rw [Bool.eq_iff_iff,memL_iff];simp [memL_iff]
theorem names_bit (ops:Array Oper) (o:Oper) (k d:Nat):Nat.testBit (namesA ops o k) d=(memL d (gNames (stripG ops.toList o.guard)++tmpsOf o.op.operands.toList)||Nat.testBit k d):=by
 rw [memL_append]
 unfold namesA
 cases hg:o.guard with
 |none=>simp only [stripG,gNames,memL,Bool.false_or];rw [maskOp_memL,Bool.or_comm]
 |some g =>
  obtain⟨j,w⟩:=g
  simp only [stripG]
  cases hj:ops.toList[j]? with
  |none=>simp only [gNames,memL,Bool.false_or];rw [maskOp_memL,Bool.or_comm]
  |some oj =>
   simp only
   cases hd:oj.dst with
   |none=>simp only [gNames,memL,Bool.false_or];rw [maskOp_memL,Bool.or_comm]
   |some d' =>
    simp only [gNames]
    have h1:Nat.testBit (Nat.lor k (Nat.shiftLeft 1 d')) d=(Nat.testBit k d||decide (d'=d)):=by
     show Nat.testBit (k ||| 1 <<< d') d=_
     rw [Nat.testBit_or,Nat.one_shiftLeft,Nat.testBit_two_pow]
    have h2:memL d [d']=decide (d'=d):=by
     by_cases e:d'=d
     ·subst e;simp [memL]
     ·unfold memL;rw [beqF e];simp [e,memL]
    rw [maskOp_memL,h1,h2]
    cases Nat.testBit k d<;>cases decide (d'=d)<;>cases memL d (tmpsOf o.op.operands.toList)<;>rfl
def MkR (mask:Nat) (mk:List Nat):Prop:=∀ d,Nat.testBit mask d=memL d mk
theorem d_mask {ops:Array Oper} {x:Nat × Oper} {mask:Nat} {mk mk':List Nat} (h:MkR mask mk) (hm:dMask (dStrip ops.toList x).dst (dStrip ops.toList x).nm mk=some mk'):∃ mask',maskA ops x.2 mask=some mask'∧MkR mask' mk':=by
 have hb:∀ d,Nat.testBit (namesA ops x.2 mask) d=memL d ((dStrip ops.toList x).nm++mk):=fun d=>by
  rw [names_bit,h d]
  show _=memL d ((gNames (stripG ops.toList x.2.guard)++tmpsOf x.2.op.operands.toList)++mk)
  rw [memL_append (b:=mk)]
 unfold dMask at hm
 unfold maskA
 cases hd:x.2.dst with
 |none =>
  have:(dStrip ops.toList x).dst=none:=hd
  rw [this] at hm
  simp only [Option.some.injEq] at hm
  subst hm
  exact⟨_,rfl,hb⟩
 |some d =>
  have:(dStrip ops.toList x).dst=some d:=hd
  rw [this] at hm
  simp only at hm ⊢
  rw [hb d]
  split at hm<;>first|(simp at hm;done)|skip
  rename_i hf
  rw [hf]
  simp only [Option.some.injEq] at hm
  subst hm
  refine⟨_,rfl,fun d'=>?_⟩
  show Nat.testBit (namesA ops x.2 mask ||| 1 <<< d) d'=_
  rw [Nat.testBit_or,Nat.one_shiftLeft,Nat.testBit_two_pow,hb d']
  by_cases e:d=d'
  ·subst e;simp [memL]
  ·rw [show memL d' (d::((dStrip ops.toList x).nm++mk))=memL d' ((dStrip ops.toList x).nm++mk) from by
    conv=>lhs;unfold memL
    rw [beqF e]]
   simp [e]
def HistR (ops:Array Oper) (h:Hist) (d:DH):Prop:=d.o=dStrip ops.toList (h.i,h.o)∧d.vs=h.vs∧d.k=h.k∧d.v=h.v
inductive HistsR (ops:Array Oper):List Hist→List DH→Prop where
 |nil:HistsR ops [] []
 |cons {h:Hist} {d:DH} {l:List Hist} {k:List DH} (hd:HistR ops h d) (t:HistsR ops l k):HistsR ops (h::l) (d::k)
theorem d_deps {ops:Array Oper} {x:Nat × Oper}:∀ {hs:List Hist} {ds:List DH},HistsR ops hs ds→dDeps (dStrip ops.toList x).es (dStrip ops.toList x).nm ds=true→depsOk ops x.2 hs=true
 |_,_,.nil,_=>rfl
 |_,_,.cons (h:=h) (d:=d) hd t,hk=>by
  obtain⟨e1,e2,e3,e4⟩:=hd
  unfold dDeps at hk
  unfold depsOk
  rw [e1] at hk
  cases hdst:h.o.dst with
  |none =>
   have:(dStrip ops.toList (h.i,h.o)).dst=none:=hdst
   rw [this] at hk
   exact d_deps t hk
  |some d' =>
   have:(dStrip ops.toList (h.i,h.o)).dst=some d':=hdst
   rw [this] at hk
   simp only at hk ⊢
   have hb:Nat.testBit (namesA ops x.2 0) d'=memL d' (dStrip ops.toList x).nm:=by
    rw [names_bit];simp [dStrip]
   rw [hb]
   split at hk
   ·rename_i hf;rw [hf];exact d_deps t hk
   ·rename_i hf
    rw [hf]
    simp only
    rw [d_edge]
    split at hk
    ·rename_i he
     have he':memL h.i (bindOn x.2.after.toList)=true:=he
     rw [he'];exact d_deps t hk
    ·cases hk
theorem d_alone {ops:Array Oper}:∀ {l:List (Nat × Oper)} {bl:List Nat},dAlone bl (l.map (dStrip ops.toList))=true→alone bl l=true
 | [],_,_=>rfl
 | (i,o)::l,bl,h=>by
   simp only [List.map_cons,dAlone] at h
   simp only [alone,d_blocked]
   split at h
   ·rename_i hb
    have hb':anyIn bl (bindOn o.after.toList)=true:=hb
    rw [hb'];exact d_alone h
   ·cases h
theorem d_check {ops:Array Oper} {l:List Value} {m:Mem} {h:Hist} {d:DH} (hr:HistR ops h d) (hc:dCheck tb l m d):CheckP tb ops l m h:=by
 obtain⟨e1,e2,e3,e4⟩:=hr
 obtain⟨o,vs,k,v⟩:=d
 simp only at e1 e2 e3 e4
 subst e1;subst e2;subst e3;subst e4
 obtain⟨c1,c2,c3⟩:=hc
 refine⟨c1,c2,?_⟩
 simp only at c3
 cases hk:h.k with
 |s=>rw [hk] at c3;simp only [dCheckK] at c3;simp only;rw [wantX_eq];exact c3
 |f b=>rw [hk] at c3;simp only [dCheckK] at c3;simp only;rw [wantX_eq];exact c3
 |r=>rw [hk] at c3;simp only [dCheckK] at c3;simp only;rw [wantX_eq];exact c3
theorem d_recheck {ops:Array Oper} {l:List Value} {m:Mem} {after:List Edge}:∀ {hs:List Hist} {ds:List DH},HistsR ops hs ds→dRecheck tb l m (bindOn after) ds→recheckP tb ops l m after hs
 |_,_,.nil,_=>trivial
 |_,_,.cons (h:=h) (d:=d) hd t,⟨h1,h2⟩=>by
  refine⟨?_,d_recheck t h2⟩
  rcases h1 with h1|h1
  ·left;rw [d_edge]
   rw [hd.1] at h1;exact h1
  ·right;exact d_check hd h1
theorem d_pass {ops:Array Oper} {K:DK} {K':List (Nat × Oper)→List Value→Mem→List Hist→Nat→Prop} (hK:∀ rem l m hist mk hist' mask,HistsR ops hist' hist→MkR mask mk→K (rem.map (dStrip ops.toList)) l m hist mk→K' rem l m hist' mask) :
  ∀ (xs:List (Nat × Oper)) (bl:List Nat) (rem:List (Nat × Oper)) (l:List Value) (m:Mem) (hist:List DH) (mk:List Nat) (hist':List Hist) (mask:Nat),HistsR ops hist' hist→MkR mask mk →
    dPass tb K (xs.map (dStrip ops.toList)) bl (rem.map (dStrip ops.toList)) l m hist mk→wpPass tb ops K' xs bl rem l m hist' mask
 | [],bl,rem,l,m,hist,mk,hist',mask,hh,hm,h=>by
   simp only [List.map_nil,dPass,← List.map_reverse] at h
   exact hK _ _ _ _ _ _ _ hh hm h
 |x::xs,bl,rem,l,m,hist,mk,hist',mask,hh,hm,h=>by
  simp only [List.map_cons,dPass] at h
  unfold wpPass
  rw [d_blocked]
  split at h
  ·rename_i hb
   have hb':anyIn bl (bindOn x.2.after.toList)=true:=hb
   rw [hb']
   exact d_pass hK xs _ (x::rem) l m hist mk hist' mask hh hm h
  ·rename_i hb
   have hb':anyIn bl (bindOn x.2.after.toList)=false:=hb
   rw [hb']
   obtain⟨h1,h2,h3⟩:=h
   refine⟨d_deps hh h1,h2,?_⟩
   rw [wantX_eq]
   split at h3
   ·rename_i hw
    have hw':wantX l (stripG ops.toList x.2.guard)=false:=hw
    rw [hw']
    obtain⟨mk',g1,g2⟩:=h3
    obtain⟨mask',q1,q2⟩:=d_mask hm g1
    exact⟨mask',q1,d_pass hK xs _ rem _ m _ mk' _ mask' (.cons ⟨rfl,rfl,rfl,rfl⟩ hh) q2 g2⟩
   ·rename_i hw
    have hw':wantX l (stripG ops.toList x.2.guard)=true:=hw
    rw [hw']
    have e:opA x.2.op tb (T.ofList l) m=opA (dStrip ops.toList x).op tb (T.ofList l) m:=_root_.id rfl
    rw [e]
    split at h3
    ·rename_i v ho
     obtain⟨mk',g1,g2⟩:=h3
     obtain⟨mask',q1,q2⟩:=d_mask hm g1
     rw [ho]
     exact⟨mask',q1,d_pass hK xs _ rem _ m _ mk' _ mask' (.cons ⟨rfl,rfl,rfl,rfl⟩ hh) q2 g2⟩
    ·rename_i ob f ho
     obtain⟨mk',g1,g2⟩:=h3
     obtain⟨mask',q1,q2⟩:=d_mask hm g1
     rw [ho]
     exact⟨mask',q1,d_pass hK xs _ rem _ _ _ mk' _ mask' (.cons ⟨rfl,rfl,rfl,rfl⟩ hh) q2 g2⟩
    ·rename_i ho;rw [ho];exact d_pass hK xs _ (x::rem) l m hist mk hist' mask hh hm h3
    ·rename_i ho;rw [ho];exact d_pass hK xs _ (x::rem) l m hist mk hist' mask hh hm h3
    ·exact h3.elim
theorem d_ok {ops:Array Oper}:∀ (n:Nat) (rem:List (Nat × Oper)) (l:List Value) (ds:List Deferred) (m:Mem) (hist:List DH) (mk:List Nat) (hist':List Hist) (mask:Nat),HistsR ops hist' hist→MkR mask mk →
  wpD tb F Q n (rem.map (dStrip ops.toList)) l ds m hist mk→wpDr tb ops F Q n rem l ds m hist' mask
 |0,_,_,_,_,_,_,_,_,_,_,h=>h
 |n+1,rem,l,ds,m,hist,mk,hist',mask,hh,hm,h=>by
  refine d_pass (K:=dNext tb F Q (wpD tb F Q n) ds) ?_ rem [] [] l m hist mk hist' mask hh hm h
  intro rem l m hist mk hist' mask hh hm h
  cases rem with
  |nil=>exact h
  |cons x r =>
   obtain⟨i,o⟩:=x
   obtain⟨h1,h2,h3⟩:=h
   simp only [Bool.and_eq_true] at h1
   refine⟨?_,h2,?_⟩
   ·have ha:dAlone [i] (r.map (dStrip ops.toList))=true:=h1.1.1
    rw [d_alone ha,d_deps (x:=(i,o)) hh h1.1.2,wantX_eq]
    have hw:wantX l (stripG ops.toList o.guard)=true:=h1.2
    rw [hw];rfl
   ·have e:opA o.op tb (T.ofList l) m=opA (dStrip ops.toList (i,o)).op tb (T.ofList l) m:=_root_.id rfl
    rw [e]
    split at h3
    ·rename_i v m' ho
     rw [ho]
     exact⟨d_recheck hh h3.1,d_ok n r _ ds m' hist mk hist' mask hh hm h3.2⟩
    ·rename_i ho
     rw [ho]
     exact wpCallOp_mono (wpCallX_ok h3) (fun v ds m' hx=>⟨d_recheck hh hx.1,d_ok n r _ ds m' hist mk hist' mask hh hm hx.2⟩) fun ch m h=>h
    ·exact h3.elim
theorem xdrw {l:List Value} {ds:List Deferred} {m:Mem} {xs:List DOp} (n:Nat) (h:∀ Q',Q'=Q→wpD tb F Q' n xs l ds m [] []):wpX tb F (.drw xs) l ds m Q:=fun c' hs=>by
 unfold strip at hs
 split at hs<;>first|contradiction|skip
 cases hs
 exact wp_draw n (d_ok n _ l ds m [] [] [] 0 .nil (fun d=>by simp [memL]) (h Q rfl))
variable {l:List Value} {ds:List Deferred} {m:Mem} {K:DK} {bl:List Nat} {rem xs:List DOp} {hist:List DH} {mk:List Nat}
variable (tb)
noncomputable def dSt (K:DK) (x:DOp) (xs:List DOp) (r:OR) (bl:List Nat) (rem:List DOp) (l:List Value) (m:Mem) (hist:List DH) (mk:List Nat):Prop:=match r with
 | .r v=>∃ mk',dMask x.dst x.nm mk=some mk'∧dPass tb K xs bl rem (setSl x.dst v l) m (⟨x,evsL l x.op.operands.toList,.r,v⟩::hist) mk'
 | .f ob f=>∃ mk',dMask x.dst x.nm mk=some mk'∧dPass tb K xs bl rem (setSl x.dst (f m.next) l) (newObjA m ob) (⟨x,evsL l x.op.operands.toList,.f m.next,f m.next⟩::hist) mk'
 | .e _ _=>dPass tb K xs (x.i::bl) (x::rem) l m hist mk
 | .c=>dPass tb K xs (x.i::bl) (x::rem) l m hist mk
 | .bad=>False
noncomputable def dGd (K:DK) (x:DOp) (xs:List DOp) (w:Bool) (bl:List Nat) (rem:List DOp) (l:List Value) (m:Mem) (hist:List DH) (mk:List Nat):Prop:=match w with
 |false=>∃ mk',dMask x.dst x.nm mk=some mk'∧dPass tb K xs bl rem (setSl x.dst undef l) m (⟨x,[],.s,undef⟩::hist) mk'
 |true=>dSt tb K x xs (opA x.op tb (T.ofList l) m) bl rem l m hist mk
noncomputable def dBl (K:DK) (x:DOp) (xs:List DOp) (b:Bool) (bl:List Nat) (rem:List DOp) (l:List Value) (m:Mem) (hist:List DH) (mk:List Nat):Prop:=match b with
 |true=>dPass tb K xs (x.i::bl) (x::rem) l m hist mk
 |false=>dDeps x.es x.nm hist=true∧dstB x.dst l.length=true∧dGd tb K x xs (wantX l x.g) bl rem l m hist mk
noncomputable def dNx (F:FC) (Q:PostA) (next:List DOp→List Value→List Deferred→Mem→List DH→List Nat→Prop) (o:DOp) (r:List DOp) (x:OR) (ds:List Deferred) (l:List Value) (m:Mem) (hist:List DH) (mk:List Nat):Prop:=match x with
 | .e v m'=>dRecheck tb (setSl o.dst v l) m' o.es hist∧next r (setSl o.dst v l) ds m' hist mk
 | .c=>wpCallX tb F o.op o.ty l ds m (fun v ds m'=>dRecheck tb (setSl o.dst v l) m' o.es hist∧next r (setSl o.dst v l) ds m' hist mk) (fun ch m=>ds=[]∧Q (.pan ch) l ds m)
 |_=>False
variable {tb}
theorem dPass_nil:dPass tb K [] bl rem l m hist mk=K rem.reverse l m hist mk:=_root_.id rfl
theorem dPass_cons (x:DOp):dPass tb K (x::xs) bl rem l m hist mk=dBl tb K x xs (anyIn bl x.es) bl rem l m hist mk:=_root_.id rfl
theorem dBl_true (x:DOp):dBl tb K x xs true bl rem l m hist mk=dPass tb K xs (x.i::bl) (x::rem) l m hist mk:=_root_.id rfl
theorem dBl_false (x:DOp):dBl tb K x xs false bl rem l m hist mk=(dDeps x.es x.nm hist=true∧dstB x.dst l.length=true∧dGd tb K x xs (wantX l x.g) bl rem l m hist mk):=_root_.id rfl
theorem dGd_false (x:DOp):dGd tb K x xs false bl rem l m hist mk=∃ mk',dMask x.dst x.nm mk=some mk'∧dPass tb K xs bl rem (setSl x.dst undef l) m (⟨x,[],.s,undef⟩::hist) mk':=_root_.id rfl
theorem dGd_true (x:DOp):dGd tb K x xs true bl rem l m hist mk=dSt tb K x xs (opA x.op tb (T.ofList l) m) bl rem l m hist mk:=_root_.id rfl
theorem dSt_r (x:DOp) (v:Value):dSt tb K x xs (.r v) bl rem l m hist mk=∃ mk',dMask x.dst x.nm mk=some mk'∧dPass tb K xs bl rem (setSl x.dst v l) m (⟨x,evsL l x.op.operands.toList,.r,v⟩::hist) mk':=_root_.id rfl
theorem dSt_f (x:DOp) (ob:AObj) (f:Nat→Value):dSt tb K x xs (.f ob f) bl rem l m hist mk=∃ mk',dMask x.dst x.nm mk=some mk'∧dPass tb K xs bl rem (setSl x.dst (f m.next) l) (newObjA m ob) (⟨x,evsL l x.op.operands.toList,.f m.next,f m.next⟩::hist) mk':=_root_.id rfl
theorem dSt_e (x:DOp) (v:Value) (m':Mem):dSt tb K x xs (.e v m') bl rem l m hist mk=dPass tb K xs (x.i::bl) (x::rem) l m hist mk:=_root_.id rfl
theorem dSt_c (x:DOp):dSt tb K x xs .c bl rem l m hist mk=dPass tb K xs (x.i::bl) (x::rem) l m hist mk:=_root_.id rfl
theorem dNext_nil (next:List DOp→List Value→List Deferred→Mem→List DH→List Nat→Prop):dNext tb F Q next ds [] l m hist mk=Q .normal l ds m:=_root_.id rfl
theorem dNext_cons (next:List DOp→List Value→List Deferred→Mem→List DH→List Nat→Prop) (o:DOp) (r:List DOp):dNext tb F Q next ds (o::r) l m hist mk=((dAlone [o.i] r&&dDeps o.es o.nm hist&&wantX l o.g)=true∧dstB o.dst l.length=true∧dNx tb F Q next o r (opA o.op tb (T.ofList l) m) ds l m hist mk):=by
 cases h:opA o.op tb (T.ofList l) m<;>simp only [dNext,dNx,h]
theorem dNx_e (next:List DOp→List Value→List Deferred→Mem→List DH→List Nat→Prop) (o:DOp) (r:List DOp) (v:Value) (m':Mem):dNx tb F Q next o r (.e v m') ds l m hist mk=(dRecheck tb (setSl o.dst v l) m' o.es hist∧next r (setSl o.dst v l) ds m' hist mk):=_root_.id rfl
theorem dNx_c (next:List DOp→List Value→List Deferred→Mem→List DH→List Nat→Prop) (o:DOp) (r:List DOp):dNx tb F Q next o r .c ds l m hist mk=wpCallX tb F o.op o.ty l ds m (fun v ds m'=>dRecheck tb (setSl o.dst v l) m' o.es hist∧next r (setSl o.dst v l) ds m' hist mk) (fun ch m=>ds=[]∧Q (.pan ch) l ds m):=_root_.id rfl
theorem wpD_succ (n:Nat):wpD tb F Q (n+1) rem l ds m hist mk=dPass tb (dNext tb F Q (wpD tb F Q n) ds) rem [] [] l m hist mk:=_root_.id rfl
theorem vEq_b (d:Nat) (b:Bool):vEq (d+1) (.bool b) (.bool b)=true:=by simp [vEq]
theorem vEq_i (d:Nat) (k:IntKind) (n:Int):vEq (d+1) (.int k n) (.int k n)=true:=by simp [vEq,kEq_self,intEq_eq]
theorem vEq_s (d:Nat) (s:ByteArray):vEq (d+1) (.string s) (.string s)=true:=by simp [vEq,bytesEq_eq]
theorem vEq_p (d b o:Nat) (s:Option Nat):vEq (d+1) (.pointer (some ⟨b,o,s⟩)) (.pointer (some ⟨b,o,s⟩))=true:=by cases s<;>simp [vEq]
theorem vEq_l (d:Nat) (a:Option Addr) (n c:Nat):vEq (d+1) (.slice a n c) (.slice a n c)=true:=by
 cases a with
 |none=>simp [vEq]
 |some a=>obtain⟨b,o,s⟩:=a;cases s<;>simp [vEq]
theorem vEq_a {d:Nat} {l:List Value} (h:∀ v∈l,vEq d v v=true):vEq (d+1) (.agg ⟨l⟩) (.agg ⟨l⟩)=true:=by
 simp only [vEq,Nat.beq_refl,Bool.true_and]
 rw [List.all_eq_true]
 rintro⟨x,y⟩ hxy
 have:x=y∧x∈l:=by
  clear h
  induction l with
  |nil=>simp at hxy
  |cons a l ih =>
   simp only [List.zip_cons_cons,List.mem_cons,Prod.mk.injEq] at hxy
   rcases hxy with ⟨rfl,rfl⟩|hxy
   ·simp
   ·obtain⟨rfl,h2⟩:=ih hxy;exact⟨rfl,.tail _ h2⟩
 obtain⟨rfl,h1⟩:=this
 exact h x h1
end
end Go.Ev

namespace Go.Ev
open Go.RowKit
def renA (G k:Nat) (a:Addr):Addr:=⟨k+(a.block-G),a.off,a.spot⟩
def okA (G:Nat) (a:Addr):Bool:=Nat.ble G a.block&&a.spot.isNone
def renP (G k:Nat):Value→Value
 | .pointer (some a)=>.pointer (some (renA G k a))
 |v=>v
def okP (G:Nat):Value→Bool
 | .pointer (some a)=>okA G a
 | .func (.func _) ⟨[]⟩ ⟨[]⟩=>true
 |v=>flatV v
def renV (G k:Nat):Value→Value
 | .pointer (some a)=>.pointer (some (renA G k a))
 | .slice (some a) l c=>.slice (some (renA G k a)) l c
 | .func fn ⟨f⟩ ⟨c⟩=>.func fn ⟨f.map (renP G k)⟩ ⟨c.map (renP G k)⟩
 |v=>v
def okV (G:Nat):Value→Bool
 | .pointer (some a)=>okA G a
 | .slice (some a) _ _=>okA G a
 | .func (.func _) ⟨f⟩ ⟨c⟩=>f.all (okP G)&&c.all (okP G)
 |v=>flatV v
def Env.ren (G k:Nat) (E1 E':Env):Prop:=∀ b i,G≤b→E1 b=some i→E' (k+(b-G))=some i
section
variable {G k:Nat} {E1 E':Env}
theorem VR.flat {E E':Env} {v v':Value} (h:flatV v=true) (hv:VR E v v'):VR E' v v':=by
 cases hv<;>simp_all [flatV]<;>constructor
theorem ren_ptr (he:Env.ren G k E1 E') {a:Addr} {v':Value} (h:okA G a=true) (hv:VR E1 (.pointer (some a)) v'):VR E' (.pointer (some (renA G k a))) v':=by
 obtain⟨b,o,s⟩:=a
 simp only [okA,Bool.and_eq_true,Nat.ble_eq] at h
 cases hv with
 |ptr hE=>exact .ptr (he _ _ h.1 hE)
theorem ren_P (he:Env.ren G k E1 E') {v v':Value} (h:okP G v=true) (hv:VR E1 v v'):VR E' (renP G k v) v':=by
 unfold okP at h
 split at h
 ·exact ren_ptr he h hv
 ·cases hv with
  |func hf h1 h2=>cases h1;cases h2;exact .func hf .nil .nil
 ·rename_i h1 h2
  have:renP G k v=v:=by
   unfold renP;split
   ·exact absurd rfl (h1 _)
   ·rfl
  rw [this];exact hv.flat h
theorem ren_Ps (he:Env.ren G k E1 E'):∀ {l l':List Value},l.all (okP G)=true→VRs E1 l l'→VRs E' (l.map (renP G k)) l'
 |_,_,_,.nil=>.nil
 |_,_,h,.cons hv t=>by
  simp only [List.all_cons,Bool.and_eq_true] at h
  exact .cons (ren_P he h.1 hv) (ren_Ps he h.2 t)
theorem ren_V (he:Env.ren G k E1 E') {v v':Value} (h:okV G v=true) (hv:VR E1 v v'):VR E' (renV G k v) v':=by
 unfold okV at h
 split at h
 ·exact ren_ptr he h hv
 ·rename_i a l c
  obtain⟨b,o,s⟩:=a
  simp only [okA,Bool.and_eq_true,Nat.ble_eq] at h
  obtain⟨h1,h2⟩:=h
  cases s with
  |some s=>cases h2
  |none=>cases hv with
   |sl _ _ hE=>exact .sl _ _ (he _ _ h1 hE)
   |slD _ hE=>exact .slD _ (he _ _ h1 hE)
 ·simp only [Bool.and_eq_true] at h
  cases hv with
  |func hf h1 h2=>exact .func hf (ren_Ps he h.1 h1) (ren_Ps he h.2 h2)
 ·rename_i h1 h2 h3
  have:renV G k v=v:=by
   unfold renV;split
   ·exact absurd rfl (h1 _)
   ·exact absurd rfl (h2 _ _ _)
   ·simp [flatV] at h
   ·rfl
  rw [this];exact hv.flat h
end
structure CRow where
 elem:TypeId
 ext:Bool
 cells:List Value
def CRow.ren (G k:Nat) (r:CRow):CRow:=⟨r.elem,r.ext,r.cells.map (renV G k)⟩
noncomputable def CRow.obj (r:CRow):AObj:=rowObj r.elem r.cells .none r.ext
noncomputable def layRows (m:Mem) (l:List CRow):Mem:=⟨T.setL (l.map CRow.obj) m.next m.objs,m.next+l.length⟩
theorem layRows_next (m:Mem) (l:List CRow):(layRows m l).next=m.next+l.length:=rfl
theorem layRows_get (m:Mem) (l:List CRow) (b:Nat):(layRows m l).objs.get b=if b<m.next then m.objs.get b else if b<m.next+l.length then (l.map CRow.obj)[b-m.next]? else m.objs.get b:=by
 unfold layRows
 simp only [T.get_setL,List.length_map]
theorem layRows_old (m:Mem) (l:List CRow):Old m.next m (layRows m l):=⟨by rw [layRows_next];omega,fun x hx=>by rw [layRows_get,if_pos hx]⟩
theorem layRows_vw (m:Mem) (l:List CRow) {j:Nat} {r:CRow} (h:l[j]? = some r):vw (layRows m l) (m.next+j)=some ⟨true,r.elem,r.ext,r.cells⟩:=by
 have hj:j<l.length:=(List.getElem?_eq_some_iff.1 h).1
 unfold vw
 rw [layRows_get,if_neg (by omega),if_pos (by omega),show m.next+j-m.next=j from by omega,List.getElem?_map,h]
 exact vwO_rowObj _ _ _
def ranTo (G:Nat) (r:Option (Value × Mem)) (v:Value) (l:List CRow):Prop :=
 ∃ M,r=some (v,M)∧M.next=G+l.length∧(okV G v&&l.all fun r=>r.cells.all (okV G))=true∧∀ j r,l[j]? = some r→vw M (G+j)=some ⟨true,r.elem,r.ext,r.cells⟩
theorem row_ren {P:Program} {G k:Nat} {E1 E':Env} {i:Info} {M:Mem} {b:Nat} {r:CRow} {w:World} {N:Nat} {w0:World} (he:Env.ren G k E1 E') (H:MR P N w0 E1 M w) (hE:E1 b=some i)
  (hv:vw M b=some ⟨true,r.elem,r.ext,r.cells⟩) (hok:r.cells.all (okV G)=true):∃ ob,w.heap[i.blk]? = some ob∧ObjR P E' i (r.ren G k).obj ob∧N≤i.blk:=by
 obtain⟨q,h1,h2,h3,h4,h5,h6,h7,h8⟩:=vw_spec hv
 have hq:=rowW_some (h7 rfl)
 obtain⟨ob,g1,g2⟩:=H.objs b i _ hE hq rfl
 refine⟨ob,g1,?_,H.own b i _ hE hq rfl⟩
 cases g2 with
 |row R =>
  simp only at h2 h3 h4
  refine .row ⟨by show _=r.elem;rw [← h3];exact R.elem,?_,?_,?_,?_⟩
  ·intro j v hj
   have hj':(r.cells.map (renV G k))[j]? = some v:=by
    have:vwRow true ⟨T.ofList (r.cells.map (renV G k)),(r.cells.map (renV G k)).length,[],r.elem,.none,r.ext⟩=_:=vwO_rowObj r.elem (r.cells.map (renV G k)) r.ext
    obtain⟨h0,_,_,_,_,k6⟩:=vwRow_spec this
    simp only at k6
    rw [← k6 j];exact hj
   rw [List.getElem?_map,Option.map_eq_some_iff] at hj'
   obtain⟨u,hu,rfl⟩:=hj'
   obtain⟨v',g3,g4⟩:=R.cell j u (by rw [h6];exact hu)
   exact⟨v',g3,ren_V he (List.all_eq_true.1 hok u (List.mem_of_getElem? hu)) g4⟩
  ·show _=i.shift+(r.cells.map (renV G k)).length+i.extra*P.cellsOf r.elem
   rw [List.length_map,← h2,← h3];exact R.size
  ·intro hx;exact R.exact' (by rw [h4];exact hx)
  ·have:=R.fz;rw [h5] at this;exact this
theorem closed_calls [E0C] {P:Program} {G N:Nat} {w0:World} (pk:∀ (I:E0C) (N':Nat) (w0':World),@ProgOk I (mkTabs P G .lf) N' G w0') {f:FuncId} {n:Nat} {v:Value} {l:List CRow} (hr:ranTo G (runF (mkTabs P G .lf) n f [] ⟨.lf,G⟩) v l)
  {E:Env} {m:Mem} {w:World} (HM:MR P N w0 E m w) (HG:GlobE G E) (hGn:G≤m.next) :
  Calls P f #[] w fun e w'=>∃ v' E',e=.returned v'∧VR E' (renV G m.next v) v'∧MR P N w0 E' (layRows m (l.map (CRow.ren G m.next))) w'∧MExt m.next E m E' (layRows m (l.map (CRow.ren G m.next))):=by
 obtain⟨M,hrun,hnext,hok,hrows⟩:=hr
 simp only [Bool.and_eq_true] at hok
 obtain⟨hokv,hokl⟩:=hok
 have hGh:G≤w.heap.size:=by
  cases G with
  |zero=>omega
  |succ g=>have:=HM.ub g _ (HG.g g (by omega));exact this
 have H0:MR (mkTabs P G .lf).p w.heap.size w (Env.globs G) ⟨.lf,G⟩ w:=by
  refine⟨fun b i o _ ho=>?_,fun b i hb=>?_,fun b hb=>⟨T.get_lf _,by unfold Env.globs;rw [if_neg (by show ¬ b<G;have:G≤b:=hb;omega)]⟩,fun b b' i i' o o' _ _ _ ho=>?_,fun b i o _ ho=>?_,.refl _ _,Nat.le_refl _⟩
  ·rw [T.get_lf] at ho;cases ho
  ·unfold Env.globs at hb;split at hb
   ·cases hb;show b<_;omega
   ·cases hb
  ·rw [T.get_lf] at ho;cases ho
  ·rw [T.get_lf] at ho;cases ho
 refine ((letI:E0C:=.none;calls_of_runF (pk .none w.heap.size w) H0 (globs_ok G) .nil n hrun)).mono ?_
 rintro e w' ⟨v',E1,rfl,hvr,H1⟩
 let E':Env:=fun b=>if b<m.next then E b else if b<m.next+l.length then E1 (b-m.next+G) else none
 have hEold:∀ b,b<m.next→E' b=E b:=fun b hb=>if_pos hb
 have hEnew:∀ b i,m.next≤b→E' b=some i→b<m.next+l.length∧E1 (b-m.next+G)=some i:=by
  intro b i hb h
  simp only [E'] at h
  rw [if_neg (by omega)] at h
  split at h
  ·rename_i h2;exact⟨h2,h⟩
  ·cases h
 have hle:Env.le E E':=fun b i hb=>by
  by_cases h:b<m.next
  ·rw [hEold b h];exact hb
  ·rw [(HM.dom b (by omega)).2] at hb;cases hb
 have hren:Env.ren G m.next E1 E':=fun b i hb h=>by
  have hlt:b<G+l.length:=by
   by_cases h2:M.next≤b
   ·rw [(H1.dom b h2).2] at h;cases h
   ·omega
  simp only [E']
  rw [if_neg (by omega),if_pos (by omega),show m.next+(b-G)-m.next+G=b from by omega];exact h
 have hrow:∀ b i,m.next≤b→E' b=some i→∃ r:CRow,(l.map (CRow.ren G m.next))[b-m.next]? = some (r.ren G m.next)∧∃ ob,w'.heap[i.blk]? = some ob∧ObjR P E' i (r.ren G m.next).obj ob∧w.heap.size≤i.blk:=by
  intro b i hb h
  obtain⟨h1,h2⟩:=hEnew b i hb h
  have hj:l[b-m.next]? = some (l[b-m.next]'(by omega)):=List.getElem?_eq_getElem _
  refine⟨_,by rw [List.getElem?_map,hj];rfl,?_⟩
  have hv:=hrows _ _ hj
  rw [show G+(b-m.next)=b-m.next+G from by omega] at hv
  exact row_ren hren H1 h2 hv (List.all_eq_true.1 hokl _ (List.mem_of_getElem? hj))
 have hget:∀ b o,m.next≤b→(layRows m (l.map (CRow.ren G m.next))).objs.get b=some o→(∃ i,E' b=some i)→∃ r:CRow,(l.map (CRow.ren G m.next))[b-m.next]? = some r∧o=r.obj:=by
  intro b o hb ho ⟨i,hi⟩
  obtain⟨h1,_⟩:=hEnew b i hb hi
  rw [layRows_get,if_neg (by omega),if_pos (by rw [List.length_map];exact h1),List.getElem?_map,Option.map_eq_some_iff] at ho
  obtain⟨r,hr,rfl⟩:=ho
  exact⟨r,hr,rfl⟩
 refine⟨v',E',rfl,ren_V hren hokv hvr,⟨?_,?_,?_,?_,?_,?_,?_⟩,⟨hle,?_,?_⟩⟩
 ·intro b i o hb ho hl
  by_cases h:b<m.next
  ·rw [layRows_get,if_pos h] at ho
   rw [hEold b h] at hb
   obtain⟨ob,h1,h2⟩:=HM.objs b i o hb ho hl
   exact⟨ob,by rw [H1.base.block _ (HM.ub b i hb)];exact h1,h2.mono hle⟩
  ·obtain⟨r,h1,h2⟩:=hget b o (by omega) ho ⟨i,hb⟩
   obtain⟨r',h3,ob,h4,h5,h6⟩:=hrow b i (by omega) hb
   obtain rfl:=Option.some.inj (h1.symm.trans h3)
   subst h2
   exact⟨ob,h4,h5⟩
 ·intro b i hb
  by_cases h:b<m.next
  ·rw [hEold b h] at hb
   have:=HM.ub b i hb
   have:=H1.base.size;omega
  ·exact H1.ub _ i (hEnew b i (by omega) hb).2
 ·intro b hb
  rw [layRows_next,List.length_map] at hb
  refine⟨?_,?_⟩
  ·rw [layRows_get,if_neg (by omega),if_neg (by rw [List.length_map];omega)]
   exact (HM.dom b (by omega)).1
  ·simp only [E'];rw [if_neg (by omega),if_neg (by omega)]
 ·intro b b' i i' o o' hne hb hb' ho ho' hl hl'
  have key:∀ (b b':Nat) (i i':Info),b<m.next→m.next≤b'→E' b=some i→E' b'=some i'→i.blk≠i'.blk:=by
   intro b b' i i' h1 h2 h3 h4
   rw [hEold b h1] at h3
   have h5:=HM.ub b i h3
   obtain⟨r',_,ob,_,_,h6⟩:=hrow b' i' h2 h4
   omega
  by_cases h:b<m.next
  ·by_cases h':b'<m.next
   ·rw [layRows_get,if_pos h] at ho
    rw [layRows_get,if_pos h'] at ho'
    rw [hEold b h] at hb
    rw [hEold b' h'] at hb'
    exact HM.inj b b' i i' o o' hne hb hb' ho ho' hl hl'
   ·exact key b b' i i' h (by omega) hb hb'
  ·by_cases h':b'<m.next
   ·exact (key b' b i' i h' (by omega) hb' hb).symm
   ·obtain⟨h1,h2⟩:=hEnew b i (by omega) hb
    obtain⟨h3,h4⟩:=hEnew b' i' (by omega) hb'
    have hj:l[b-m.next]? = some (l[b-m.next]'(by omega)):=List.getElem?_eq_getElem _
    have hj':l[b'-m.next]? = some (l[b'-m.next]'(by omega)):=List.getElem?_eq_getElem _
    have hv:=hrows _ _ hj
    have hv':=hrows _ _ hj'
    obtain⟨q,_,_,_,_,_,_,k1,_⟩:=vw_spec hv
    obtain⟨q',_,_,_,_,_,_,k1',_⟩:=vw_spec hv'
    have e1:=rowW_some (k1 rfl)
    have e2:=rowW_some (k1' rfl)
    rw [show G+(b-m.next)=b-m.next+G from by omega] at e1
    rw [show G+(b'-m.next)=b'-m.next+G from by omega] at e2
    exact H1.inj _ _ i i' _ _ (by omega) h2 h4 e1 e2 rfl rfl
 ·intro b i o hb ho hown
  by_cases h:b<m.next
  ·rw [layRows_get,if_pos h] at ho
   rw [hEold b h] at hb
   exact HM.own b i o hb ho hown
  ·obtain⟨r',_,ob,_,_,h6⟩:=hrow b i (by omega) hb
   have:=HM.size;omega
 ·have:=HM.size
  exact HM.base.trans (H1.base.mono this)
 ·have:=HM.size;have:=H1.base.size;omega
 ·intro b hb hn
  refine⟨by rw [hEold b hb];exact hn,by rw [layRows_get,if_pos hb]⟩
 ·rw [layRows_next];omega
theorem progOk_ov [E0C] {P:Program} {G N:Nat} {w0:World} {ov:T (List Value→Mem→Option (Value × Mem))} (pk:ProgOk (mkTabs P G .lf) N G w0)
  (h:∀ f g,ov.get f=some g→(∃ fn c,P.funcs[f]? = some fn∧fn.body=some c)∧∀ args m v m',g args m=some (v,m')→∀ (E:Env) (args':List Value) (w:World),MR P N w0 E m w→GlobE G E→VRs E args args' →
   Calls P f ⟨args'⟩ w fun e w'=>∃ v' E',e=.returned v'∧VR E' v v'∧MR P N w0 E' m' w'∧MExt m.next E m E' m'):ProgOk (mkTabs P G ov) N G w0:=by
 refine⟨mkTabs_ok _ _ _,rfl,pk.names,pk.codes,pk.ext,fun f g args m v m' hg hr E args' w HM HG ha=>?_⟩
 obtain⟨⟨fn,c,h1,h2⟩,h3⟩:=h f g hg
 refine⟨?_,h3 args m v m' hr E args' w HM HG ha⟩
 have:(mkTabs P G .lf).funcs.get f=some fn:=by
  simp only [mkTabs,T.get_ofList];simpa using h1
 exact run_callFunc pk this h2 _
noncomputable def memO (r:Option (Value × Mem)):Mem:=match r with|some (_,M)=>M|none=>⟨.lf,0⟩
theorem ranTo_of {G:Nat} {r:Option (Value × Mem)} {v:Value} {l:List CRow} (h1:r=some (v,memO r)) (h2:Nat.beq (memO r).next (G+l.length)=true) (h3:(okV G v&&l.all fun r=>r.cells.all (okV G))=true)
  (h4:(List.range l.length).map (fun j=>vw (memO r) (G+j))=l.map fun r=>some ⟨true,r.elem,r.ext,r.cells⟩):ranTo G r v l:=by
 refine⟨_,h1,Nat.eq_of_beq_eq_true h2,h3,fun j r' hj=>?_⟩
 have hlt:=(List.getElem?_eq_some_iff.1 hj).1
 have:=congrArg (fun x=>x[j]?) h4
 simp only [List.getElem?_map,List.getElem?_range hlt,hj,Option.map_some,Option.some.injEq] at this
 exact this
theorem calls_out {tb:Tabs} {N G:Nat} {w0:World} {E:Env} {m:Mem} {w:World} (pk:∀ (I:E0C),@ProgOk I tb N G w0) {f:FuncId} {args args':List Value} {R:Value→Mem→Prop} (HM:MR tb.p N w0 E m w) (HG:∀ b,b<G→E b=some ⟨b,0,0⟩) (ha:VRs E args args')
  (h:CallsA tb f args m fun out m'=>∃ v,out=.ret v∧R v m') :
  Calls tb.p f ⟨args'⟩ w fun e w'=>∃ v v' E' m',R v m'∧e=.returned v'∧VR E' v v'∧MR tb.p N w0 E' m' w':=by
 letI I:E0C:=.none
 exact calls_of_callsA (pk I) HM (GlobE.of HG (fun _ _ h=>by cases h)) ha h
end Go.Ev

namespace Go.Ev
open Go.RowKit
mutual
theorem VR.back {E E':Env} (hE:Env.le E E'):∀ {v u u':Value},VR E v u→VR E' v u'→VR E v u'
 |_,_,_,.bool b,h=>by cases h;exact .bool b
 |_,_,_,.int k n,h=>by cases h;exact .int k n
 |_,_,_,.string s,h=>by cases h;exact .string s
 |_,_,_,.ptrNil,h=>by cases h;exact .ptrNil
 |_,_,_,.ptr h1,h=>by
  cases h with|ptr h2=>cases (hE _ _ h1).symm.trans h2;exact .ptr h1
 |_,_,_,.slNil l c,h=>by cases h;exact .slNil l c
 |_,_,_,.sl l c h1,h=>by
  cases h with
  |sl _ _ h2=>cases (hE _ _ h1).symm.trans h2;exact .sl _ _ h1
  |slD a h2=>exact .slD a h1
 |_,_,_,.slX l c h1,h=>by
  cases h with
  |slX _ _ h2=>cases (hE _ _ h1).symm.trans h2;exact .slX _ _ h1
  |slD a h2=>exact .slD a h1
 |_,_,_,.slE0 h1 hx,h=>by
  cases h with
  |slE0 h2 hx2=>cases (hE _ _ h1).symm.trans h2;exact .slE0 h1 hx
  |slE1 h2 hx2=>cases (hE _ _ h1).symm.trans h2;exact absurd hx hx2
  |slD a h2=>exact .slD a h1
 |_,_,_,.slE1 h1 hx,h=>by
  cases h with
  |slE0 h2 hx2=>cases (hE _ _ h1).symm.trans h2;exact absurd hx2 hx
  |slE1 h2 hx2=>cases (hE _ _ h1).symm.trans h2;exact .slE1 h1 hx
  |slD a h2=>exact .slD a h1
 |_,_,_,.slD a h1,h=>by
  cases h with
  |sl _ _ h2=>cases (hE _ _ h1).symm.trans h2;exact .sl _ _ h1
  |slX _ _ h2=>cases (hE _ _ h1).symm.trans h2;exact .slX _ _ h1
  |slE0 h2 hx2=>cases (hE _ _ h1).symm.trans h2;exact .slE0 h1 hx2
  |slE1 h2 hx2=>cases (hE _ _ h1).symm.trans h2;exact .slE1 h1 hx2
  |slD a2 h2=>exact .slD a2 h1
 |_,_,_,.mapNil,h=>by cases h;exact .mapNil
 |_,_,_,.map h1,h=>by
  cases h with|map h2=>cases (hE _ _ h1).symm.trans h2;exact .map h1
 |_,_,_,.nilFunc,h=>by cases h;exact .nilFunc
 |_,_,_,.nilIface,h=>by cases h;exact .nilIface
 |_,_,_,.func hf h1 h2,h=>by
  cases h with
  |func hf' g1 g2=>exact .func hf (VRs.back hE h1 g1) (VRs.back hE h2 g2)
  |yield g=>exact absurd rfl (hf _)
 |_,_,_,.yield h1,h=>by
  cases h with
  |func hf' g1 g2=>exact absurd rfl (hf' _)
  |yield h2=>cases (hE _ _ h1).symm.trans h2;exact .yield h1
 |_,_,_,.iface t h1,h=>by cases h with|iface _ h2=>exact .iface t (VR.back hE h1 h2)
 |_,_,_,.agg h1,h=>by cases h with|agg h2=>exact .agg (VRs.back hE h1 h2)
 |_,_,_,.tuple h1,h=>by cases h with|tuple h2=>exact .tuple (VRs.back hE h1 h2)
theorem VRs.back {E E':Env} (hE:Env.le E E'):∀ {l u u':List Value},VRs E l u→VRs E' l u'→VRs E l u'
 |_,_,_,.nil,h=>by cases h;exact .nil
 |_,_,_,.cons h t,k=>by cases k with|cons h2 t2=>exact .cons (VR.back hE h h2) (VRs.back hE t t2)
end
theorem TR.back {E E':Env} (hE:Env.le E E') {t:T Value} {nt:Nat} {tm tm':Array Value} (h:TR E t nt tm) (k:TR E' t nt tm'):TR E t nt tm' :=
 ⟨k.1,fun x hx=>(h.2 x hx).back hE (k.2 x hx)⟩
theorem DefR.back {E E':Env} (hE:Env.le E E') {d u u':Deferred} (h:DefR E d u) (k:DefR E' d u'):DefR E d u':=by
 cases h with
 |fn h ha=>cases k with|fn h2 ha2=>exact .fn (h.back hE h2) (ha.back hE ha2)
 |coll h=>cases k with|coll h2=>cases (hE _ _ h).symm.trans h2;exact .coll h
theorem DefsR.back {E E':Env} (hE:Env.le E E') {l u u':List Deferred} (h:DefsR E l u) (k:DefsR E' l u'):DefsR E l u':=by
 induction h generalizing u' with
 |nil=>cases k;exact .nil
 |cons h _ ih=>cases k with|cons h2 t2=>exact .cons (h.back hE h2) (ih t2)
theorem EntR.back {E E':Env} (hE:Env.le E E') {l u u':List MapEntry} (h:EntR E l u) (k:EntR E' l u'):EntR E l u':=by
 induction h generalizing u' with
 |nil=>cases k;exact .nil
 |cons hk hv _ ih=>cases k with|cons hk2 hv2 t2=>exact .cons (hk.back hE hk2) (hv.back hE hv2) (ih t2)
theorem RowR.back {sz:Nat} {E E':Env} (hE:Env.le E E') {r:Row} {i:Info} {c c':Array Value} {e e':TypeId} {fr fr':Nat × Nat} (h:RowR sz E r i c e fr) (k:RowR sz E' r i c' e' fr'):RowR sz E r i c' e' fr' :=
 ⟨k.elem,fun j v hv=>by
  obtain⟨u,h1,h2⟩:=h.cell j v hv
  obtain⟨u',k1,k2⟩:=k.cell j v hv
  exact⟨u',k1,h2.back hE k2⟩,k.size,k.exact',k.fz⟩
theorem ObjR.back {P:Program} {E E':Env} (hE:Env.le E E') {i:Info} {a:AObj} {o o':Obj} (h:ObjR P E i a o) (k:ObjR P E' i a o'):ObjR P E i a o':=by
 cases h with
 |row h=>cases k with|row k=>exact .row (h.back hE k)
 |glob h hx=>cases k with|glob k _=>exact .glob (h.back hE k) hx
 |map h=>cases k with|map k=>exact .map (h.back hE k)
 |strIter hs h=>cases k with|strIter hs' h'=>exact .strIter hs' h'
 |mapIter0 _ _ _ hs=>cases k with|mapIter0 _ _ _ hs'=>exact .mapIter0 _ _ _ hs'
 |mapIter a b c hs h=>cases k with|mapIter _ _ _ hs' h'=>cases (hE _ _ h).symm.trans h';exact .mapIter _ _ _ hs' h
 |loop ht h=>cases k with|loop ht' h'=>cases (hE _ _ h).symm.trans h';exact .loop (TR.back hE ht ht') h
 |dfr0=>cases k with|dfr0=>exact .dfr0
 |dfr h=>cases k with|dfr k=>exact .dfr (h.back hE k)
theorem MR.back {P:Program} {N:Nat} {w0:World} {E E':Env} {m m':Mem} {w w':World} (H:MR P N w0 E m w) (H':MR P N w0 E' m' w') (hE:Env.le E E') (S:Nat→Prop) [DecidablePred S]
  (hk:∀ x,x<m.next→¬ S x→m'.objs.get x=m.objs.get x) {md:Mem} (hn:md.next=m.next) (hd:∀ x,md.objs.get x=if S x∧x<m.next then (m.objs.get x).map fun _=>.dead else m.objs.get x):MR P N w0 E md w':=by
 have hlt:∀ {b i},E b=some i→b<m.next:=fun {b i} h=>by
  rcases Nat.lt_or_ge b m.next with h'|h'
  ·exact h'
  ·have:=(H.dom b h').2;rw [this] at h;cases h
 have key:∀ {b i o},E b=some i→md.objs.get b=some o→o.live=true→¬ S b∧m.objs.get b=some o∧m'.objs.get b=some o:=by
  intro b i o hb ho hl
  rw [hd] at ho
  split at ho
  ·cases hm:m.objs.get b with
   |none=>rw [hm] at ho;cases ho
   |some x=>rw [hm] at ho;cases ho;cases hl
  ·rename_i hS
   have hS':¬ S b:=fun h=>hS ⟨h,hlt hb⟩
   exact⟨hS',ho,(hk b (hlt hb) hS').trans ho⟩
 refine⟨?_,?_,?_,?_,?_,H'.base,H'.size⟩
 ·intro b i o hb ho hl
  obtain⟨-,h1,h2⟩:=key hb ho hl
  obtain⟨ob,g1,g2⟩:=H.objs b i o hb h1 hl
  obtain⟨ob',k1,k2⟩:=H'.objs b i o (hE _ _ hb) h2 hl
  exact⟨ob',k1,g2.back hE k2⟩
 ·intro b i hb;exact H'.ub b i (hE _ _ hb)
 ·intro b hb
  rw [hn] at hb
  obtain⟨h1,h2⟩:=H.dom b hb
  refine⟨?_,h2⟩
  rw [hd,if_neg (fun h=>by have:=h.2;omega)];exact h1
 ·intro b b' i i' o o' hne hb hb' ho ho' hl hl'
  obtain⟨-,h1,-⟩:=key hb ho hl
  obtain⟨-,h2,-⟩:=key hb' ho' hl'
  exact H.inj b b' i i' o o' hne hb hb' h1 h2 hl hl'
 ·intro b i o hb ho hown
  have hl:o.live=true:=by cases o<;>simp_all [AObj.own,AObj.live]
  obtain⟨-,h1,-⟩:=key hb ho hl
  exact H.own b i o hb h1 hown
def bareRow (n:Nat) (e:TypeId):AObj:=.row ⟨.lf,n,[],e,.none,false⟩
theorem bare_cell (n:Nat) (e:TypeId) (j:Nat):cellAt ⟨.lf,n,[],e,.none,false⟩ j=none:=by
 unfold cellAt
 simp only
 split
 ·simp [T.get_lf]
 ·rfl
theorem MR.reab {P:Program} {N:Nat} {w0:World} {E:Env} {m:Mem} {w:World} (H:MR P N w0 E m w) {b:Nat} {i:Info} {e:TypeId} {x:Bool} {cells:List Value} (hb:E b=some i) (hv:vw m b=some ⟨true,e,x,cells⟩) :
  MR P N w0 (E.add m.next ⟨i.blk,0,0⟩) (newObjA (putObj m b .dead) (bareRow (i.shift+cells.length+i.extra*P.cellsOf e) e)) w∧E m.next=none:=by
 obtain⟨r,h1,h2,h3,h4,h5,h6,h7,-⟩:=vw_spec hv
 have hr:=rowW_some (h7 rfl)
 obtain⟨ob,k1,k2⟩:=H.objs b i _ hb hr rfl
 obtain⟨hn1,hn2⟩:=H.dom m.next (Nat.le_refl _)
 have hbn:b≠m.next:=by rintro rfl;rw [hn2] at hb;cases hb
 have hle:=Env.add_le (i:=⟨i.blk,0,0⟩) hn2
 cases k2 with
 |row hR =>
  rename_i cs el fr
  have hob:ObjR P (E.add m.next ⟨i.blk,0,0⟩) ⟨i.blk,0,0⟩ (bareRow (i.shift+cells.length+i.extra*P.cellsOf e) e) (.cells cs el fr):=by
   refine .row ⟨hR.elem.trans h3,fun j v hj=>?_,?_,fun _=>⟨rfl,rfl⟩,?_⟩
   ·rw [bare_cell] at hj;cases hj
   ·have:=hR.size
    rw [h2,h3] at this
    simp only at this ⊢;omega
   ·have:=hR.fz
    rw [h5] at this
    exact this
  have gets:∀ c,(newObjA (putObj m b .dead) (bareRow (i.shift+cells.length+i.extra*P.cellsOf e) e)).objs.get c=if c=m.next then some (bareRow (i.shift+cells.length+i.extra*P.cellsOf e) e) else if c=b then some .dead else m.objs.get c:=fun c=>by rw [get_newObjA,next_putObj,get_putObj]
  have cases2:∀ {c j q},c≠m.next→(E.add m.next ⟨i.blk,0,0⟩) c=some j→(if c=m.next then some (bareRow (i.shift+cells.length+i.extra*P.cellsOf e) e) else if c=b then some AObj.dead else m.objs.get c)=some q→q.live=true→c≠b∧E c=some j∧m.objs.get c=some q:=by
   intro c j q hc hj hq hl
   rw [if_neg hc] at hq
   simp only [Env.add,if_neg hc] at hj
   by_cases e:c=b
   ·rw [if_pos e] at hq;cases hq;cases hl
   ·rw [if_neg e] at hq;exact⟨e,hj,hq⟩
  refine⟨⟨?_,?_,?_,?_,?_,H.base,H.size⟩,hn2⟩
  ·intro c j q hc hq hl
   rw [gets] at hq
   by_cases e:c=m.next
   ·subst e
    rw [if_pos rfl] at hq
    cases hq
    obtain rfl:=Option.some.inj (Env.add_at.symm.trans hc)
    exact⟨_,k1,hob⟩
   ·obtain⟨-,g1,g2⟩:=cases2 e hc hq hl
    obtain⟨ob',g3,g4⟩:=H.objs c j q g1 g2 hl
    exact⟨ob',g3,g4.mono hle⟩
  ·intro c j hc
   by_cases e:c=m.next
   ·subst e
    obtain rfl:=Option.some.inj (Env.add_at.symm.trans hc)
    exact H.ub b i hb
   ·simp only [Env.add,if_neg e] at hc;exact H.ub c j hc
  ·intro c hc
   rw [next_newObjA,next_putObj] at hc
   obtain⟨g1,g2⟩:=H.dom c (by omega)
   refine⟨?_,by simp only [Env.add];rw [if_neg (by omega)];exact g2⟩
   rw [gets,if_neg (by omega),if_neg]
   ·exact g1
   ·rintro rfl;rw [g2] at hb;cases hb
  ·intro c c' j j' q q' hne hc hc' hq hq' hl hl'
   rw [gets] at hq hq'
   by_cases e:c=m.next
   ·have e':c'≠m.next:=fun h=>hne (e.trans h.symm)
    obtain⟨n1,n2,n3⟩:=cases2 e' hc' hq' hl'
    subst e
    obtain rfl:=Option.some.inj (Env.add_at.symm.trans hc)
    exact H.inj b c' i j' _ q' (Ne.symm n1) hb n2 hr n3 rfl hl'
   ·obtain⟨n1,n2,n3⟩:=cases2 e hc hq hl
    by_cases e':c'=m.next
    ·subst e'
     obtain rfl:=Option.some.inj (Env.add_at.symm.trans hc')
     exact H.inj c b j i q _ n1 n2 hb n3 hr hl rfl
    ·obtain⟨n1',n2',n3'⟩:=cases2 e' hc' hq' hl'
     exact H.inj c c' j j' q q' hne n2 n2' n3 n3' hl hl'
  ·intro c j q hc hq ho
   have hl:q.live=true:=by cases q<;>simp_all [AObj.own,AObj.live]
   rw [gets] at hq
   by_cases e:c=m.next
   ·subst e
    obtain rfl:=Option.some.inj (Env.add_at.symm.trans hc)
    exact H.own b i _ hb hr rfl
   ·obtain⟨n1,n2,n3⟩:=cases2 e hc hq hl
    exact H.own c j q n2 n3 ho
end Go.Ev

