/- A part of a proof: ScriptBack. -/
import Derived.Test.YtgmkbdmgifdfeaaGreatDoorD10
set_option linter.unusedVariables false
set_option linter.unusedSimpArgs false
namespace Go.Ev
open Go.RowKit
structure DH where
 o:DOp
 vs:List Value
 k:HK
 v:Value
def memL (x:Nat):List Nat→Bool
 | []=>false
 |y::l=>match Nat.beq y x with|true=>true|false=>memL x l
def Ql5 (bl:List Nat):List Nat→Bool
 | []=>false
 |e::es=>match memL e bl with|true=>true|false=>Ql5 bl es
theorem Qix (x:Nat):∀ l,memL x l=true↔x∈l
 | []=>by simp [memL]
 |y::l=>by
  unfold memL
  by_cases h:y=x
  ·subst h;simp
  ·rw [beqF h];simp only [Qix x l,List.mem_cons];constructor
   ·exact .inr
   ·rintro (e|e)
    ·exact absurd e.symm h
    ·exact e
def Qn5 (es nm:List Nat):List DH→Bool
 | []=>true
 |h::l=>match h.o.dst with
  |none=>Qn5 es nm l
  |some d=>match memL d nm with
   |false=>Qn5 es nm l
   |true=>match memL h.o.i es with
    |true=>Qn5 es nm l
    |false=>false
def Ql3 (d:Option Tmp) (nm mk:List Nat):Option (List Nat) :=
 match d with
 |none=>some (nm++mk)
 |some d=>match memL d (nm++mk) with
  |true=>none
  |false=>some (d::(nm++mk))
def Qn7:List Nat→List DOp→Bool
 |_,[]=>true
 |bl,x::l=>match Ql5 bl x.es with
  |true=>Qn7 (x.i::bl) l
  |false=>false
section
variable (tb:Tabs)
def Qn6 (l:List Value) (m:Mem) (o:DOp) (vs:List Value) (v:Value):HK→Prop
 | .s=>Qgu l o.g=false
 | .f _=>Qgu l o.g=true∧evsL l o.op.operands.toList=vs∧vEqL vs vs=true
 | .r=>Qgu l o.g=true∧evsL l o.op.operands.toList=vs∧vEqL vs vs=true∧(Qln o.op=true∨opA o.op tb (T.ofList l) m=.r v)
def Jbv (l:List Value) (m:Mem) (h:DH):Prop :=
 (match h.o.dst with|none=>True|some d=>evL l (.tmp d)=h.v)∧vEq 100 h.v h.v=true∧Qn6 tb l m h.o h.vs h.v h.k
def Qfj (l:List Value) (m:Mem) (es:List Nat):List DH→Prop
 | []=>True
 |h::hs=>(memL h.o.i es=true∨Jbv tb l m h)∧Qfj l m es hs
abbrev DK:=List DOp→List Value→Mem→List DH→List Nat→Prop
noncomputable def Qfc (K:DK):List DOp→List Nat→List DOp→List Value→Mem→List DH→List Nat→Prop
 | [],bl,rem,l,m,hist,mk=>K rem.reverse l m hist mk
 |x::xs,bl,rem,l,m,hist,mk =>
  match Ql5 bl x.es with
  |true=>Qfc K xs (x.i::bl) (x::rem) l m hist mk
  |false=>Qn5 x.es x.nm hist=true∧dstB x.dst l.length=true∧match Qgu l x.g with
   |false=>∃ mk',Ql3 x.dst x.nm mk=some mk'∧Qfc K xs bl rem (Qbu x.dst undef l) m (⟨x,[],.s,undef⟩::hist) mk'
   |true=>match opA x.op tb (T.ofList l) m with
    | .r v=>∃ mk',Ql3 x.dst x.nm mk=some mk'∧Qfc K xs bl rem (Qbu x.dst v l) m (⟨x,evsL l x.op.operands.toList,.r,v⟩::hist) mk'
    | .f ob f=>∃ mk',Ql3 x.dst x.nm mk=some mk'∧Qfc K xs bl rem (Qbu x.dst (f m.next) l) (Qah m ob) (⟨x,evsL l x.op.operands.toList,.f m.next,f m.next⟩::hist) mk'
    | .e _ _=>Qfc K xs (x.i::bl) (x::rem) l m hist mk
    | .c=>Qfc K xs (x.i::bl) (x::rem) l m hist mk
    | .bad=>False
variable (F:FC) (Q:Qda)
noncomputable def Qx5 (next:List DOp→List Value→List Deferred→Mem→List DH→List Nat→Prop) (ds:List Deferred) (rem:List DOp) (l:List Value) (m:Mem) (hist:List DH) (mk:List Nat):Prop :=
 match rem with
 | []=>Q .normal l ds m
 |o::r=>(Qn7 [o.i] r&&Qn5 o.es o.nm hist&&Qgu l o.g)=true∧dstB o.dst l.length=true ∧
  match opA o.op tb (T.ofList l) m with
  | .e v m'=>Qfj tb (Qbu o.dst v l) m' o.es hist∧next r (Qbu o.dst v l) ds m' hist mk
  | .c=>Qgi tb F o.op o.ty l ds m (fun v ds m'=>Qfj tb (Qbu o.dst v l) m' o.es hist∧next r (Qbu o.dst v l) ds m' hist mk) (fun ch m=>ds=[]∧Q (.pan ch) l ds m)
  |_=>False
noncomputable def wpD:Nat→List DOp→List Value→List Deferred→Mem→List DH→List Nat→Prop
 |0,_,_,_,_,_,_=>False
 |n+1,rem,l,ds,m,hist,mk=>Qfc tb (Qx5 tb F Q (wpD n) ds) rem [] [] l m hist mk
end
section
variable {tb:Tabs} {F:FC} {Q:Qda}
theorem Qxj {x:Nat} {l:List Nat}:memL x l=false↔¬ x∈l:=by
 rw [← Qix,Bool.not_eq_true]
theorem Qq9 {l:List Edge} {i:Nat}:i∈Qio l↔∃ e∈l,e.on=i∧Region.binds .any e=true:=by
 simp only [Qio,List.mem_map,List.mem_filter]
 constructor
 ·rintro⟨e,⟨h1,h2⟩,h3⟩;exact⟨e,h1,h3,h2⟩
 ·rintro⟨e,h1,h3,h2⟩;exact⟨e,⟨h1,h2⟩,h3⟩
theorem Qtc {bl:List Nat}:∀ {es:List Nat},Ql5 bl es=true↔∃ e∈es,e∈bl
 | []=>by simp [Ql5]
 |e::es=>by
  unfold Ql5
  cases h:memL e bl with
  |true=>rw [Qix] at h;simp;exact .inl h
  |false=>rw [Qxj] at h;simp [Qtc,h]
theorem Qjq {bl:List Nat}:∀ {l:List Edge},Qc6 bl l=true↔∃ e∈l,Region.binds .any e=true∧e.on∈bl
 | []=>by simp [Qc6]
 |e::l=>by
  have hm:(bl.any (Nat.beq e.on))=true↔e.on∈bl:=by
   simp only [List.any_eq_true,Nat.beq_eq]
   constructor
   ·rintro⟨x,hx,rfl⟩;exact hx
   ·intro h;exact⟨_,h,rfl⟩
  unfold Qc6
  cases hb:Region.binds .any e with
  |false =>
   simp only [Qjq,List.mem_cons];constructor
   ·rintro⟨x,h1,h2⟩;exact⟨x,.inr h1,h2⟩
   ·rintro⟨x,h1|h1,h2⟩
    ·subst h1;rw [hb] at h2;simp at h2
    ·exact⟨x,h1,h2⟩
  |true =>
   cases ha:bl.any (Nat.beq e.on) with
   |true=>simp only [List.mem_cons,true_iff];exact⟨e,.inl rfl,hb,hm.1 ha⟩
   |false =>
    simp only [Qjq,List.mem_cons]
    constructor
    ·rintro⟨x,h1,h2⟩;exact⟨x,.inr h1,h2⟩
    ·rintro⟨x,h1|h1,h2⟩
     ·subst h1;rw [hm.2 h2.2] at ha;cases ha
     ·exact⟨x,h1,h2⟩
theorem Qs4 (bl:List Nat) (l:List Edge):Qc6 bl l=Ql5 bl (Qio l):=by
 rw [Bool.eq_iff_iff,Qjq,Qtc]
 constructor
 ·rintro⟨e,h1,h2,h3⟩;exact⟨e.on,Qq9.2 ⟨e,h1,rfl,h2⟩,h3⟩
 ·rintro⟨i,h1,h2⟩
  obtain⟨e,h3,rfl,h4⟩:=Qq9.1 h1
  exact⟨e,h3,h4,h2⟩
theorem Qqx {i:Nat}:∀ {l:List Edge},Qct i l=true↔∃ e∈l,e.on=i∧Region.binds .any e=true
 | []=>by simp [Qct]
 |e::l=>by
  unfold Qct
  by_cases h:e.on=i
  ·rw [h,Nat.beq_refl]
   cases hb:Region.binds .any e with
   |true=>simp only [List.mem_cons,true_iff];exact⟨e,.inl rfl,h,hb⟩
   |false =>
    simp only [Qqx,List.mem_cons];constructor
    ·rintro⟨x,h1,h2⟩;exact⟨x,.inr h1,h2⟩
    ·rintro⟨x,h1|h1,h2⟩
     ·subst h1;rw [hb] at h2;simp at h2
     ·exact⟨x,h1,h2⟩
  ·rw [beqF h]
   simp only [Qqx,List.mem_cons];constructor
   ·rintro⟨x,h1,h2⟩;exact⟨x,.inr h1,h2⟩
   ·rintro⟨x,h1|h1,h2⟩
    ·subst h1;exact absurd h2.1 h
    ·exact⟨x,h1,h2⟩
theorem d_edge (i:Nat) (l:List Edge):Qct i l=memL i (Qio l):=by
 rw [Bool.eq_iff_iff,Qqx,Qix,Qq9]
theorem Qdq (d:Nat):∀ (l:List Operand) (k:Nat),Nat.testBit (Qfy l k) d=(Nat.testBit k d||memL d (Qhr l))
 | [],k=>by simp [Qfy,Qhr,memL]
 |x::l,k=>by
  cases x with
  |tmp t =>
   have h1:Nat.testBit (Nat.lor k (Nat.shiftLeft 1 t)) d=(Nat.testBit k d||decide (t=d)):=by
    show Nat.testBit (k ||| 1 <<< t) d=_
    rw [Nat.testBit_or,Nat.one_shiftLeft,Nat.testBit_two_pow]
   have h2:memL d (Qhr (.tmp t::l))=(decide (t=d)||memL d (Qhr l)):=by
    show memL d (t::Qhr l)=_
    by_cases e:t=d
    ·subst e;simp [memL]
    ·simp [memL,beqF e,e]
   simp only [Qfy]
   rw [Qdq d l,h1,h2,Bool.or_assoc]
  |const v=>exact Qdq d l k
  |global g=>exact Qdq d l k
  |func f=>exact Qdq d l k
theorem Qne (d:Nat) (a b:List Nat):memL d (a++b)=(memL d a||memL d b):=by
 rw [Bool.eq_iff_iff,Qix];simp [Qix]
theorem Qsd (ops:Array Oper) (o:Oper) (k d:Nat):Nat.testBit (Qie ops o k) d=(memL d (Qlp (Qgb ops.toList o.guard)++Qhr o.op.operands.toList)||Nat.testBit k d):=by
 rw [Qne]
 unfold Qie
 cases hg:o.guard with
 |none=>simp only [Qgb,Qlp,memL,Bool.false_or];rw [Qdq,Bool.or_comm]
 |some g =>
  obtain⟨j,w⟩:=g
  simp only [Qgb]
  cases hj:ops.toList[j]? with
  |none=>simp only [Qlp,memL,Bool.false_or];rw [Qdq,Bool.or_comm]
  |some oj =>
   simp only
   cases hd:oj.dst with
   |none=>simp only [Qlp,memL,Bool.false_or];rw [Qdq,Bool.or_comm]
   |some d' =>
    simp only [Qlp]
    have h1:Nat.testBit (Nat.lor k (Nat.shiftLeft 1 d')) d=(Nat.testBit k d||decide (d'=d)):=by
     show Nat.testBit (k ||| 1 <<< d') d=_
     rw [Nat.testBit_or,Nat.one_shiftLeft,Nat.testBit_two_pow]
    have h2:memL d [d']=decide (d'=d):=by
     by_cases e:d'=d
     ·subst e;simp [memL]
     ·unfold memL;rw [beqF e];simp [e,memL]
    rw [Qdq,h1,h2]
    cases Nat.testBit k d<;>cases decide (d'=d)<;>cases memL d (Qhr o.op.operands.toList)<;>rfl
def MkR (mask:Nat) (mk:List Nat):Prop:=∀ d,Nat.testBit mask d=memL d mk
theorem Jbq {ops:Array Oper} {x:Nat × Oper} {mask:Nat} {mk mk':List Nat} (h:MkR mask mk) (hm:Ql3 (Qdf ops.toList x).dst (Qdf ops.toList x).nm mk=some mk'):∃ mask',Qj9 ops x.2 mask=some mask'∧MkR mask' mk':=by
 have hb:∀ d,Nat.testBit (Qie ops x.2 mask) d=memL d ((Qdf ops.toList x).nm++mk):=fun d=>by
  rw [Qsd,h d]
  show _=memL d ((Qlp (Qgb ops.toList x.2.guard)++Qhr x.2.op.operands.toList)++mk)
  rw [Qne (b:=mk)]
 unfold Ql3 at hm
 unfold Qj9
 cases hd:x.2.dst with
 |none =>
  have:(Qdf ops.toList x).dst=none:=hd
  rw [this] at hm
  simp only [Kaj] at hm
  subst hm
  exact⟨_,rfl,hb⟩
 |some d =>
  have:(Qdf ops.toList x).dst=some d:=hd
  rw [this] at hm
  simp only at hm ⊢
  rw [hb d]
  split at hm<;>first|(simp at hm;done)|skip
  rename_i hf
  rw [hf]
  simp only [Kaj] at hm
  subst hm
  refine⟨_,rfl,fun d'=>?_⟩
  show Nat.testBit (Qie ops x.2 mask ||| 1 <<< d) d'=_
  rw [Nat.testBit_or,Nat.one_shiftLeft,Nat.testBit_two_pow,hb d']
  by_cases e:d=d'
  ·subst e;simp [memL]
  ·rw [show memL d' (d::((Qdf ops.toList x).nm++mk))=memL d' ((Qdf ops.toList x).nm++mk) from by
    conv=>lhs;unfold memL
    rw [beqF e]]
   simp [e]
def HistR (ops:Array Oper) (h:Hist) (d:DH):Prop:=d.o=Qdf ops.toList (h.i,h.o)∧d.vs=h.vs∧d.k=h.k∧d.v=h.v
inductive HistsR (ops:Array Oper):List Hist→List DH→Prop where
 |nil:HistsR ops [] []
 |cons {h:Hist} {d:DH} {l:List Hist} {k:List DH} (hd:HistR ops h d) (t:HistsR ops l k):HistsR ops (h::l) (d::k)
theorem Qs3 {ops:Array Oper} {x:Nat × Oper}:∀ {hs:List Hist} {ds:List DH},HistsR ops hs ds→Qn5 (Qdf ops.toList x).es (Qdf ops.toList x).nm ds=true→Qf4 ops x.2 hs=true
 |_,_,.nil,_=>rfl
 |_,_,.cons (h:=h) (d:=d) hd t,hk=>by
  obtain⟨e1,e2,e3,e4⟩:=hd
  unfold Qn5 at hk
  unfold Qf4
  rw [e1] at hk
  cases hdst:h.o.dst with
  |none =>
   have:(Qdf ops.toList (h.i,h.o)).dst=none:=hdst
   rw [this] at hk
   exact Qs3 t hk
  |some d' =>
   have:(Qdf ops.toList (h.i,h.o)).dst=some d':=hdst
   rw [this] at hk
   simp only at hk ⊢
   have hb:Nat.testBit (Qie ops x.2 0) d'=memL d' (Qdf ops.toList x).nm:=by
    rw [Qsd];simp [Qdf]
   rw [hb]
   split at hk
   ·rename_i hf;rw [hf];exact Qs3 t hk
   ·rename_i hf
    rw [hf]
    simp only
    rw [d_edge]
    split at hk
    ·rename_i he
     have he':memL h.i (Qio x.2.after.toList)=true:=he
     rw [he'];exact Qs3 t hk
    ·cases hk
theorem Jbr {ops:Array Oper}:∀ {l:List (Nat × Oper)} {bl:List Nat},Qn7 bl (l.map (Qdf ops.toList))=true→Qrd bl l=true
 | [],_,_=>rfl
 | (i,o)::l,bl,h=>by
   simp only [List.map_cons,Qn7] at h
   simp only [Qrd,Qs4]
   split at h
   ·rename_i hb
    have hb':Ql5 bl (Qio o.after.toList)=true:=hb
    rw [hb'];exact Jbr h
   ·cases h
theorem d_check {ops:Array Oper} {l:List Value} {m:Mem} {h:Hist} {d:DH} (hr:HistR ops h d) (hc:Jbv tb l m d):CheckP tb ops l m h:=by
 obtain⟨e1,e2,e3,e4⟩:=hr
 obtain⟨o,vs,k,v⟩:=d
 simp only at e1 e2 e3 e4
 subst e1;subst e2;subst e3;subst e4
 obtain⟨c1,c2,c3⟩:=hc
 refine⟨c1,c2,?_⟩
 simp only at c3
 cases hk:h.k with
 |s=>rw [hk] at c3;simp only [Qn6] at c3;simp only;rw [Qiq];exact c3
 |f b=>rw [hk] at c3;simp only [Qn6] at c3;simp only;rw [Qiq];exact c3
 |r=>rw [hk] at c3;simp only [Qn6] at c3;simp only;rw [Qiq];exact c3
theorem Qn3 {ops:Array Oper} {l:List Value} {m:Mem} {after:List Edge}:∀ {hs:List Hist} {ds:List DH},HistsR ops hs ds→Qfj tb l m (Qio after) ds→Qiu tb ops l m after hs
 |_,_,.nil,_=>trivial
 |_,_,.cons (h:=h) (d:=d) hd t,⟨h1,h2⟩=>by
  refine⟨?_,Qn3 t h2⟩
  rcases h1 with h1|h1
  ·left;rw [d_edge]
   rw [hd.1] at h1;exact h1
  ·right;exact d_check hd h1
theorem Qn4 {ops:Array Oper} {K:DK} {K':List (Nat × Oper)→List Value→Mem→List Hist→Nat→Prop} (hK:∀ rem l m hist mk hist' mask,HistsR ops hist' hist→MkR mask mk→K (rem.map (Qdf ops.toList)) l m hist mk→K' rem l m hist' mask) :
  ∀ (xs:List (Nat × Oper)) (bl:List Nat) (rem:List (Nat × Oper)) (l:List Value) (m:Mem) (hist:List DH) (mk:List Nat) (hist':List Hist) (mask:Nat),HistsR ops hist' hist→MkR mask mk →
    Qfc tb K (xs.map (Qdf ops.toList)) bl (rem.map (Qdf ops.toList)) l m hist mk→Qhq tb ops K' xs bl rem l m hist' mask
 | [],bl,rem,l,m,hist,mk,hist',mask,hh,hm,h=>by
   simp only [List.map_nil,Qfc,← List.map_reverse] at h
   exact hK _ _ _ _ _ _ _ hh hm h
 |x::xs,bl,rem,l,m,hist,mk,hist',mask,hh,hm,h=>by
  simp only [List.map_cons,Qfc] at h
  unfold Qhq
  rw [Qs4]
  split at h
  ·rename_i hb
   have hb':Ql5 bl (Qio x.2.after.toList)=true:=hb
   rw [hb']
   exact Qn4 hK xs _ (x::rem) l m hist mk hist' mask hh hm h
  ·rename_i hb
   have hb':Ql5 bl (Qio x.2.after.toList)=false:=hb
   rw [hb']
   obtain⟨h1,h2,h3⟩:=h
   refine⟨Qs3 hh h1,h2,?_⟩
   rw [Qiq]
   split at h3
   ·rename_i hw
    have hw':Qgu l (Qgb ops.toList x.2.guard)=false:=hw
    rw [hw']
    obtain⟨mk',g1,g2⟩:=h3
    obtain⟨mask',q1,q2⟩:=Jbq hm g1
    exact⟨mask',q1,Qn4 hK xs _ rem _ m _ mk' _ mask' (.cons ⟨rfl,rfl,rfl,rfl⟩ hh) q2 g2⟩
   ·rename_i hw
    have hw':Qgu l (Qgb ops.toList x.2.guard)=true:=hw
    rw [hw']
    have e:opA x.2.op tb (T.ofList l) m=opA (Qdf ops.toList x).op tb (T.ofList l) m:=_root_.id rfl
    rw [e]
    split at h3
    ·rename_i v ho
     obtain⟨mk',g1,g2⟩:=h3
     obtain⟨mask',q1,q2⟩:=Jbq hm g1
     rw [ho]
     exact⟨mask',q1,Qn4 hK xs _ rem _ m _ mk' _ mask' (.cons ⟨rfl,rfl,rfl,rfl⟩ hh) q2 g2⟩
    ·rename_i ob f ho
     obtain⟨mk',g1,g2⟩:=h3
     obtain⟨mask',q1,q2⟩:=Jbq hm g1
     rw [ho]
     exact⟨mask',q1,Qn4 hK xs _ rem _ _ _ mk' _ mask' (.cons ⟨rfl,rfl,rfl,rfl⟩ hh) q2 g2⟩
    ·rename_i ho;rw [ho];exact Qn4 hK xs _ (x::rem) l m hist mk hist' mask hh hm h3
    ·rename_i ho;rw [ho];exact Qn4 hK xs _ (x::rem) l m hist mk hist' mask hh hm h3
    ·exact h3.elim
theorem d_ok {ops:Array Oper}:∀ (n:Nat) (rem:List (Nat × Oper)) (l:List Value) (ds:List Deferred) (m:Mem) (hist:List DH) (mk:List Nat) (hist':List Hist) (mask:Nat),HistsR ops hist' hist→MkR mask mk →
  wpD tb F Q n (rem.map (Qdf ops.toList)) l ds m hist mk→wpDr tb ops F Q n rem l ds m hist' mask
 |0,_,_,_,_,_,_,_,_,_,_,h=>h
 |n+1,rem,l,ds,m,hist,mk,hist',mask,hh,hm,h=>by
  refine Qn4 (K:=Qx5 tb F Q (wpD tb F Q n) ds) ?_ rem [] [] l m hist mk hist' mask hh hm h
  intro rem l m hist mk hist' mask hh hm h
  cases rem with
  |nil=>exact h
  |cons x r =>
   obtain⟨i,o⟩:=x
   obtain⟨h1,h2,h3⟩:=h
   simp only [Kba] at h1
   refine⟨?_,h2,?_⟩
   ·have ha:Qn7 [i] (r.map (Qdf ops.toList))=true:=h1.1.1
    rw [Jbr ha,Qs3 (x:=(i,o)) hh h1.1.2,Qiq]
    have hw:Qgu l (Qgb ops.toList o.guard)=true:=h1.2
    rw [hw];rfl
   ·have e:opA o.op tb (T.ofList l) m=opA (Qdf ops.toList (i,o)).op tb (T.ofList l) m:=_root_.id rfl
    rw [e]
    split at h3
    ·rename_i v m' ho
     rw [ho]
     exact⟨Qn3 hh h3.1,d_ok n r _ ds m' hist mk hist' mask hh hm h3.2⟩
    ·rename_i ho
     rw [ho]
     exact Qhd (Qou h3) (fun v ds m' hx=>⟨Qn3 hh hx.1,d_ok n r _ ds m' hist mk hist' mask hh hm hx.2⟩) fun ch m h=>h
    ·exact h3.elim
theorem xdrw {l:List Value} {ds:List Deferred} {m:Mem} {xs:List DOp} (n:Nat) (h:∀ Q',Q'=Q→wpD tb F Q' n xs l ds m [] []):wpX tb F (.drw xs) l ds m Q:=fun c' hs=>by
 unfold Qa2 at hs
 split at hs<;>first|contradiction|skip
 cases hs
 exact wp_draw n (d_ok n _ l ds m [] [] [] 0 .nil (fun d=>by simp [memL]) (h Q rfl))
variable {l:List Value} {ds:List Deferred} {m:Mem} {K:DK} {bl:List Nat} {rem xs:List DOp} {hist:List DH} {mk:List Nat}
variable (tb)
noncomputable def dSt (K:DK) (x:DOp) (xs:List DOp) (r:OR) (bl:List Nat) (rem:List DOp) (l:List Value) (m:Mem) (hist:List DH) (mk:List Nat):Prop:=match r with
 | .r v=>∃ mk',Ql3 x.dst x.nm mk=some mk'∧Qfc tb K xs bl rem (Qbu x.dst v l) m (⟨x,evsL l x.op.operands.toList,.r,v⟩::hist) mk'
 | .f ob f=>∃ mk',Ql3 x.dst x.nm mk=some mk'∧Qfc tb K xs bl rem (Qbu x.dst (f m.next) l) (Qah m ob) (⟨x,evsL l x.op.operands.toList,.f m.next,f m.next⟩::hist) mk'
 | .e _ _=>Qfc tb K xs (x.i::bl) (x::rem) l m hist mk
 | .c=>Qfc tb K xs (x.i::bl) (x::rem) l m hist mk
 | .bad=>False
noncomputable def dGd (K:DK) (x:DOp) (xs:List DOp) (w:Bool) (bl:List Nat) (rem:List DOp) (l:List Value) (m:Mem) (hist:List DH) (mk:List Nat):Prop:=match w with
 |false=>∃ mk',Ql3 x.dst x.nm mk=some mk'∧Qfc tb K xs bl rem (Qbu x.dst undef l) m (⟨x,[],.s,undef⟩::hist) mk'
 |true=>dSt tb K x xs (opA x.op tb (T.ofList l) m) bl rem l m hist mk
noncomputable def dBl (K:DK) (x:DOp) (xs:List DOp) (b:Bool) (bl:List Nat) (rem:List DOp) (l:List Value) (m:Mem) (hist:List DH) (mk:List Nat):Prop:=match b with
 |true=>Qfc tb K xs (x.i::bl) (x::rem) l m hist mk
 |false=>Qn5 x.es x.nm hist=true∧dstB x.dst l.length=true∧dGd tb K x xs (Qgu l x.g) bl rem l m hist mk
noncomputable def dNx (F:FC) (Q:Qda) (next:List DOp→List Value→List Deferred→Mem→List DH→List Nat→Prop) (o:DOp) (r:List DOp) (x:OR) (ds:List Deferred) (l:List Value) (m:Mem) (hist:List DH) (mk:List Nat):Prop:=match x with
 | .e v m'=>Qfj tb (Qbu o.dst v l) m' o.es hist∧next r (Qbu o.dst v l) ds m' hist mk
 | .c=>Qgi tb F o.op o.ty l ds m (fun v ds m'=>Qfj tb (Qbu o.dst v l) m' o.es hist∧next r (Qbu o.dst v l) ds m' hist mk) (fun ch m=>ds=[]∧Q (.pan ch) l ds m)
 |_=>False
variable {tb}
theorem Jbs:Qfc tb K [] bl rem l m hist mk=K rem.reverse l m hist mk:=_root_.id rfl
theorem Qx3 (x:DOp):Qfc tb K (x::xs) bl rem l m hist mk=dBl tb K x xs (Ql5 bl x.es) bl rem l m hist mk:=_root_.id rfl
theorem dBl_true (x:DOp):dBl tb K x xs true bl rem l m hist mk=Qfc tb K xs (x.i::bl) (x::rem) l m hist mk:=_root_.id rfl
theorem Jbw (x:DOp):dBl tb K x xs false bl rem l m hist mk=(Qn5 x.es x.nm hist=true∧dstB x.dst l.length=true∧dGd tb K x xs (Qgu l x.g) bl rem l m hist mk):=_root_.id rfl
theorem Jbu (x:DOp):dGd tb K x xs false bl rem l m hist mk=∃ mk',Ql3 x.dst x.nm mk=some mk'∧Qfc tb K xs bl rem (Qbu x.dst undef l) m (⟨x,[],.s,undef⟩::hist) mk':=_root_.id rfl
theorem dGd_true (x:DOp):dGd tb K x xs true bl rem l m hist mk=dSt tb K x xs (opA x.op tb (T.ofList l) m) bl rem l m hist mk:=_root_.id rfl
theorem dSt_r (x:DOp) (v:Value):dSt tb K x xs (.r v) bl rem l m hist mk=∃ mk',Ql3 x.dst x.nm mk=some mk'∧Qfc tb K xs bl rem (Qbu x.dst v l) m (⟨x,evsL l x.op.operands.toList,.r,v⟩::hist) mk':=_root_.id rfl
theorem dSt_f (x:DOp) (ob:AObj) (f:Nat→Value):dSt tb K x xs (.f ob f) bl rem l m hist mk=∃ mk',Ql3 x.dst x.nm mk=some mk'∧Qfc tb K xs bl rem (Qbu x.dst (f m.next) l) (Qah m ob) (⟨x,evsL l x.op.operands.toList,.f m.next,f m.next⟩::hist) mk':=_root_.id rfl
theorem dSt_e (x:DOp) (v:Value) (m':Mem):dSt tb K x xs (.e v m') bl rem l m hist mk=Qfc tb K xs (x.i::bl) (x::rem) l m hist mk:=_root_.id rfl
theorem dSt_c (x:DOp):dSt tb K x xs .c bl rem l m hist mk=Qfc tb K xs (x.i::bl) (x::rem) l m hist mk:=_root_.id rfl
theorem Jbt (next:List DOp→List Value→List Deferred→Mem→List DH→List Nat→Prop):Qx5 tb F Q next ds [] l m hist mk=Q .normal l ds m:=_root_.id rfl
theorem Qx4 (next:List DOp→List Value→List Deferred→Mem→List DH→List Nat→Prop) (o:DOp) (r:List DOp):Qx5 tb F Q next ds (o::r) l m hist mk=((Qn7 [o.i] r&&Qn5 o.es o.nm hist&&Qgu l o.g)=true∧dstB o.dst l.length=true∧dNx tb F Q next o r (opA o.op tb (T.ofList l) m) ds l m hist mk):=by
 cases h:opA o.op tb (T.ofList l) m<;>simp only [Qx5,dNx,h]
theorem dNx_e (next:List DOp→List Value→List Deferred→Mem→List DH→List Nat→Prop) (o:DOp) (r:List DOp) (v:Value) (m':Mem):dNx tb F Q next o r (.e v m') ds l m hist mk=(Qfj tb (Qbu o.dst v l) m' o.es hist∧next r (Qbu o.dst v l) ds m' hist mk):=_root_.id rfl
theorem dNx_c (next:List DOp→List Value→List Deferred→Mem→List DH→List Nat→Prop) (o:DOp) (r:List DOp):dNx tb F Q next o r .c ds l m hist mk=Qgi tb F o.op o.ty l ds m (fun v ds m'=>Qfj tb (Qbu o.dst v l) m' o.es hist∧next r (Qbu o.dst v l) ds m' hist mk) (fun ch m=>ds=[]∧Q (.pan ch) l ds m):=_root_.id rfl
theorem wpD_succ (n:Nat):wpD tb F Q (n+1) rem l ds m hist mk=Qfc tb (Qx5 tb F Q (wpD tb F Q n) ds) rem [] [] l m hist mk:=_root_.id rfl
theorem Qyq (d:Nat) (k:IntKind) (n:Int):vEq (d+1) (.int k n) (.int k n)=true:=by simp [vEq,Qc1,Qeg]
theorem vEq_s (d:Nat) (s:ByteArray):vEq (d+1) (.string s) (.string s)=true:=by simp [vEq,Qc7]
theorem vEq_p (d b o:Nat) (s:Option Nat):vEq (d+1) (.pointer (some ⟨b,o,s⟩)) (.pointer (some ⟨b,o,s⟩))=true:=by cases s<;>simp [vEq]
theorem vEq_l (d:Nat) (a:Option Addr) (n c:Nat):vEq (d+1) (.slice a n c) (.slice a n c)=true:=by
 cases a with
 |none=>simp [vEq]
 |some a=>obtain⟨b,o,s⟩:=a;cases s<;>simp [vEq]
theorem vEq_a {d:Nat} {l:List Value} (h:∀ v∈l,vEq d v v=true):vEq (d+1) (.agg ⟨l⟩) (.agg ⟨l⟩)=true:=by
 simp only [vEq,Nat.beq_refl,Bool.true_and]
 rw [List.all_eq_true]
 rintro⟨x,y⟩ hxy
 have:x=y∧x∈l:=by
  clear h
  induction l with
  |nil=>simp at hxy
  |cons a l ih =>
   simp only [List.zip_cons_cons,List.mem_cons,Kpj] at hxy
   rcases hxy with ⟨rfl,rfl⟩|hxy
   ·simp
   ·obtain⟨rfl,h2⟩:=ih hxy;exact⟨rfl,.tail _ h2⟩
 obtain⟨rfl,h1⟩:=this
 exact h x h1
end
end Go.Ev

namespace Go.Ev
open Go.RowKit
def renA (G k:Nat) (a:Addr):Addr:=⟨k+(a.block-G),a.off,a.spot⟩
def okA (G:Nat) (a:Addr):Bool:=Nat.ble G a.block&&a.spot.isNone
def renP (G k:Nat):Value→Value
 | .pointer (some a)=>.pointer (some (renA G k a))
 |v=>v
def okP (G:Nat):Value→Bool
 | .pointer (some a)=>okA G a
 | .func (.func _) ⟨[]⟩ ⟨[]⟩=>true
 |v=>Qke v
def renV (G k:Nat):Value→Value
 | .pointer (some a)=>.pointer (some (renA G k a))
 | .slice (some a) l c=>.slice (some (renA G k a)) l c
 | .func fn ⟨f⟩ ⟨c⟩=>.func fn ⟨f.map (renP G k)⟩ ⟨c.map (renP G k)⟩
 |v=>v
def okV (G:Nat):Value→Bool
 | .pointer (some a)=>okA G a
 | .slice (some a) _ _=>okA G a
 | .func (.func _) ⟨f⟩ ⟨c⟩=>f.all (okP G)&&c.all (okP G)
 |v=>Qke v
def Env.ren (G k:Nat) (E1 E':Env):Prop:=∀ b i,G≤b→E1 b=some i→E' (k+(b-G))=some i
section
variable {G k:Nat} {E1 E':Env}
theorem VR.flat {E E':Env} {v v':Value} (h:Qke v=true) (hv:VR E v v'):VR E' v v':=by
 cases hv<;>simp_all [Qke]<;>constructor
theorem Qzr (he:Env.ren G k E1 E') {a:Addr} {v':Value} (h:okA G a=true) (hv:VR E1 (.pointer (some a)) v'):VR E' (.pointer (some (renA G k a))) v':=by
 obtain⟨b,o,s⟩:=a
 simp only [okA,Kba,Nat.ble_eq] at h
 cases hv with
 |ptr hE=>exact .ptr (he _ _ h.1 hE)
theorem ren_P (he:Env.ren G k E1 E') {v v':Value} (h:okP G v=true) (hv:VR E1 v v'):VR E' (renP G k v) v':=by
 unfold okP at h
 split at h
 ·exact Qzr he h hv
 ·cases hv with
  |func hf h1 h2=>cases h1;cases h2;exact .func hf .nil .nil
 ·rename_i h1 h2
  have:renP G k v=v:=by
   unfold renP;split
   ·exact absurd rfl (h1 _)
   ·rfl
  rw [this];exact hv.flat h
theorem Qzs (he:Env.ren G k E1 E'):∀ {l l':List Value},l.all (okP G)=true→VRs E1 l l'→VRs E' (l.map (renP G k)) l'
 |_,_,_,.nil=>.nil
 |_,_,h,.cons hv t=>by
  simp only [List.all_cons,Kba] at h
  exact .cons (ren_P he h.1 hv) (Qzs he h.2 t)
theorem ren_V (he:Env.ren G k E1 E') {v v':Value} (h:okV G v=true) (hv:VR E1 v v'):VR E' (renV G k v) v':=by
 unfold okV at h
 split at h
 ·exact Qzr he h hv
 ·rename_i a l c
  obtain⟨b,o,s⟩:=a
  simp only [okA,Kba,Nat.ble_eq] at h
  obtain⟨h1,h2⟩:=h
  cases s with
  |some s=>cases h2
  |none=>cases hv with
   |sl _ _ hE=>exact .sl _ _ (he _ _ h1 hE)
   |slD _ hE=>exact .slD _ (he _ _ h1 hE)
 ·simp only [Kba] at h
  cases hv with
  |func hf h1 h2=>exact .func hf (Qzs he h.1 h1) (Qzs he h.2 h2)
 ·rename_i h1 h2 h3
  have:renV G k v=v:=by
   unfold renV;split
   ·exact absurd rfl (h1 _)
   ·exact absurd rfl (h2 _ _ _)
   ·simp [Qke] at h
   ·rfl
  rw [this];exact hv.flat h
end
structure CRow where
 elem:TypeId
 ext:Bool
 cells:List Value
def CRow.ren (G k:Nat) (r:CRow):CRow:=⟨r.elem,r.ext,r.cells.map (renV G k)⟩
noncomputable def CRow.obj (r:CRow):AObj:=Qb1 r.elem r.cells .none r.ext
noncomputable def Qdr (m:Mem) (l:List CRow):Mem:=⟨T.setL (l.map CRow.obj) m.next m.objs,m.next+l.length⟩
theorem Qe5 (m:Mem) (l:List CRow):(Qdr m l).next=m.next+l.length:=rfl
theorem Qc0 (m:Mem) (l:List CRow) (b:Nat):(Qdr m l).objs.get b=if b<m.next then m.objs.get b else if b<m.next+l.length then (l.map CRow.obj)[b-m.next]? else m.objs.get b:=by
 unfold Qdr
 simp only [T.get_setL,List.length_map]
theorem Qjl (m:Mem) (l:List CRow):Old m.next m (Qdr m l):=⟨by rw [Qe5];omega,fun x hx=>by rw [Qc0,if_pos hx]⟩
theorem Qxo (m:Mem) (l:List CRow) {j:Nat} {r:CRow} (h:l[j]? = some r):vw (Qdr m l) (m.next+j)=some ⟨true,r.elem,r.ext,r.cells⟩:=by
 have hj:j<l.length:=(Kgs.1 h).1
 unfold vw
 rw [Qc0,if_neg (by omega),if_pos (by omega),show m.next+j-m.next=j from by omega,List.getElem?_map,h]
 exact Qcj _ _ _
def ranTo (G:Nat) (r:Option (Value × Mem)) (v:Value) (l:List CRow):Prop :=
 ∃ M,r=some (v,M)∧M.next=G+l.length∧(okV G v&&l.all fun r=>r.cells.all (okV G))=true∧∀ j r,l[j]? = some r→vw M (G+j)=some ⟨true,r.elem,r.ext,r.cells⟩
theorem row_ren {P:Program} {G k:Nat} {E1 E':Env} {i:Info} {M:Mem} {b:Nat} {r:CRow} {w:World} {N:Nat} {w0:World} (he:Env.ren G k E1 E') (H:MR P N w0 E1 M w) (hE:E1 b=some i)
  (hv:vw M b=some ⟨true,r.elem,r.ext,r.cells⟩) (hok:r.cells.all (okV G)=true):∃ ob,w.heap[i.blk]? = some ob∧ObjR P E' i (r.ren G k).obj ob∧N≤i.blk:=by
 obtain⟨q,h1,h2,h3,h4,h5,h6,h7,h8⟩:=Qc8 hv
 have hq:=Qdl (h7 rfl)
 obtain⟨ob,g1,g2⟩:=H.objs b i _ hE hq rfl
 refine⟨ob,g1,?_,H.own b i _ hE hq rfl⟩
 cases g2 with
 |row R =>
  simp only at h2 h3 h4
  refine .row ⟨by show _=r.elem;rw [← h3];exact R.elem,?_,?_,?_,?_⟩
  ·intro j v hj
   have hj':(r.cells.map (renV G k))[j]? = some v:=by
    have:Qjc true ⟨T.ofList (r.cells.map (renV G k)),(r.cells.map (renV G k)).length,[],r.elem,.none,r.ext⟩=_:=Qcj r.elem (r.cells.map (renV G k)) r.ext
    obtain⟨h0,_,_,_,_,k6⟩:=Qgv this
    simp only at k6
    rw [← k6 j];exact hj
   rw [List.getElem?_map,Option.map_eq_some_iff] at hj'
   obtain⟨u,hu,rfl⟩:=hj'
   obtain⟨v',g3,g4⟩:=R.cell j u (by rw [h6];exact hu)
   exact⟨v',g3,ren_V he (List.all_eq_true.1 hok u (List.mem_of_getElem? hu)) g4⟩
  ·show _=i.shift+(r.cells.map (renV G k)).length+i.extra*P.cellsOf r.elem
   rw [List.length_map,← h2,← h3];exact R.size
  ·intro hx;exact R.exact' (by rw [h4];exact hx)
  ·have:=R.fz;rw [h5] at this;exact this
theorem Qlu {P:Program} {G N:Nat} {w0:World} (pk:∀ N' w0',ProgOk (Qdo P G .lf) N' G w0') {f:FuncId} {n:Nat} {v:Value} {l:List CRow} (hr:ranTo G (runF (Qdo P G .lf) n f [] ⟨.lf,G⟩) v l)
  {E:Env} {m:Mem} {w:World} (HM:MR P N w0 E m w) (HG:Qhc G E) (hGn:G≤m.next) :
  Calls P f #[] w fun e w'=>∃ v' E',e=.returned v'∧VR E' (renV G m.next v) v'∧MR P N w0 E' (Qdr m (l.map (CRow.ren G m.next))) w'∧MExt m.next E m E' (Qdr m (l.map (CRow.ren G m.next))):=by
 obtain⟨M,hrun,hnext,hok,hrows⟩:=hr
 simp only [Kba] at hok
 obtain⟨hokv,hokl⟩:=hok
 have hGh:G≤w.heap.size:=by
  cases G with
  |zero=>omega
  |succ g=>have:=HM.ub g _ (HG g (by omega));exact this
 have H0:MR (Qdo P G .lf).p w.heap.size w (Env.globs G) ⟨.lf,G⟩ w:=by
  refine⟨fun b i o _ ho=>?_,fun b i hb=>?_,fun b hb=>⟨T.get_lf _,by unfold Env.globs;rw [if_neg (by show ¬ b<G;have:G≤b:=hb;omega)]⟩,fun b b' i i' o o' _ _ _ ho=>?_,fun b i o _ ho=>?_,.refl _ _,Knr _⟩
  ·rw [T.get_lf] at ho;cases ho
  ·unfold Env.globs at hb;split at hb
   ·cases hb;show b<_;omega
   ·cases hb
  ·rw [T.get_lf] at ho;cases ho
  ·rw [T.get_lf] at ho;cases ho
 refine (Qq3 (pk w.heap.size w) H0 (globs_ok G) .nil n hrun).mono ?_
 rintro e w' ⟨v',E1,rfl,hvr,H1⟩
 let E':Env:=fun b=>if b<m.next then E b else if b<m.next+l.length then E1 (b-m.next+G) else none
 have hEold:∀ b,b<m.next→E' b=E b:=fun b hb=>if_pos hb
 have hEnew:∀ b i,m.next≤b→E' b=some i→b<m.next+l.length∧E1 (b-m.next+G)=some i:=by
  intro b i hb h
  simp only [E'] at h
  rw [if_neg (by omega)] at h
  split at h
  ·rename_i h2;exact⟨h2,h⟩
  ·cases h
 have hle:Env.le E E':=fun b i hb=>by
  by_cases h:b<m.next
  ·rw [hEold b h];exact hb
  ·rw [(HM.dom b (by omega)).2] at hb;cases hb
 have hren:Env.ren G m.next E1 E':=fun b i hb h=>by
  have hlt:b<G+l.length:=by
   by_cases h2:M.next≤b
   ·rw [(H1.dom b h2).2] at h;cases h
   ·omega
  simp only [E']
  rw [if_neg (by omega),if_pos (by omega),show m.next+(b-G)-m.next+G=b from by omega];exact h
 have hrow:∀ b i,m.next≤b→E' b=some i→∃ r:CRow,(l.map (CRow.ren G m.next))[b-m.next]? = some (r.ren G m.next)∧∃ ob,w'.heap[i.blk]? = some ob∧ObjR P E' i (r.ren G m.next).obj ob∧w.heap.size≤i.blk:=by
  intro b i hb h
  obtain⟨h1,h2⟩:=hEnew b i hb h
  have hj:l[b-m.next]? = some (l[b-m.next]'(by omega)):=Kge _
  refine⟨_,by rw [List.getElem?_map,hj];rfl,?_⟩
  have hv:=hrows _ _ hj
  rw [show G+(b-m.next)=b-m.next+G from by omega] at hv
  exact row_ren hren H1 h2 hv (List.all_eq_true.1 hokl _ (List.mem_of_getElem? hj))
 have hget:∀ b o,m.next≤b→(Qdr m (l.map (CRow.ren G m.next))).objs.get b=some o→(∃ i,E' b=some i)→∃ r:CRow,(l.map (CRow.ren G m.next))[b-m.next]? = some r∧o=r.obj:=by
  intro b o hb ho ⟨i,hi⟩
  obtain⟨h1,_⟩:=hEnew b i hb hi
  rw [Qc0,if_neg (by omega),if_pos (by rw [List.length_map];exact h1),List.getElem?_map,Option.map_eq_some_iff] at ho
  obtain⟨r,hr,rfl⟩:=ho
  exact⟨r,hr,rfl⟩
 refine⟨v',E',rfl,ren_V hren hokv hvr,⟨?_,?_,?_,?_,?_,?_,?_⟩,⟨hle,?_,?_⟩⟩
 ·intro b i o hb ho hl
  by_cases h:b<m.next
  ·rw [Qc0,if_pos h] at ho
   rw [hEold b h] at hb
   obtain⟨ob,h1,h2⟩:=HM.objs b i o hb ho hl
   exact⟨ob,by rw [H1.base.block _ (HM.ub b i hb)];exact h1,h2.mono hle⟩
  ·obtain⟨r,h1,h2⟩:=hget b o (by omega) ho ⟨i,hb⟩
   obtain⟨r',h3,ob,h4,h5,h6⟩:=hrow b i (by omega) hb
   obtain rfl:=Kai (h1.symm.trans h3)
   subst h2
   exact⟨ob,h4,h5⟩
 ·intro b i hb
  by_cases h:b<m.next
  ·rw [hEold b h] at hb
   have:=HM.ub b i hb
   have:=H1.base.size;omega
  ·exact H1.ub _ i (hEnew b i (by omega) hb).2
 ·intro b hb
  rw [Qe5,List.length_map] at hb
  refine⟨?_,?_⟩
  ·rw [Qc0,if_neg (by omega),if_neg (by rw [List.length_map];omega)]
   exact (HM.dom b (by omega)).1
  ·simp only [E'];rw [if_neg (by omega),if_neg (by omega)]
 ·intro b b' i i' o o' hne hb hb' ho ho' hl hl'
  have key:∀ (b b':Nat) (i i':Info),b<m.next→m.next≤b'→E' b=some i→E' b'=some i'→i.blk≠i'.blk:=by
   intro b b' i i' h1 h2 h3 h4
   rw [hEold b h1] at h3
   have h5:=HM.ub b i h3
   obtain⟨r',_,ob,_,_,h6⟩:=hrow b' i' h2 h4
   omega
  by_cases h:b<m.next
  ·by_cases h':b'<m.next
   ·rw [Qc0,if_pos h] at ho
    rw [Qc0,if_pos h'] at ho'
    rw [hEold b h] at hb
    rw [hEold b' h'] at hb'
    exact HM.inj b b' i i' o o' hne hb hb' ho ho' hl hl'
   ·exact key b b' i i' h (by omega) hb hb'
  ·by_cases h':b'<m.next
   ·exact (key b' b i' i h' (by omega) hb' hb).symm
   ·obtain⟨h1,h2⟩:=hEnew b i (by omega) hb
    obtain⟨h3,h4⟩:=hEnew b' i' (by omega) hb'
    have hj:l[b-m.next]? = some (l[b-m.next]'(by omega)):=Kge _
    have hj':l[b'-m.next]? = some (l[b'-m.next]'(by omega)):=Kge _
    have hv:=hrows _ _ hj
    have hv':=hrows _ _ hj'
    obtain⟨q,_,_,_,_,_,_,k1,_⟩:=Qc8 hv
    obtain⟨q',_,_,_,_,_,_,k1',_⟩:=Qc8 hv'
    have e1:=Qdl (k1 rfl)
    have e2:=Qdl (k1' rfl)
    rw [show G+(b-m.next)=b-m.next+G from by omega] at e1
    rw [show G+(b'-m.next)=b'-m.next+G from by omega] at e2
    exact H1.inj _ _ i i' _ _ (by omega) h2 h4 e1 e2 rfl rfl
 ·intro b i o hb ho hown
  by_cases h:b<m.next
  ·rw [Qc0,if_pos h] at ho
   rw [hEold b h] at hb
   exact HM.own b i o hb ho hown
  ·obtain⟨r',_,ob,_,_,h6⟩:=hrow b i (by omega) hb
   have:=HM.size;omega
 ·have:=HM.size
  exact HM.base.trans (H1.base.mono this)
 ·have:=HM.size;have:=H1.base.size;omega
 ·intro b hb hn
  refine⟨by rw [hEold b hb];exact hn,by rw [Qc0,if_pos hb]⟩
 ·rw [Qe5];omega
theorem Qz3 {P:Program} {G N:Nat} {w0:World} {ov:T (List Value→Mem→Option (Value × Mem))} (pk:ProgOk (Qdo P G .lf) N G w0)
  (h:∀ f g,ov.get f=some g→(∃ fn c,P.funcs[f]? = some fn∧fn.body=some c)∧∀ args m v m',g args m=some (v,m')→∀ (E:Env) (args':List Value) (w:World),MR P N w0 E m w→Qhc G E→VRs E args args' →
   Calls P f ⟨args'⟩ w fun e w'=>∃ v' E',e=.returned v'∧VR E' v v'∧MR P N w0 E' m' w'∧MExt m.next E m E' m'):ProgOk (Qdo P G ov) N G w0:=by
 refine⟨Qnd _ _ _,rfl,pk.names,pk.codes,pk.ext,fun f g args m v m' hg hr E args' w HM HG ha=>?_⟩
 obtain⟨⟨fn,c,h1,h2⟩,h3⟩:=h f g hg
 refine⟨?_,h3 args m v m' hr E args' w HM HG ha⟩
 have:(Qdo P G .lf).funcs.get f=some fn:=by
  simp only [Qdo,T.get_ofList];simpa using h1
 exact Qh4 pk this h2 _
noncomputable def memO (r:Option (Value × Mem)):Mem:=match r with|some (_,M)=>M|none=>⟨.lf,0⟩
theorem Qvt {G:Nat} {r:Option (Value × Mem)} {v:Value} {l:List CRow} (h1:r=some (v,memO r)) (h2:Nat.beq (memO r).next (G+l.length)=true) (h3:(okV G v&&l.all fun r=>r.cells.all (okV G))=true)
  (h4:(List.range l.length).map (fun j=>vw (memO r) (G+j))=l.map fun r=>some ⟨true,r.elem,r.ext,r.cells⟩):ranTo G r v l:=by
 refine⟨_,h1,Knq h2,h3,fun j r' hj=>?_⟩
 have hlt:=(Kgs.1 hj).1
 have:=congrArg (fun x=>x[j]?) h4
 simp only [List.getElem?_map,List.getElem?_range hlt,hj,Option.map_some,Kaj] at this
 exact this
end Go.Ev

namespace Go.Ev
open Go.RowKit
def Qh7:Option PanicEntry→FrameMode
 |none=>.returning
 |some p=>.panicking [p]
section
variable (tb:Tabs)
def CallsD (g:FuncId) (args:List Value) (rec:Option PanicEntry) (m:Mem) (S:Mem→Prop):Prop :=
 ∃ fr,Qf2 tb g args .deferred=some fr∧∀ (c:AFrame) (cs:List AFrame),c.mode=Qh7 rec→(rec≠none→isDr c.todo=false) →
   ∃ m',S m'∧To tb ⟨fr,c::cs,m⟩ ⟨Qd6 c .returning,cs,m'⟩
def DefA (d:Deferred) (rec:Option PanicEntry) (m:Mem) (S:Mem→Prop):Prop :=
 ∃ fv cap f args,d.target=.fn fv cap∧Qd8 tb fv cap.toList d.args.toList m=.enter f args∧CallsD tb f args rec m S
def bodyD (fd:Func) (d:Deferred) (R:OutA→Mem→Prop):Qda
 | .normal,l,ds,m=>ds=[d]∧DefA tb d none m (fun m2=>∃ v,resL (tb:=tb) fd l m2=some v∧R (.ret v) m2)
 | .jump .ret,l,ds,m=>ds=[d]∧DefA tb d none m (fun m2=>∃ v,resL (tb:=tb) fd l m2=some v∧R (.ret v) m2)
 | .pan ch,l,ds,m=>ds=[d]∧∃ p,ch=[p]∧DefA tb d (some p) m (fun m2=>∃ v,resL (tb:=tb) fd l m2=some v∧R (.ret v) m2)
 |_,_,_,_=>False
variable {tb}
theorem Quw {d:Deferred} {rec:Option PanicEntry} {m:Mem} {S:Mem→Prop} (h:DefA tb d rec m S) {fn:FuncId} {t:T Value} {nt:Nat} {k:List AItem} {kind:CallKind} {ro:Option Nat} (cs:List AFrame) {mode:FrameMode}
  (hm:mode=Qh7 rec) (hk:rec≠none→isDr k=false):∃ m',S m'∧To tb ⟨⟨fn,t,nt,k,[d],mode,kind,ro⟩,cs,m⟩ ⟨⟨fn,t,nt,k,[],.returning,kind,ro⟩,cs,m'⟩:=by
 obtain⟨fv,cap,f,args,h1,h2,fr,h3,h4⟩:=h
 obtain⟨m',hS,hto⟩:=h4 ⟨fn,t,nt,k,[],mode,kind,ro⟩ cs hm hk
 refine⟨m',hS,.step ?_ hto⟩
 cases rec with
 |none=>subst hm;simp only [Qh7,Qcn,Qdi,Qhf,h1,h2,h3]
 |some p=>subst hm;simp only [Qh7,Qcn,Qdi,Qhf,h1,h2,h3]
theorem Qq4 {f:FuncId} {fd:Func} {c:Code} {args:List Value} {m:Mem} {d:Deferred} {R:OutA→Mem→Prop} (hf:tb.funcs.get f=some fd) (hb:fd.body=some c)
  (h:wpC tb ⟨f,.normal,none⟩ c (args++List.replicate (fd.ntmps-args.length) undef) [] m (bodyD tb fd d R)):Qaw tb f args m R:=by
 refine⟨⟨f,T.ofList args,max fd.ntmps args.length,[.code c],[],.run,.normal,none⟩,by simp only [Qf2,hf,hb],fun cs=>?_⟩
 have hs:Qb7 (args++List.replicate (fd.ntmps-args.length) undef) (T.ofList args):=fun x=>by
  rw [Qa7 args x]
  simp only [List.getD_eq_getElem?_getD,List.getElem?_append]
  split
  ·rfl
  ·rename_i hx
   rw [List.getElem?_eq_none (by omega),List.getElem?_replicate]
   split<;>rfl
 have hl:(args++List.replicate (fd.ntmps-args.length) undef).length=max fd.ntmps args.length:=by
  simp only [Kla,List.length_replicate];omega
 obtain⟨e,l',t',ds',m',b,h1,h2,h3,h4,h5⟩:=h (T.ofList args) [] cs hs
 rw [hl] at h5 h4
 have hres:∀ m2,Qcp tb fd t' m2=resL (tb:=tb) fd l' m2:=fun m2=>by
  unfold resL Qcp
  rw [Qfm fun x=>(h1.ev (.tmp x)).trans ((Qa7 l').ev (.tmp x)).symm]
 cases e with
 |normal =>
  obtain rfl:=h4
  obtain⟨rfl,hD⟩:=h3
  obtain⟨m2,⟨v,hv,hR⟩,hto⟩:=Quw hD (fn:=f) (t:=t') (nt:=max fd.ntmps args.length) (k:=[]) (kind:=.normal) (ro:=none) cs rfl (fun e=>absurd rfl e)
  exact⟨.ret v,m2,_,hR,(h5.trans (.one rfl)).trans hto,rfl,rfl,rfl,rfl,fd,hf,(hres m2).trans hv⟩
 |jump c =>
  obtain⟨k',rfl,hk,hj⟩:=h4
  cases c<;>first|exact h3.elim|skip
  obtain⟨rfl,hD⟩:=h3
  obtain⟨m2,⟨v,hv,hR⟩,hto⟩:=Quw hD (fn:=f) (t:=t') (nt:=max fd.ntmps args.length) (k:=k') (kind:=.normal) (ro:=none) cs rfl (fun e=>absurd rfl e)
  exact⟨.ret v,m2,_,hR,(h5.trans (.one rfl)).trans hto,rfl,rfl,rfl,rfl,fd,hf,(hres m2).trans hv⟩
 |pan ch =>
  obtain⟨k',rfl,hk⟩:=h4
  obtain⟨rfl,p,rfl,hD⟩:=h3
  obtain⟨m2,⟨v,hv,hR⟩,hto⟩:=Quw hD (fn:=f) (t:=t') (nt:=max fd.ntmps args.length) (k:=k') (kind:=.normal) (ro:=none) cs rfl (fun _=>by
   rcases hk with hk|hk
   ·cases hk
   ·exact hk)
  exact⟨.ret v,m2,_,hR,h5.trans hto,rfl,rfl,rfl,rfl,fd,hf,(hres m2).trans hv⟩
def bodyE (tb:Tabs) (fd:Func) (S:Mem→Prop):Qda
 | .normal,l,ds,m=>ds=[]∧(∃ w,resL (tb:=tb) fd l m=some w)∧S m
 | .jump .ret,l,ds,m=>ds=[]∧(∃ w,resL (tb:=tb) fd l m=some w)∧S m
 |_,_,_,_=>False
def Qoo (rec:Option PanicEntry) (c:AFrame):AFrame:=match rec with
 |none=>c
 |some p=>Qd6 c (.panicking [{ v:=p.v,recovered:=true }])
def recV:Option PanicEntry→Value
 |none=>.nilIface
 |some p=>p.v
theorem Qzv {tb:Tabs} {rec:Option PanicEntry} {c:AFrame} {cs:List AFrame} {g:FuncId} {fd:Func} {t:T Value} {m:Mem} {w:Value} (hf:tb.funcs.get g=some fd) (hm:c.mode=Qh7 rec) (hk:rec≠none→isDr c.todo=false) (hr:Qcp tb fd t m=some w) :
  Qjh tb g t .deferred (Qoo rec c::cs) m=some ⟨Qd6 c .returning,cs,m⟩:=by
 obtain⟨fn,t2,nt,todo,ds,mode,kind,ro⟩:=c
 cases rec with
 |none=>simp only [Qh7] at hm;subst hm;simp only [Qjh,hf,hr,Qoo,Qd6]
 |some p=>have hk:=hk (by simp);simp only at hk;simp only [Qjh,hf,hr,Qoo,Qd6,hk]
theorem Jb0 {tb:Tabs} {g:FuncId} {fd:Func} {id:Nat} {ops:Array Oper} {rest:Code} {args:List Value} {m:Mem} {S:Mem→Prop} {rec:Option PanicEntry} {o:Oper} {os:List Oper} {a:Array Operand} {ty:Array TypeId}
  (hf:tb.funcs.get g=some fd) (hb:fd.body=some (.seq (.region id ops false) rest)) (ho:ops.toList=o::os) (hop:o.op=.call ⟨.builtin .recover,a,ty⟩) (hg:o.guard=none) (hd:dstB o.dst (args++List.replicate (fd.ntmps-args.length) undef).length=true)
  (hrec:∀ p,rec=some p→p.recovered=false∧p.goexit=false)
  (h:Qks tb ⟨g,.deferred,none⟩ ops (Qhx (fun l ds m=>wpC tb ⟨g,.deferred,none⟩ rest l ds m (bodyE tb fd S)) (bodyE tb fd S)) os (Qbu o.dst (recV rec) (args++List.replicate (fd.ntmps-args.length) undef)) [] m):CallsD tb g args rec m S:=by
 refine⟨⟨g,T.ofList args,max fd.ntmps args.length,[.code (.seq (.region id ops false) rest)],[],.run,.deferred,none⟩,by simp only [Qf2,hf,hb],fun c cs hm hk=>?_⟩
 have hs:Qb7 (args++List.replicate (fd.ntmps-args.length) undef) (T.ofList args):=fun x=>by
  rw [Qa7 args x]
  simp only [List.getD_eq_getElem?_getD,List.getElem?_append]
  split
  ·rfl
  ·rename_i hx
   rw [List.getElem?_eq_none (by omega),List.getElem?_replicate]
   split<;>rfl
 have hl:(args++List.replicate (fd.ntmps-args.length) undef).length=max fd.ntmps args.length:=by
  simp only [Kla,List.length_replicate];omega
 generalize args++List.replicate (fd.ntmps-args.length) undef=L at hs hl hd h
 generalize T.ofList args=t0 at hs
 rw [← hl]
 have hw:Qbh t0 ops o.guard=true:=by rw [hg];rfl
 have hopA:opA o.op tb t0 m=.c:=by rw [hop];rfl
 obtain⟨t1,hp,ht1⟩:=hs.put (v:=recV rec) (Qqy hd)
 have st3:Qcn tb ⟨mkF ⟨g,.deferred,none⟩ t0 L.length (.ops ops (o::os)::[.code rest]) [],c::cs,m⟩=some ⟨mkF ⟨g,.deferred,none⟩ t1 L.length (.ops ops os::[.code rest]) [],Qoo rec c::cs,m⟩:=by
  have h1:Qcn tb ⟨mkF ⟨g,.deferred,none⟩ t0 L.length (.ops ops (o::os)::[.code rest]) [],c::cs,m⟩=Qe7 tb o (mkF ⟨g,.deferred,none⟩ t0 L.length (.ops ops (o::os)::[.code rest]) []) (c::cs) m:=by
   simp only [Qcn,Qdi,mkF,Qco,Qhn,Qhl,opsA,Qg4,Qhk,hw,hopA,opsK,frm]
  rw [h1]
  unfold Qe7
  rw [hop]
  cases rec with
  |none=>simp only [Qh7] at hm;simp only [Qhj,mkF,hm,Qbn,recV] at hp ⊢;simp only [hp,am,Qoo]
  |some p =>
   obtain⟨r1,r2⟩:=hrec p rfl
   simp only [Qh7] at hm;simp only [Qhj,mkF,hm,r1,r2,Qbn,recV] at hp ⊢;simp only [hp,am,Qoo]
 obtain⟨e,l',t',ds',m',b,q1,q2,q3,q4,q5⟩:=Ql7 os _ [] m t1 [.code rest] (Qoo rec c::cs) ht1 h
 rw [Qe2] at q2 q4 q5
 have start:To tb ⟨⟨g,t0,L.length,[.code (.seq (.region id ops false) rest)],[],.run,.deferred,none⟩,c::cs,m⟩ b :=
  .step (b:=⟨mkF ⟨g,.deferred,none⟩ t0 L.length (.code (.region id ops false)::[.code rest]) [],c::cs,m⟩) rfl (.step (b:=⟨mkF ⟨g,.deferred,none⟩ t0 L.length (.ops ops ops.toList::[.code rest]) [],c::cs,m⟩) rfl (by rw [ho];exact .step st3 q5.to))
 have fin:∀ {l2:List Value} {t2:T Value} {m2:Mem} {k2:List AItem},Qb7 l2 t2→(∃ w,resL (tb:=tb) fd l2 m2=some w)→To tb ⟨⟨g,t2,L.length,k2,[],.returning,.deferred,none⟩,Qoo rec c::cs,m2⟩ ⟨Qd6 c .returning,cs,m2⟩:=by
  rintro l2 t2 m2 k2 hs2 ⟨w,hw2⟩
  have hres:Qcp tb fd t2 m2=some w:=by
   rw [← hw2];unfold resL Qcp
   rw [Qfm fun x=>(hs2.ev (.tmp x)).trans ((Qa7 l2).ev (.tmp x)).symm]
  exact .one (by simp only [Qcn,Qdi,Qhf];exact Qzv hf hm hk hres)
 have last:∀ {e2:ExA} {l2:List Value} {t2:T Value} {ds2:List Deferred} {m2:Mem} {k2:List AItem} {b2:AM},Qb7 l2 t2→bodyE tb fd S e2 l2 ds2 m2→k2=[]∨e2≠.normal→Aft ⟨g,.deferred,none⟩ t2 L.length k2 ds2 (Qoo rec c::cs) m2 e2 b2→S m2∧To tb b2 ⟨Qd6 c .returning,cs,m2⟩:=by
  intro e2 l2 t2 ds2 m2 k2 b2 hs2 h3 hk2 h4
  cases e2 with
  |normal =>
   obtain rfl:=h4
   obtain⟨rfl,hr,hS⟩:=h3
   have hk3:k2=[]:=by rcases hk2 with h|h;exact h;exact absurd rfl h
   subst hk3
   exact⟨hS,(To.one rfl).trans (fin hs2 hr)⟩
  |jump c2 =>
   obtain⟨k',rfl,_,_⟩:=h4
   cases c2<;>first|exact h3.elim|skip
   obtain⟨rfl,hr,hS⟩:=h3
   exact⟨hS,(To.one rfl).trans (fin hs2 hr)⟩
  |pan ch=>exact h3.elim
 cases e with
 |normal =>
  obtain rfl:=q4
  obtain⟨e2,l2,t2,ds2,m2,b2,p1,p2,p3,p4,p5⟩:=q3 t' [] (Qoo rec c::cs) q1
  rw [q2] at p4 p5
  obtain⟨hS,hto⟩:=last p1 p3 (.inl rfl) p4
  exact⟨m2,hS,start.trans (p5.trans hto)⟩
 |jump c2 =>
  obtain⟨hS,hto⟩:=last q1 q3 (.inr (by simp)) q4
  exact⟨m',hS,start.trans hto⟩
 |pan ch=>exact q3.elim
end
end Go.Ev

namespace Go.Ev
open Go.RowKit
variable {tb:Tabs}
def endD (tb:Tabs) (rs:List ResultVar) (d:Deferred) (R:OutA→Mem→Prop):Qda
 | .normal,l,ds,m=>ds=[d]∧DefA tb d none m (fun m2=>∃ v,resX tb rs l m2=some v∧R (.ret v) m2)
 | .jump .ret,l,ds,m=>ds=[d]∧DefA tb d none m (fun m2=>∃ v,resX tb rs l m2=some v∧R (.ret v) m2)
 | .pan ch,l,ds,m=>ds=[d]∧∃ p,ch=[p]∧DefA tb d (some p) m (fun m2=>∃ v,resX tb rs l m2=some v∧R (.ret v) m2)
 |_,_,_,_=>False
theorem callsXD {f:FuncId} {fd:Func} {c:Code} {s:SCode} {n:Nat} {rs:List ResultVar} {args:List Value} {m:Mem} {d:Deferred} {R:OutA→Mem→Prop} (hf:tb.funcs.get f=some fd) (hb:fd.body=some c) (hs:Qa2 c=s) (hn:fd.ntmps=n) (hr:fd.results.toList=rs)
  (h:wpX tb ⟨f,.normal,none⟩ s (args++List.replicate (n-args.length) undef) [] m (endD tb rs d R)):Qaw tb f args m R:=by
 subst hn;subst hr
 refine Qq4 (d:=d) hf hb ((h c hs).mono fun e l' ds' m' h=>?_)
 cases e with
 |normal=>exact h
 |jump c=>cases c<;>exact h
 |pan ch=>exact h
def endE (tb:Tabs) (rs:List ResultVar) (S:Mem→Prop):Qda
 | .normal,l,ds,m=>ds=[]∧(∃ w,resX tb rs l m=some w)∧S m
 | .jump .ret,l,ds,m=>ds=[]∧(∃ w,resX tb rs l m=some w)∧S m
 |_,_,_,_=>False
theorem Qy1 {c:Code} {os:List SOp} (hc:Qa2 c=.reg os):∃ id ops,c=.region id ops false∧ops.toList.map (Qms ops.toList)=os:=by
 unfold Qa2 at hc
 split at hc<;>first|contradiction|skip
 cases hc;exact⟨_,_,rfl,rfl⟩
theorem Qfk {F:FC} {ops:Array Oper} {Q Q':Qda} (hQ:∀ e l ds m,Q e l ds m→Q' e l ds m):∀ (os:List Oper) (l:List Value) (ds:List Deferred) (m:Mem),Qks tb F ops Q os l ds m→Qks tb F ops Q' os l ds m
 | [],l,ds,m,h=>hQ _ _ _ _ h
 |o::os,l,ds,m,h=>by
  obtain⟨hd,h⟩:=h
  refine⟨hd,?_⟩
  revert h
  split
  ·exact fun h=>Qfk hQ os _ _ _ h
  ·split
   ·exact fun h=>Qfk hQ os _ _ _ h
   ·exact fun h=>Qfk hQ os _ _ _ h
   ·exact fun h=>Qfk hQ os _ _ _ h
   ·exact fun h=>Qhd h (fun v ds m h=>Qfk hQ os _ _ _ h) fun ch m h=>hQ _ _ _ _ h
   ·exact fun h=>h
theorem callsDX {g:FuncId} {fd:Func} {c:Code} {rest:SCode} {n:Nat} {rs:List ResultVar} {args:List Value} {m:Mem} {S:Mem→Prop} {rec:Option PanicEntry} {d:Option Tmp} {ty:TypeId} {a:Array Operand} {tys:Array TypeId} {os:List SOp}
  (hf:tb.funcs.get g=some fd) (hb:fd.body=some c) (hs:Qa2 c=.seq (.reg (⟨d,.call ⟨.builtin .recover,a,tys⟩,ty,.no⟩::os)) rest) (hn:fd.ntmps=n) (hr:fd.results.toList=rs)
  (hd:dstB d (args++List.replicate (n-args.length) undef).length=true) (hrec:∀ p,rec=some p→p.recovered=false∧p.goexit=false)
  (h:wpR tb ⟨g,.deferred,none⟩ (Qhx (fun l ds m=>wpX tb ⟨g,.deferred,none⟩ rest l ds m (endE tb rs S)) (endE tb rs S)) os (Qbu d (recV rec) (args++List.replicate (n-args.length) undef)) [] m):CallsD tb g args rec m S:=by
 subst hn;subst hr
 obtain⟨a',b',rfl,ha,hb'⟩:=Qrq hs
 obtain⟨id,ops,rfl,hops⟩:=Qy1 ha
 cases hl:ops.toList with
 |nil=>rw [hl] at hops;cases hops
 |cons o os' =>
  have hops2:=hops
  rw [hl,List.map_cons] at hops2
  simp only [List.cons.injEq] at hops2
  obtain⟨h1,h2⟩:=hops2
  simp only [Qms,SOp.mk.injEq] at h1
  obtain⟨k1,k2,k3,k4⟩:=h1
  have hg:o.guard=none:=by
   cases hgd:o.guard with
   |none=>rfl
   |some q =>
    obtain⟨j,w⟩:=q
    rw [hgd] at k4
    unfold Qgb at k4
    simp only at k4
    split at k4
    ·split at k4<;>cases k4
    ·cases k4
  have hE:∀ e l' ds' m',endE tb fd.results.toList S e l' ds' m'→bodyE tb fd S e l' ds' m':=fun e l' ds' m' h=>by
   cases e with
   |normal=>exact h
   |jump c=>cases c<;>exact h
   |pan ch=>exact h
  refine Jb0 (rest:=b') hf hb hl k2 hg (by rw [k1];exact hd) hrec ?_
  have h3:=Qmo (ops:=ops) os' _ _ _ (by rw [← hl] at h2;rw [h2];exact h)
  refine Qfk (fun e l2 ds2 m2 hq=>?_) os' _ _ _ (by rw [k1];exact h3)
  cases e with
  |normal=>exact (hq b' hb').mono hE
  |jump c=>exact hE (.jump c) l2 ds2 m2 hq
  |pan ch=>exact hE (.pan ch) l2 ds2 m2 hq
end Go.Ev

namespace Go.Ev
open Go.RowKit
structure Lp where
 fn:FuncId
 t:T Value
 n:Nat
 ps:List Tmp
 a:Code
 b:Code
 d:Nat
def Lp.ob (L:Lp) (st:LoopState) (pe:Option Code):AObj:=.loop st pe L.fn L.t L.n L.ps L.a L.b L.d
def coll (b:Nat):Deferred := { target:=.collected b,args := #[] }
section
variable {tb:Tabs}
def endR (lp:Nat) (L:Lp) (R:OutA→Mem→Prop):Qda
 | .normal,l,ds,m=>ds=[]∧(∃ st pe,m.objs.get lp=some (L.ob st pe))∧R (.ret (.bool true)) (Qas m lp (L.ob .ready none))
 | .jump .ret,l,ds,m=>ds=[]∧(∃ st pe,m.objs.get lp=some (L.ob st pe))∧R (.ret (.bool false)) (Qas m lp (L.ob .done (some .ret)))
 |_,_,_,_=>False
theorem Qxc {lp:Nat} {L:Lp} {m:Mem} {v:Value} {p:Nat} {l:List Value} {R:OutA→Mem→Prop} {pe:Option Code} {sa sb:SCode} (hl:m.objs.get lp=some (L.ob .ready pe)) (hok:(Qb6 tb.g L.a&&Qb6 tb.g L.b&&(tb.funcs.get L.fn).isSome)=true) (hp:L.ps=[p]) (hpl:p<l.length) (hs:Qb7 l L.t) (hn:L.n=l.length)
  (ha:Qa2 L.a=sa) (hb:Qa2 L.b=sb)
  (h:wpX tb ⟨L.fn,.normal,some lp⟩ sa (l.set p v) [] m (fun e l2 ds2 m2=>e=.normal∧ds2=[]∧(∃ pe2,m2.objs.get lp=some (L.ob .ready pe2)∧wpX tb ⟨L.fn,.normal,some lp⟩ sb l2 [] (Qas m2 lp (L.ob .busy pe2)) (endR lp L R)))):Qrg tb lp [v] m R:=by
 obtain⟨t1,ht1,hs1⟩:=hs.put (d:=some p) (v:=v) (fun x e=>by cases e;exact hpl)
 have hf:Qfz L.n L.ps [v] L.t=some t1:=by
  rw [hp,hn];simp only [Qfz,ht1,oB]
 refine⟨⟨L.fn,t1,L.n,[.code L.a,.beginRound,.code L.b],[],.run,.normal,some lp⟩,?_,fun c cs=>?_⟩
 ·unfold Qqc
  rw [hl]
  simp only [Lp.ob,hok,hf]
 obtain⟨e,l2,t2,ds2,m2,b2,h1,h2,h3,h4,h5⟩:=h L.a ha t1 [.beginRound,.code L.b] (c::cs) hs1
 obtain⟨rfl,rfl,pe2,h6,h7⟩:=h3
 obtain rfl:=h4
 have hn2:(l.set p v).length=L.n:=by rw [List.length_set,hn]
 rw [hn2] at h5 h2
 have st1:Qcn tb ⟨mkF ⟨L.fn,.normal,some lp⟩ t2 L.n [.beginRound,.code L.b] [],c::cs,m2⟩=some ⟨mkF ⟨L.fn,.normal,some lp⟩ t2 L.n [.code L.b] [],c::cs,Qas m2 lp (L.ob .busy pe2)⟩:=by
  simp only [Qcn,Qdi,mkF,Qco,Qhn,Qwf,h6,Lp.ob,mkA]
 obtain⟨e,l3,t3,ds3,m3,b3,g1,g2,g3,g4,g5⟩:=h7 L.b hb t2 [] (c::cs) h1
 rw [h2] at g4 g5
 have start:=h5.trans (.step st1 g5)
 cases e with
 |normal =>
  obtain rfl:=g4
  obtain⟨rfl,⟨st,pe,h8⟩,hR⟩:=g3
  refine⟨.ret (.bool true),_,hR,fun c1 hc=>start.trans (.one ?_)⟩
  simp only [Lp.ob] at h8 hc ⊢
  simp only [Qcn,Qdi,mkF,Qco,Qkc,frm,h8,hc,am]
 |jump c2 =>
  obtain⟨k',rfl,_,_⟩:=g4
  cases c2<;>first|exact g3.elim|skip
  obtain⟨rfl,⟨st,pe,h8⟩,hR⟩:=g3
  refine⟨.ret (.bool false),_,hR,fun c1 hc=>start.trans (.one ?_)⟩
  simp only [Lp.ob] at h8 hc ⊢
  simp only [Qcn,Qdi,mkF,Qco,Qhn,Qn8,Qkc,frm,h8,hc,am]
 |pan ch=>exact g3.elim
def aftL (lp:Nat) (L:Lp) (Q:Qda) (l:List Value) (ds:List Deferred) (m:Mem):Prop :=
 (∃ st,st≠.busy∧m.objs.get lp=some (L.ob st none)∧Q .normal l ds (Qas m lp (L.ob .exhausted none))) ∨
 (∃ st,st≠.busy∧m.objs.get lp=some (L.ob st (some .ret))∧Q (.jump .ret) l ds (Qas m lp (L.ob .exhausted (some .ret))))
theorem wp_rng {F:FC} {f:Operand} {ps:Array Tmp} {a b:Code} {l:List Value} {ds:List Deferred} {m:Mem} {Q:Qda} (hro:F.ro=none)
  (h:∀ t,Qb7 l t→∀ L,L=Lp.mk F.fn t l.length ps.toList a b m.next→Qey tb (Qaz tb (evL l f) [.func (.yield (m.next+1)) #[] #[]] (Qah (Qah m (.dfr (some []))) (L.ob .ready none))) (coll m.next::ds) (Qah (Qah m (.dfr (some []))) (L.ob .ready none))
   (fun _ ds' m'=>aftL (m.next+1) L Q l ds' m') (fun ch m'=>Q (.pan ch) l (coll m.next::ds) m')):wpC tb F (.rangeFunc f ps a b) l ds m Q:=fun t k cs ht=>by
 have h:=h t ht _ rfl
 generalize hL:Lp.mk F.fn t l.length ps.toList a b m.next=L at h
 have key:Qe8 tb F Q l.length k cs ⟨mkF F t l.length (.code (.rangeFunc f ps a b)::k) ds,cs,m⟩:=by
  refine Qui (kk:=.inRangeFunc (m.next+1)::k) rfl ht (fun ch m' h=>⟨.inr rfl,h⟩) h (fun v m' hk=>?_) fun b2 hb=>?_
  ·refine⟨⟨F.fn,t,l.length,.endRangeFunc (m.next+1)::k,coll m.next::ds,.run,F.kind,F.ro⟩,rfl,?_⟩
   rcases hk with ⟨st,hst,hg,hq⟩|⟨st,hst,hg,hq⟩
   ·refine⟨.normal,l,t,_,_,_,ht,rfl,hq,rfl,.step ?_ (.refl _)⟩
    simp only [Lp.ob] at hg ⊢
    cases st<;>first|exact absurd rfl hst|simp only [Qcn,Qdi,Qco,Qhn,endA,hg,mkA,mkF]
   ·refine⟨.jump .ret,l,t,_,_,_,ht,rfl,hq,⟨k,rfl,rfl,rfl⟩,.step ?_ (.refl _)⟩
    simp only [Lp.ob] at hg ⊢
    cases st<;>first|exact absurd rfl hst|simp only [Qcn,Qdi,Qco,Qhn,endA,hg,mkA,mkF,Qb6]
  ·subst hL
   rw [← ht.ev f] at hb
   simp only [Qcn,Qdi,mkF,Qco,Qhn,Qn8,Qiv,hro,frm,coll,Lp.ob] at hb ⊢
   exact hb
 obtain⟨e,l',t',ds',m',b',h1,h2,h3,h4,h5⟩:=key
 exact⟨e,l',t',ds',m',b',h1,h2,h3,h4,h5.to⟩
theorem xrng {F:FC} {f:Operand} {ps:List Tmp} {a b:SCode} {l:List Value} {ds:List Deferred} {m:Mem} {Q:Qda} (hro:F.ro=none) (hg:tb.g=8) (hfn:(tb.funcs.get F.fn).isSome=true)
  (h:∀ L:Lp,L.fn=F.fn→Qb7 l L.t→L.n=l.length→L.ps=ps→Qa2 L.a=a→Qa2 L.b=b→L.d=m.next→(Qb6 tb.g L.a&&Qb6 tb.g L.b&&(tb.funcs.get L.fn).isSome)=true →
   Qey tb (Qaz tb (evL l f) [.func (.yield (m.next+1)) #[] #[]] (Qah (Qah m (.dfr (some []))) (L.ob .ready none))) (coll m.next::ds) (Qah (Qah m (.dfr (some []))) (L.ob .ready none))
   (fun _ ds' m'=>aftL (m.next+1) L Q l ds' m') (fun ch m'=>Q (.pan ch) l (coll m.next::ds) m')):wpX tb F (.rng f ps a b true) l ds m Q:=fun c' hs=>by
 unfold Qa2 at hs
 split at hs<;>first|contradiction|skip
 rename_i f' ps' a' b'
 simp only [SCode.rng.injEq] at hs
 obtain⟨rfl,rfl,rfl,rfl,hok⟩:=hs
 refine wp_rng hro fun t ht L hL=>?_
 subst hL
 exact h _ rfl ht rfl rfl rfl rfl rfl (by rw [hg,hfn,Bool.and_true];exact hok)
def endC (tb:Tabs) (rs:List ResultVar) (R:OutA→Mem→Prop):Qda
 | .normal,l,ds,m=>(ds=[]∧∃ v,resX tb rs l m=some v∧R (.ret v) m)∨∃ b,ds=[coll b]∧m.objs.get b=some (.dfr (some []))∧∃ v,resX tb rs l (Qas m b (.dfr none))=some v∧R (.ret v) (Qas m b (.dfr none))
 | .jump .ret,l,ds,m=>(ds=[]∧∃ v,resX tb rs l m=some v∧R (.ret v) m)∨∃ b,ds=[coll b]∧m.objs.get b=some (.dfr (some []))∧∃ v,resX tb rs l (Qas m b (.dfr none))=some v∧R (.ret v) (Qas m b (.dfr none))
 |_,_,_,_=>False
theorem callsXC {f:FuncId} {fd:Func} {c:Code} {s:SCode} {n:Nat} {rs:List ResultVar} {args:List Value} {m:Mem} {R:OutA→Mem→Prop} (hf:tb.funcs.get f=some fd) (hb:fd.body=some c) (hs:Qa2 c=s) (hn:fd.ntmps=n) (hr:fd.results.toList=rs)
  (h:wpX tb ⟨f,.normal,none⟩ s (args++List.replicate (n-args.length) undef) [] m (endC tb rs R)):Qaw tb f args m R:=by
 subst hn;subst hr
 refine⟨⟨f,T.ofList args,max fd.ntmps args.length,[.code c],[],.run,.normal,none⟩,by simp only [Qf2,hf,hb],fun cs=>?_⟩
 have hs2:Qb7 (args++List.replicate (fd.ntmps-args.length) undef) (T.ofList args):=fun x=>by
  rw [Qa7 args x]
  simp only [List.getD_eq_getElem?_getD,List.getElem?_append]
  split
  ·rfl
  ·rename_i hx
   rw [List.getElem?_eq_none (by omega),List.getElem?_replicate]
   split<;>rfl
 have hl:(args++List.replicate (fd.ntmps-args.length) undef).length=max fd.ntmps args.length:=by
  simp only [Kla,List.length_replicate];omega
 obtain⟨e,l',t',ds',m',b,h1,h2,h3,h4,h5⟩:=h c hs (T.ofList args) [] cs hs2
 rw [hl] at h5 h4
 have hres:∀ m2,Qcp tb fd t' m2=resX tb fd.results.toList l' m2:=fun m2=>by
  show Qcp tb fd t' m2=Qcp tb fd (T.ofList l') m2
  unfold Qcp
  rw [Qfm fun x=>(h1.ev (.tmp x)).trans ((Qa7 l').ev (.tmp x)).symm]
 have fin:∀ {k':List AItem},((ds'=[]∧∃ v,resX tb fd.results.toList l' m'=some v∧R (.ret v) m')∨∃ b,ds'=[coll b]∧m'.objs.get b=some (.dfr (some []))∧∃ v,resX tb fd.results.toList l' (Qas m' b (.dfr none))=some v∧R (.ret v) (Qas m' b (.dfr none))) →
   To tb ⟨⟨f,T.ofList args,max fd.ntmps args.length,[.code c],[],.run,.normal,none⟩,cs,m⟩ ⟨⟨f,t',max fd.ntmps args.length,k',ds',.returning,.normal,none⟩,cs,m'⟩ →
   ∃ out m2 fr,R out m2∧To tb ⟨⟨f,T.ofList args,max fd.ntmps args.length,[.code c],[],.run,.normal,none⟩,cs,m⟩ ⟨fr,cs,m2⟩∧Leav tb f fr m2 out:=by
  intro k' hx hto
  rcases hx with ⟨rfl,v,hv,hR⟩|⟨b,rfl,hg,v,hv,hR⟩
  ·exact⟨.ret v,m',_,hR,hto,rfl,rfl,rfl,rfl,fd,hf,(hres _).trans hv⟩
  ·refine⟨.ret v,_,⟨f,t',max fd.ntmps args.length,k',[],.returning,.normal,none⟩,hR,hto.trans (.one ?_),rfl,rfl,rfl,rfl,fd,hf,(hres _).trans hv⟩
   simp only [Qcn,Qdi,Qhf,coll,hg,Kna]
 cases e with
 |normal =>
  obtain rfl:=h4
  exact fin h3 (h5.trans (.one rfl))
 |jump c2 =>
  obtain⟨k',rfl,hk,hj⟩:=h4
  cases c2<;>first|exact h3.elim|skip
  exact fin h3 (h5.trans (.one rfl))
 |pan ch=>exact h3.elim
end
end Go.Ev

