/- A part of a proof: ScriptBlanks. -/
import Derived.Test.YtgmkbdmgifdfeaaGreatDoorC10
set_option linter.unusedVariables false
set_option linter.unusedSimpArgs false
namespace Go.Ev
open Go.RowKit
structure DH where
 o:DOp
 vs:List Value
 k:HK
 v:Value
def memL (x:Nat):List Nat→Bool
 | []=>false
 |y::l=>match Nat.beq y x with|true=>true|false=>memL x l
def Ql0 (bl:List Nat):List Nat→Bool
 | []=>false
 |e::es=>match memL e bl with|true=>true|false=>Ql0 bl es
theorem Qit (x:Nat):∀ l,memL x l=true↔x∈l
 | []=>by simp [memL]
 |y::l=>by
  unfold memL
  by_cases h:y=x
  ·subst h;simp
  ·rw [beqF h];simp only [Qit x l,List.mem_cons];constructor
   ·exact .inr
   ·rintro (e|e)
    ·exact absurd e.symm h
    ·exact e
def Qn6 (es nm:List Nat):List DH→Bool
 | []=>true
 |h::l=>match h.o.dst with
  |none=>Qn6 es nm l
  |some d=>match memL d nm with
   |false=>Qn6 es nm l
   |true=>match memL h.o.i es with
    |true=>Qn6 es nm l
    |false=>false
def Qly (d:Option Tmp) (nm mk:List Nat):Option (List Nat) :=
 match d with
 |none=>some (nm++mk)
 |some d=>match memL d (nm++mk) with
  |true=>none
  |false=>some (d::(nm++mk))
def Qn8:List Nat→List DOp→Bool
 |_,[]=>true
 |bl,x::l=>match Ql0 bl x.es with
  |true=>Qn8 (x.i::bl) l
  |false=>false
section
variable (tb:Tabs)
def Qn7 (l:List Value) (m:Mem) (o:DOp) (vs:List Value) (v:Value):HK→Prop
 | .s=>Qgx l o.g=false
 | .f _=>Qgx l o.g=true∧evsL l o.op.operands.toList=vs∧vEqL vs vs=true
 | .r=>Qgx l o.g=true∧evsL l o.op.operands.toList=vs∧vEqL vs vs=true∧(Qlh o.op=true∨opA o.op tb (T.ofList l) m=.r v)
def Jbw (l:List Value) (m:Mem) (h:DH):Prop :=
 (match h.o.dst with|none=>True|some d=>evL l (.tmp d)=h.v)∧vEq 100 h.v h.v=true∧Qn7 tb l m h.o h.vs h.v h.k
def Qfq (l:List Value) (m:Mem) (es:List Nat):List DH→Prop
 | []=>True
 |h::hs=>(memL h.o.i es=true∨Jbw tb l m h)∧Qfq l m es hs
abbrev DK:=List DOp→List Value→Mem→List DH→List Nat→Prop
noncomputable def Qfg (K:DK):List DOp→List Nat→List DOp→List Value→Mem→List DH→List Nat→Prop
 | [],bl,rem,l,m,hist,mk=>K rem.reverse l m hist mk
 |x::xs,bl,rem,l,m,hist,mk =>
  match Ql0 bl x.es with
  |true=>Qfg K xs (x.i::bl) (x::rem) l m hist mk
  |false=>Qn6 x.es x.nm hist=true∧dstB x.dst l.length=true∧match Qgx l x.g with
   |false=>∃ mk',Qly x.dst x.nm mk=some mk'∧Qfg K xs bl rem (Qbv x.dst undef l) m (⟨x,[],.s,undef⟩::hist) mk'
   |true=>match opA x.op tb (T.ofList l) m with
    | .r v=>∃ mk',Qly x.dst x.nm mk=some mk'∧Qfg K xs bl rem (Qbv x.dst v l) m (⟨x,evsL l x.op.operands.toList,.r,v⟩::hist) mk'
    | .f ob f=>∃ mk',Qly x.dst x.nm mk=some mk'∧Qfg K xs bl rem (Qbv x.dst (f m.next) l) (Qah m ob) (⟨x,evsL l x.op.operands.toList,.f m.next,f m.next⟩::hist) mk'
    | .e _ _=>Qfg K xs (x.i::bl) (x::rem) l m hist mk
    | .c=>Qfg K xs (x.i::bl) (x::rem) l m hist mk
    | .bad=>False
variable (F:FC) (Q:Qde)
noncomputable def Qx2 (next:List DOp→List Value→List Deferred→Mem→List DH→List Nat→Prop) (ds:List Deferred) (rem:List DOp) (l:List Value) (m:Mem) (hist:List DH) (mk:List Nat):Prop :=
 match rem with
 | []=>Q .normal l ds m
 |o::r=>(Qn8 [o.i] r&&Qn6 o.es o.nm hist&&Qgx l o.g)=true∧dstB o.dst l.length=true ∧
  match opA o.op tb (T.ofList l) m with
  | .e v m'=>Qfq tb (Qbv o.dst v l) m' o.es hist∧next r (Qbv o.dst v l) ds m' hist mk
  | .c=>Qgl tb F o.op o.ty l ds m (fun v ds m'=>Qfq tb (Qbv o.dst v l) m' o.es hist∧next r (Qbv o.dst v l) ds m' hist mk) (fun ch m=>ds=[]∧Q (.pan ch) l ds m)
  |_=>False
noncomputable def wpD:Nat→List DOp→List Value→List Deferred→Mem→List DH→List Nat→Prop
 |0,_,_,_,_,_,_=>False
 |n+1,rem,l,ds,m,hist,mk=>Qfg tb (Qx2 tb F Q (wpD n) ds) rem [] [] l m hist mk
end
section
variable {tb:Tabs} {F:FC} {Q:Qde}
theorem Qxg {x:Nat} {l:List Nat}:memL x l=false↔¬ x∈l:=by
 rw [← Qit,Bool.not_eq_true]
theorem Qq8 {l:List Edge} {i:Nat}:i∈Qij l↔∃ e∈l,e.on=i∧Region.binds .any e=true:=by
 simp only [Qij,List.mem_map,List.mem_filter]
 constructor
 ·rintro⟨e,⟨h1,h2⟩,h3⟩;exact⟨e,h1,h3,h2⟩
 ·rintro⟨e,h1,h3,h2⟩;exact⟨e,⟨h1,h2⟩,h3⟩
theorem Qs3 {bl:List Nat}:∀ {es:List Nat},Ql0 bl es=true↔∃ e∈es,e∈bl
 | []=>by simp [Ql0]
 |e::es=>by
  unfold Ql0
  cases h:memL e bl with
  |true=>rw [Qit] at h;simp;exact .inl h
  |false=>rw [Qxg] at h;simp [Qs3,h]
theorem Qjl {bl:List Nat}:∀ {l:List Edge},Qdb bl l=true↔∃ e∈l,Region.binds .any e=true∧e.on∈bl
 | []=>by simp [Qdb]
 |e::l=>by
  have hm:(bl.any (Nat.beq e.on))=true↔e.on∈bl:=by
   simp only [List.any_eq_true,Nat.beq_eq]
   constructor
   ·rintro⟨x,hx,rfl⟩;exact hx
   ·intro h;exact⟨_,h,rfl⟩
  unfold Qdb
  cases hb:Region.binds .any e with
  |false =>
   simp only [Qjl,List.mem_cons];constructor
   ·rintro⟨x,h1,h2⟩;exact⟨x,.inr h1,h2⟩
   ·rintro⟨x,h1|h1,h2⟩
    ·subst h1;rw [hb] at h2;simp at h2
    ·exact⟨x,h1,h2⟩
  |true =>
   cases ha:bl.any (Nat.beq e.on) with
   |true=>simp only [List.mem_cons,true_iff];exact⟨e,.inl rfl,hb,hm.1 ha⟩
   |false =>
    simp only [Qjl,List.mem_cons]
    constructor
    ·rintro⟨x,h1,h2⟩;exact⟨x,.inr h1,h2⟩
    ·rintro⟨x,h1|h1,h2⟩
     ·subst h1;rw [hm.2 h2.2] at ha;cases ha
     ·exact⟨x,h1,h2⟩
theorem Qst (bl:List Nat) (l:List Edge):Qdb bl l=Ql0 bl (Qij l):=by
 rw [Bool.eq_iff_iff,Qjl,Qs3]
 constructor
 ·rintro⟨e,h1,h2,h3⟩;exact⟨e.on,Qq8.2 ⟨e,h1,rfl,h2⟩,h3⟩
 ·rintro⟨i,h1,h2⟩
  obtain⟨e,h3,rfl,h4⟩:=Qq8.1 h1
  exact⟨e,h3,h4,h2⟩
theorem Qqv {i:Nat}:∀ {l:List Edge},Qcx i l=true↔∃ e∈l,e.on=i∧Region.binds .any e=true
 | []=>by simp [Qcx]
 |e::l=>by
  unfold Qcx
  by_cases h:e.on=i
  ·rw [h,Nat.beq_refl]
   cases hb:Region.binds .any e with
   |true=>simp only [List.mem_cons,true_iff];exact⟨e,.inl rfl,h,hb⟩
   |false =>
    simp only [Qqv,List.mem_cons];constructor
    ·rintro⟨x,h1,h2⟩;exact⟨x,.inr h1,h2⟩
    ·rintro⟨x,h1|h1,h2⟩
     ·subst h1;rw [hb] at h2;simp at h2
     ·exact⟨x,h1,h2⟩
  ·rw [beqF h]
   simp only [Qqv,List.mem_cons];constructor
   ·rintro⟨x,h1,h2⟩;exact⟨x,.inr h1,h2⟩
   ·rintro⟨x,h1|h1,h2⟩
    ·subst h1;exact absurd h2.1 h
    ·exact⟨x,h1,h2⟩
theorem d_edge (i:Nat) (l:List Edge):Qcx i l=memL i (Qij l):=by
 rw [Bool.eq_iff_iff,Qqv,Qit,Qq8]
theorem Qdv (d:Nat):∀ (l:List Operand) (k:Nat),Nat.testBit (Qf2 l k) d=(Nat.testBit k d||memL d (Qhs l))
 | [],k=>by simp [Qf2,Qhs,memL]
 |x::l,k=>by
  cases x with
  |tmp t =>
   have h1:Nat.testBit (Nat.lor k (Nat.shiftLeft 1 t)) d=(Nat.testBit k d||decide (t=d)):=by
    show Nat.testBit (k ||| 1 <<< t) d=_
    rw [Nat.testBit_or,Nat.one_shiftLeft,Nat.testBit_two_pow]
   have h2:memL d (Qhs (.tmp t::l))=(decide (t=d)||memL d (Qhs l)):=by
    show memL d (t::Qhs l)=_
    by_cases e:t=d
    ·subst e;simp [memL]
    ·simp [memL,beqF e,e]
   simp only [Qf2]
   rw [Qdv d l,h1,h2,Bool.or_assoc]
  |const v=>exact Qdv d l k
  |global g=>exact Qdv d l k
  |func f=>exact Qdv d l k
theorem Qnh (d:Nat) (a b:List Nat):memL d (a++b)=(memL d a||memL d b):=by
 rw [Bool.eq_iff_iff,Qit];simp [Qit]
theorem Qr5 (ops:Array Oper) (o:Oper) (k d:Nat):Nat.testBit (Qia ops o k) d=(memL d (Qlj (Qgf ops.toList o.guard)++Qhs o.op.operands.toList)||Nat.testBit k d):=by
 rw [Qnh]
 unfold Qia
 cases hg:o.guard with
 |none=>simp only [Qgf,Qlj,memL,Bool.false_or];rw [Qdv,Bool.or_comm]
 |some g =>
  obtain⟨j,w⟩:=g
  simp only [Qgf]
  cases hj:ops.toList[j]? with
  |none=>simp only [Qlj,memL,Bool.false_or];rw [Qdv,Bool.or_comm]
  |some oj =>
   simp only
   cases hd:oj.dst with
   |none=>simp only [Qlj,memL,Bool.false_or];rw [Qdv,Bool.or_comm]
   |some d' =>
    simp only [Qlj]
    have h1:Nat.testBit (Nat.lor k (Nat.shiftLeft 1 d')) d=(Nat.testBit k d||decide (d'=d)):=by
     show Nat.testBit (k ||| 1 <<< d') d=_
     rw [Nat.testBit_or,Nat.one_shiftLeft,Nat.testBit_two_pow]
    have h2:memL d [d']=decide (d'=d):=by
     by_cases e:d'=d
     ·subst e;simp [memL]
     ·unfold memL;rw [beqF e];simp [e,memL]
    rw [Qdv,h1,h2]
    cases Nat.testBit k d<;>cases decide (d'=d)<;>cases memL d (Qhs o.op.operands.toList)<;>rfl
def MkR (mask:Nat) (mk:List Nat):Prop:=∀ d,Nat.testBit mask d=memL d mk
theorem Jbr {ops:Array Oper} {x:Nat × Oper} {mask:Nat} {mk mk':List Nat} (h:MkR mask mk) (hm:Qly (Qdj ops.toList x).dst (Qdj ops.toList x).nm mk=some mk'):∃ mask',Qj5 ops x.2 mask=some mask'∧MkR mask' mk':=by
 have hb:∀ d,Nat.testBit (Qia ops x.2 mask) d=memL d ((Qdj ops.toList x).nm++mk):=fun d=>by
  rw [Qr5,h d]
  show _=memL d ((Qlj (Qgf ops.toList x.2.guard)++Qhs x.2.op.operands.toList)++mk)
  rw [Qnh (b:=mk)]
 unfold Qly at hm
 unfold Qj5
 cases hd:x.2.dst with
 |none =>
  have:(Qdj ops.toList x).dst=none:=hd
  rw [this] at hm
  simp only [Kaj] at hm
  subst hm
  exact⟨_,rfl,hb⟩
 |some d =>
  have:(Qdj ops.toList x).dst=some d:=hd
  rw [this] at hm
  simp only at hm ⊢
  rw [hb d]
  split at hm<;>first|(simp at hm;done)|skip
  rename_i hf
  rw [hf]
  simp only [Kaj] at hm
  subst hm
  refine⟨_,rfl,fun d'=>?_⟩
  show Nat.testBit (Qia ops x.2 mask ||| 1 <<< d) d'=_
  rw [Nat.testBit_or,Nat.one_shiftLeft,Nat.testBit_two_pow,hb d']
  by_cases e:d=d'
  ·subst e;simp [memL]
  ·rw [show memL d' (d::((Qdj ops.toList x).nm++mk))=memL d' ((Qdj ops.toList x).nm++mk) from by
    conv=>lhs;unfold memL
    rw [beqF e]]
   simp [e]
def HistR (ops:Array Oper) (h:Hist) (d:DH):Prop:=d.o=Qdj ops.toList (h.i,h.o)∧d.vs=h.vs∧d.k=h.k∧d.v=h.v
inductive HistsR (ops:Array Oper):List Hist→List DH→Prop where
 |nil:HistsR ops [] []
 |cons {h:Hist} {d:DH} {l:List Hist} {k:List DH} (hd:HistR ops h d) (t:HistsR ops l k):HistsR ops (h::l) (d::k)
theorem Qss {ops:Array Oper} {x:Nat × Oper}:∀ {hs:List Hist} {ds:List DH},HistsR ops hs ds→Qn6 (Qdj ops.toList x).es (Qdj ops.toList x).nm ds=true→Qf9 ops x.2 hs=true
 |_,_,.nil,_=>rfl
 |_,_,.cons (h:=h) (d:=d) hd t,hk=>by
  obtain⟨e1,e2,e3,e4⟩:=hd
  unfold Qn6 at hk
  unfold Qf9
  rw [e1] at hk
  cases hdst:h.o.dst with
  |none =>
   have:(Qdj ops.toList (h.i,h.o)).dst=none:=hdst
   rw [this] at hk
   exact Qss t hk
  |some d' =>
   have:(Qdj ops.toList (h.i,h.o)).dst=some d':=hdst
   rw [this] at hk
   simp only at hk ⊢
   have hb:Nat.testBit (Qia ops x.2 0) d'=memL d' (Qdj ops.toList x).nm:=by
    rw [Qr5];simp [Qdj]
   rw [hb]
   split at hk
   ·rename_i hf;rw [hf];exact Qss t hk
   ·rename_i hf
    rw [hf]
    simp only
    rw [d_edge]
    split at hk
    ·rename_i he
     have he':memL h.i (Qij x.2.after.toList)=true:=he
     rw [he'];exact Qss t hk
    ·cases hk
theorem Jbs {ops:Array Oper}:∀ {l:List (Nat × Oper)} {bl:List Nat},Qn8 bl (l.map (Qdj ops.toList))=true→Qra bl l=true
 | [],_,_=>rfl
 | (i,o)::l,bl,h=>by
   simp only [List.map_cons,Qn8] at h
   simp only [Qra,Qst]
   split at h
   ·rename_i hb
    have hb':Ql0 bl (Qij o.after.toList)=true:=hb
    rw [hb'];exact Jbs h
   ·cases h
theorem d_check {ops:Array Oper} {l:List Value} {m:Mem} {h:Hist} {d:DH} (hr:HistR ops h d) (hc:Jbw tb l m d):CheckP tb ops l m h:=by
 obtain⟨e1,e2,e3,e4⟩:=hr
 obtain⟨o,vs,k,v⟩:=d
 simp only at e1 e2 e3 e4
 subst e1;subst e2;subst e3;subst e4
 obtain⟨c1,c2,c3⟩:=hc
 refine⟨c1,c2,?_⟩
 simp only at c3
 cases hk:h.k with
 |s=>rw [hk] at c3;simp only [Qn7] at c3;simp only;rw [Qil];exact c3
 |f b=>rw [hk] at c3;simp only [Qn7] at c3;simp only;rw [Qil];exact c3
 |r=>rw [hk] at c3;simp only [Qn7] at c3;simp only;rw [Qil];exact c3
theorem Qn4 {ops:Array Oper} {l:List Value} {m:Mem} {after:List Edge}:∀ {hs:List Hist} {ds:List DH},HistsR ops hs ds→Qfq tb l m (Qij after) ds→Qiq tb ops l m after hs
 |_,_,.nil,_=>trivial
 |_,_,.cons (h:=h) (d:=d) hd t,⟨h1,h2⟩=>by
  refine⟨?_,Qn4 t h2⟩
  rcases h1 with h1|h1
  ·left;rw [d_edge]
   rw [hd.1] at h1;exact h1
  ·right;exact d_check hd h1
theorem Qn5 {ops:Array Oper} {K:DK} {K':List (Nat × Oper)→List Value→Mem→List Hist→Nat→Prop} (hK:∀ rem l m hist mk hist' mask,HistsR ops hist' hist→MkR mask mk→K (rem.map (Qdj ops.toList)) l m hist mk→K' rem l m hist' mask) :
  ∀ (xs:List (Nat × Oper)) (bl:List Nat) (rem:List (Nat × Oper)) (l:List Value) (m:Mem) (hist:List DH) (mk:List Nat) (hist':List Hist) (mask:Nat),HistsR ops hist' hist→MkR mask mk →
    Qfg tb K (xs.map (Qdj ops.toList)) bl (rem.map (Qdj ops.toList)) l m hist mk→Qhr tb ops K' xs bl rem l m hist' mask
 | [],bl,rem,l,m,hist,mk,hist',mask,hh,hm,h=>by
   simp only [List.map_nil,Qfg,← List.map_reverse] at h
   exact hK _ _ _ _ _ _ _ hh hm h
 |x::xs,bl,rem,l,m,hist,mk,hist',mask,hh,hm,h=>by
  simp only [List.map_cons,Qfg] at h
  unfold Qhr
  rw [Qst]
  split at h
  ·rename_i hb
   have hb':Ql0 bl (Qij x.2.after.toList)=true:=hb
   rw [hb']
   exact Qn5 hK xs _ (x::rem) l m hist mk hist' mask hh hm h
  ·rename_i hb
   have hb':Ql0 bl (Qij x.2.after.toList)=false:=hb
   rw [hb']
   obtain⟨h1,h2,h3⟩:=h
   refine⟨Qss hh h1,h2,?_⟩
   rw [Qil]
   split at h3
   ·rename_i hw
    have hw':Qgx l (Qgf ops.toList x.2.guard)=false:=hw
    rw [hw']
    obtain⟨mk',g1,g2⟩:=h3
    obtain⟨mask',q1,q2⟩:=Jbr hm g1
    exact⟨mask',q1,Qn5 hK xs _ rem _ m _ mk' _ mask' (.cons ⟨rfl,rfl,rfl,rfl⟩ hh) q2 g2⟩
   ·rename_i hw
    have hw':Qgx l (Qgf ops.toList x.2.guard)=true:=hw
    rw [hw']
    have e:opA x.2.op tb (T.ofList l) m=opA (Qdj ops.toList x).op tb (T.ofList l) m:=_root_.id rfl
    rw [e]
    split at h3
    ·rename_i v ho
     obtain⟨mk',g1,g2⟩:=h3
     obtain⟨mask',q1,q2⟩:=Jbr hm g1
     rw [ho]
     exact⟨mask',q1,Qn5 hK xs _ rem _ m _ mk' _ mask' (.cons ⟨rfl,rfl,rfl,rfl⟩ hh) q2 g2⟩
    ·rename_i ob f ho
     obtain⟨mk',g1,g2⟩:=h3
     obtain⟨mask',q1,q2⟩:=Jbr hm g1
     rw [ho]
     exact⟨mask',q1,Qn5 hK xs _ rem _ _ _ mk' _ mask' (.cons ⟨rfl,rfl,rfl,rfl⟩ hh) q2 g2⟩
    ·rename_i ho;rw [ho];exact Qn5 hK xs _ (x::rem) l m hist mk hist' mask hh hm h3
    ·rename_i ho;rw [ho];exact Qn5 hK xs _ (x::rem) l m hist mk hist' mask hh hm h3
    ·exact h3.elim
theorem d_ok {ops:Array Oper}:∀ (n:Nat) (rem:List (Nat × Oper)) (l:List Value) (ds:List Deferred) (m:Mem) (hist:List DH) (mk:List Nat) (hist':List Hist) (mask:Nat),HistsR ops hist' hist→MkR mask mk →
  wpD tb F Q n (rem.map (Qdj ops.toList)) l ds m hist mk→wpDr tb ops F Q n rem l ds m hist' mask
 |0,_,_,_,_,_,_,_,_,_,_,h=>h
 |n+1,rem,l,ds,m,hist,mk,hist',mask,hh,hm,h=>by
  refine Qn5 (K:=Qx2 tb F Q (wpD tb F Q n) ds) ?_ rem [] [] l m hist mk hist' mask hh hm h
  intro rem l m hist mk hist' mask hh hm h
  cases rem with
  |nil=>exact h
  |cons x r =>
   obtain⟨i,o⟩:=x
   obtain⟨h1,h2,h3⟩:=h
   simp only [Kba] at h1
   refine⟨?_,h2,?_⟩
   ·have ha:Qn8 [i] (r.map (Qdj ops.toList))=true:=h1.1.1
    rw [Jbs ha,Qss (x:=(i,o)) hh h1.1.2,Qil]
    have hw:Qgx l (Qgf ops.toList o.guard)=true:=h1.2
    rw [hw];rfl
   ·have e:opA o.op tb (T.ofList l) m=opA (Qdj ops.toList (i,o)).op tb (T.ofList l) m:=_root_.id rfl
    rw [e]
    split at h3
    ·rename_i v m' ho
     rw [ho]
     exact⟨Qn4 hh h3.1,d_ok n r _ ds m' hist mk hist' mask hh hm h3.2⟩
    ·rename_i ho
     rw [ho]
     exact Qhe (Qox h3) (fun v ds m' hx=>⟨Qn4 hh hx.1,d_ok n r _ ds m' hist mk hist' mask hh hm hx.2⟩) fun ch m h=>h
    ·exact h3.elim
theorem xdrw {l:List Value} {ds:List Deferred} {m:Mem} {xs:List DOp} (n:Nat) (h:∀ Q',Q'=Q→wpD tb F Q' n xs l ds m [] []):wpX tb F (.drw xs) l ds m Q:=fun c' hs=>by
 unfold Qa6 at hs
 split at hs<;>first|contradiction|skip
 cases hs
 exact wp_draw n (d_ok n _ l ds m [] [] [] 0 .nil (fun d=>by simp [memL]) (h Q rfl))
variable {l:List Value} {ds:List Deferred} {m:Mem} {K:DK} {bl:List Nat} {rem xs:List DOp} {hist:List DH} {mk:List Nat}
variable (tb)
noncomputable def dSt (K:DK) (x:DOp) (xs:List DOp) (r:OR) (bl:List Nat) (rem:List DOp) (l:List Value) (m:Mem) (hist:List DH) (mk:List Nat):Prop:=match r with
 | .r v=>∃ mk',Qly x.dst x.nm mk=some mk'∧Qfg tb K xs bl rem (Qbv x.dst v l) m (⟨x,evsL l x.op.operands.toList,.r,v⟩::hist) mk'
 | .f ob f=>∃ mk',Qly x.dst x.nm mk=some mk'∧Qfg tb K xs bl rem (Qbv x.dst (f m.next) l) (Qah m ob) (⟨x,evsL l x.op.operands.toList,.f m.next,f m.next⟩::hist) mk'
 | .e _ _=>Qfg tb K xs (x.i::bl) (x::rem) l m hist mk
 | .c=>Qfg tb K xs (x.i::bl) (x::rem) l m hist mk
 | .bad=>False
noncomputable def dGd (K:DK) (x:DOp) (xs:List DOp) (w:Bool) (bl:List Nat) (rem:List DOp) (l:List Value) (m:Mem) (hist:List DH) (mk:List Nat):Prop:=match w with
 |false=>∃ mk',Qly x.dst x.nm mk=some mk'∧Qfg tb K xs bl rem (Qbv x.dst undef l) m (⟨x,[],.s,undef⟩::hist) mk'
 |true=>dSt tb K x xs (opA x.op tb (T.ofList l) m) bl rem l m hist mk
noncomputable def dBl (K:DK) (x:DOp) (xs:List DOp) (b:Bool) (bl:List Nat) (rem:List DOp) (l:List Value) (m:Mem) (hist:List DH) (mk:List Nat):Prop:=match b with
 |true=>Qfg tb K xs (x.i::bl) (x::rem) l m hist mk
 |false=>Qn6 x.es x.nm hist=true∧dstB x.dst l.length=true∧dGd tb K x xs (Qgx l x.g) bl rem l m hist mk
noncomputable def dNx (F:FC) (Q:Qde) (next:List DOp→List Value→List Deferred→Mem→List DH→List Nat→Prop) (o:DOp) (r:List DOp) (x:OR) (ds:List Deferred) (l:List Value) (m:Mem) (hist:List DH) (mk:List Nat):Prop:=match x with
 | .e v m'=>Qfq tb (Qbv o.dst v l) m' o.es hist∧next r (Qbv o.dst v l) ds m' hist mk
 | .c=>Qgl tb F o.op o.ty l ds m (fun v ds m'=>Qfq tb (Qbv o.dst v l) m' o.es hist∧next r (Qbv o.dst v l) ds m' hist mk) (fun ch m=>ds=[]∧Q (.pan ch) l ds m)
 |_=>False
variable {tb}
theorem Jbt:Qfg tb K [] bl rem l m hist mk=K rem.reverse l m hist mk:=_root_.id rfl
theorem Qx0 (x:DOp):Qfg tb K (x::xs) bl rem l m hist mk=dBl tb K x xs (Ql0 bl x.es) bl rem l m hist mk:=_root_.id rfl
theorem dBl_true (x:DOp):dBl tb K x xs true bl rem l m hist mk=Qfg tb K xs (x.i::bl) (x::rem) l m hist mk:=_root_.id rfl
theorem Jbx (x:DOp):dBl tb K x xs false bl rem l m hist mk=(Qn6 x.es x.nm hist=true∧dstB x.dst l.length=true∧dGd tb K x xs (Qgx l x.g) bl rem l m hist mk):=_root_.id rfl
theorem Jbv (x:DOp):dGd tb K x xs false bl rem l m hist mk=∃ mk',Qly x.dst x.nm mk=some mk'∧Qfg tb K xs bl rem (Qbv x.dst undef l) m (⟨x,[],.s,undef⟩::hist) mk':=_root_.id rfl
theorem dGd_true (x:DOp):dGd tb K x xs true bl rem l m hist mk=dSt tb K x xs (opA x.op tb (T.ofList l) m) bl rem l m hist mk:=_root_.id rfl
theorem dSt_r (x:DOp) (v:Value):dSt tb K x xs (.r v) bl rem l m hist mk=∃ mk',Qly x.dst x.nm mk=some mk'∧Qfg tb K xs bl rem (Qbv x.dst v l) m (⟨x,evsL l x.op.operands.toList,.r,v⟩::hist) mk':=_root_.id rfl
theorem dSt_f (x:DOp) (ob:AObj) (f:Nat→Value):dSt tb K x xs (.f ob f) bl rem l m hist mk=∃ mk',Qly x.dst x.nm mk=some mk'∧Qfg tb K xs bl rem (Qbv x.dst (f m.next) l) (Qah m ob) (⟨x,evsL l x.op.operands.toList,.f m.next,f m.next⟩::hist) mk':=_root_.id rfl
theorem dSt_e (x:DOp) (v:Value) (m':Mem):dSt tb K x xs (.e v m') bl rem l m hist mk=Qfg tb K xs (x.i::bl) (x::rem) l m hist mk:=_root_.id rfl
theorem dSt_c (x:DOp):dSt tb K x xs .c bl rem l m hist mk=Qfg tb K xs (x.i::bl) (x::rem) l m hist mk:=_root_.id rfl
theorem Jbu (next:List DOp→List Value→List Deferred→Mem→List DH→List Nat→Prop):Qx2 tb F Q next ds [] l m hist mk=Q .normal l ds m:=_root_.id rfl
theorem Qx1 (next:List DOp→List Value→List Deferred→Mem→List DH→List Nat→Prop) (o:DOp) (r:List DOp):Qx2 tb F Q next ds (o::r) l m hist mk=((Qn8 [o.i] r&&Qn6 o.es o.nm hist&&Qgx l o.g)=true∧dstB o.dst l.length=true∧dNx tb F Q next o r (opA o.op tb (T.ofList l) m) ds l m hist mk):=by
 cases h:opA o.op tb (T.ofList l) m<;>simp only [Qx2,dNx,h]
theorem dNx_e (next:List DOp→List Value→List Deferred→Mem→List DH→List Nat→Prop) (o:DOp) (r:List DOp) (v:Value) (m':Mem):dNx tb F Q next o r (.e v m') ds l m hist mk=(Qfq tb (Qbv o.dst v l) m' o.es hist∧next r (Qbv o.dst v l) ds m' hist mk):=_root_.id rfl
theorem dNx_c (next:List DOp→List Value→List Deferred→Mem→List DH→List Nat→Prop) (o:DOp) (r:List DOp):dNx tb F Q next o r .c ds l m hist mk=Qgl tb F o.op o.ty l ds m (fun v ds m'=>Qfq tb (Qbv o.dst v l) m' o.es hist∧next r (Qbv o.dst v l) ds m' hist mk) (fun ch m=>ds=[]∧Q (.pan ch) l ds m):=_root_.id rfl
theorem wpD_succ (n:Nat):wpD tb F Q (n+1) rem l ds m hist mk=Qfg tb (Qx2 tb F Q (wpD tb F Q n) ds) rem [] [] l m hist mk:=_root_.id rfl
theorem vEq_b (d:Nat) (b:Bool):vEq (d+1) (.bool b) (.bool b)=true:=by simp [vEq]
theorem Qtg (d:Nat) (k:IntKind) (n:Int):vEq (d+1) (.int k n) (.int k n)=true:=by simp [vEq,Qcv,Qd6]
theorem vEq_s (d:Nat) (s:ByteArray):vEq (d+1) (.string s) (.string s)=true:=by simp [vEq,Qdd]
theorem vEq_p (d b o:Nat) (s:Option Nat):vEq (d+1) (.pointer (some ⟨b,o,s⟩)) (.pointer (some ⟨b,o,s⟩))=true:=by cases s<;>simp [vEq]
theorem Qrh (d:Nat) (a:Option Addr) (n c:Nat):vEq (d+1) (.slice a n c) (.slice a n c)=true:=by
 cases a with
 |none=>simp [vEq]
 |some a=>obtain⟨b,o,s⟩:=a;cases s<;>simp [vEq]
theorem vEq_a {d:Nat} {l:List Value} (h:∀ v∈l,vEq d v v=true):vEq (d+1) (.agg ⟨l⟩) (.agg ⟨l⟩)=true:=by
 simp only [vEq,Nat.beq_refl,Bool.true_and]
 rw [List.all_eq_true]
 rintro⟨x,y⟩ hxy
 have:x=y∧x∈l:=by
  clear h
  induction l with
  |nil=>simp at hxy
  |cons a l ih =>
   simp only [List.zip_cons_cons,List.mem_cons,Kpj] at hxy
   rcases hxy with ⟨rfl,rfl⟩|hxy
   ·simp
   ·obtain⟨rfl,h2⟩:=ih hxy;exact⟨rfl,.tail _ h2⟩
 obtain⟨rfl,h1⟩:=this
 exact h x h1
end
end Go.Ev

namespace Go.Ev
open Go.RowKit
def renA (G k:Nat) (a:Addr):Addr:=⟨k+(a.block-G),a.off,a.spot⟩
def okA (G:Nat) (a:Addr):Bool:=Nat.ble G a.block&&a.spot.isNone
def renP (G k:Nat):Value→Value
 | .pointer (some a)=>.pointer (some (renA G k a))
 |v=>v
def okP (G:Nat):Value→Bool
 | .pointer (some a)=>okA G a
 | .func (.func _) ⟨[]⟩ ⟨[]⟩=>true
 |v=>Qj9 v
def renV (G k:Nat):Value→Value
 | .pointer (some a)=>.pointer (some (renA G k a))
 | .slice (some a) l c=>.slice (some (renA G k a)) l c
 | .func fn ⟨f⟩ ⟨c⟩=>.func fn ⟨f.map (renP G k)⟩ ⟨c.map (renP G k)⟩
 |v=>v
def okV (G:Nat):Value→Bool
 | .pointer (some a)=>okA G a
 | .slice (some a) _ _=>okA G a
 | .func (.func _) ⟨f⟩ ⟨c⟩=>f.all (okP G)&&c.all (okP G)
 |v=>Qj9 v
def Env.ren (G k:Nat) (E1 E':Env):Prop:=∀ b i,G≤b→E1 b=some i→E' (k+(b-G))=some i
section
variable {G k:Nat} {E1 E':Env}
theorem VR.flat {E E':Env} {v v':Value} (h:Qj9 v=true) (hv:VR E v v'):VR E' v v':=by
 cases hv<;>simp_all [Qj9]<;>constructor
theorem Qzv (he:Env.ren G k E1 E') {a:Addr} {v':Value} (h:okA G a=true) (hv:VR E1 (.pointer (some a)) v'):VR E' (.pointer (some (renA G k a))) v':=by
 obtain⟨b,o,s⟩:=a
 simp only [okA,Kba,Nat.ble_eq] at h
 cases hv with
 |ptr hE=>exact .ptr (he _ _ h.1 hE)
theorem ren_P (he:Env.ren G k E1 E') {v v':Value} (h:okP G v=true) (hv:VR E1 v v'):VR E' (renP G k v) v':=by
 unfold okP at h
 split at h
 ·exact Qzv he h hv
 ·cases hv with
  |func hf h1 h2=>cases h1;cases h2;exact .func hf .nil .nil
 ·rename_i h1 h2
  have:renP G k v=v:=by
   unfold renP;split
   ·exact absurd rfl (h1 _)
   ·rfl
  rw [this];exact hv.flat h
theorem Qzw (he:Env.ren G k E1 E'):∀ {l l':List Value},l.all (okP G)=true→VRs E1 l l'→VRs E' (l.map (renP G k)) l'
 |_,_,_,.nil=>.nil
 |_,_,h,.cons hv t=>by
  simp only [List.all_cons,Kba] at h
  exact .cons (ren_P he h.1 hv) (Qzw he h.2 t)
theorem ren_V (he:Env.ren G k E1 E') {v v':Value} (h:okV G v=true) (hv:VR E1 v v'):VR E' (renV G k v) v':=by
 unfold okV at h
 split at h
 ·exact Qzv he h hv
 ·rename_i a l c
  obtain⟨b,o,s⟩:=a
  simp only [okA,Kba,Nat.ble_eq] at h
  obtain⟨h1,h2⟩:=h
  cases s with
  |some s=>cases h2
  |none=>cases hv with
   |sl _ _ hE=>exact .sl _ _ (he _ _ h1 hE)
   |slD _ hE=>exact .slD _ (he _ _ h1 hE)
 ·simp only [Kba] at h
  cases hv with
  |func hf h1 h2=>exact .func hf (Qzw he h.1 h1) (Qzw he h.2 h2)
 ·rename_i h1 h2 h3
  have:renV G k v=v:=by
   unfold renV;split
   ·exact absurd rfl (h1 _)
   ·exact absurd rfl (h2 _ _ _)
   ·simp [Qj9] at h
   ·rfl
  rw [this];exact hv.flat h
end
structure CRow where
 elem:TypeId
 ext:Bool
 cells:List Value
def CRow.ren (G k:Nat) (r:CRow):CRow:=⟨r.elem,r.ext,r.cells.map (renV G k)⟩
noncomputable def CRow.obj (r:CRow):AObj:=Qb1 r.elem r.cells .none r.ext
noncomputable def Qdw (m:Mem) (l:List CRow):Mem:=⟨T.setL (l.map CRow.obj) m.next m.objs,m.next+l.length⟩
theorem Qef (m:Mem) (l:List CRow):(Qdw m l).next=m.next+l.length:=rfl
theorem Qc9 (m:Mem) (l:List CRow) (b:Nat):(Qdw m l).objs.get b=if b<m.next then m.objs.get b else if b<m.next+l.length then (l.map CRow.obj)[b-m.next]? else m.objs.get b:=by
 unfold Qdw
 simp only [T.get_setL,List.length_map]
theorem Qjg (m:Mem) (l:List CRow):Old m.next m (Qdw m l):=⟨by rw [Qef];omega,fun x hx=>by rw [Qc9,if_pos hx]⟩
theorem Qxl (m:Mem) (l:List CRow) {j:Nat} {r:CRow} (h:l[j]? = some r):vw (Qdw m l) (m.next+j)=some ⟨true,r.elem,r.ext,r.cells⟩:=by
 have hj:j<l.length:=(Kgs.1 h).1
 unfold vw
 rw [Qc9,if_neg (by omega),if_pos (by omega),show m.next+j-m.next=j from by omega,List.getElem?_map,h]
 exact Qec _ _ _
def ranTo (G:Nat) (r:Option (Value × Mem)) (v:Value) (l:List CRow):Prop :=
 ∃ M,r=some (v,M)∧M.next=G+l.length∧(okV G v&&l.all fun r=>r.cells.all (okV G))=true∧∀ j r,l[j]? = some r→vw M (G+j)=some ⟨true,r.elem,r.ext,r.cells⟩
theorem row_ren {P:Program} {G k:Nat} {E1 E':Env} {i:Info} {M:Mem} {b:Nat} {r:CRow} {w:World} {N:Nat} {w0:World} (he:Env.ren G k E1 E') (H:MR P N w0 E1 M w) (hE:E1 b=some i)
  (hv:vw M b=some ⟨true,r.elem,r.ext,r.cells⟩) (hok:r.cells.all (okV G)=true):∃ ob,w.heap[i.blk]? = some ob∧ObjR P E' i (r.ren G k).obj ob∧N≤i.blk:=by
 obtain⟨q,h1,h2,h3,h4,h5,h6,h7,h8⟩:=Qdm hv
 have hq:=Qdq (h7 rfl)
 obtain⟨ob,g1,g2⟩:=H.objs b i _ hE hq rfl
 refine⟨ob,g1,?_,H.own b i _ hE hq rfl⟩
 cases g2 with
 |row R =>
  simp only at h2 h3 h4
  refine .row ⟨by show _=r.elem;rw [← h3];exact R.elem,?_,?_,?_,?_⟩
  ·intro j v hj
   have hj':(r.cells.map (renV G k))[j]? = some v:=by
    have:Qi9 true ⟨T.ofList (r.cells.map (renV G k)),(r.cells.map (renV G k)).length,[],r.elem,.none,r.ext⟩=_:=Qec r.elem (r.cells.map (renV G k)) r.ext
    obtain⟨h0,_,_,_,_,k6⟩:=Qgy this
    simp only at k6
    rw [← k6 j];exact hj
   rw [List.getElem?_map,Option.map_eq_some_iff] at hj'
   obtain⟨u,hu,rfl⟩:=hj'
   obtain⟨v',g3,g4⟩:=R.cell j u (by rw [h6];exact hu)
   exact⟨v',g3,ren_V he (List.all_eq_true.1 hok u (List.mem_of_getElem? hu)) g4⟩
  ·show _=i.shift+(r.cells.map (renV G k)).length+i.extra*P.cellsOf r.elem
   rw [List.length_map,← h2,← h3];exact R.size
  ·intro hx;exact R.exact' (by rw [h4];exact hx)
  ·have:=R.fz;rw [h5] at this;exact this
theorem Qln {P:Program} {G N:Nat} {w0:World} (pk:∀ N' w0',ProgOk (Qdt P G .lf) N' G w0') {f:FuncId} {n:Nat} {v:Value} {l:List CRow} (hr:ranTo G (runF (Qdt P G .lf) n f [] ⟨.lf,G⟩) v l)
  {E:Env} {m:Mem} {w:World} (HM:MR P N w0 E m w) (HG:Qhc G E) (hGn:G≤m.next) :
  Calls P f #[] w fun e w'=>∃ v' E',e=.returned v'∧VR E' (renV G m.next v) v'∧MR P N w0 E' (Qdw m (l.map (CRow.ren G m.next))) w'∧MExt m.next E m E' (Qdw m (l.map (CRow.ren G m.next))):=by
 obtain⟨M,hrun,hnext,hok,hrows⟩:=hr
 simp only [Kba] at hok
 obtain⟨hokv,hokl⟩:=hok
 have hGh:G≤w.heap.size:=by
  cases G with
  |zero=>omega
  |succ g=>have:=HM.ub g _ (HG g (by omega));exact this
 have H0:MR (Qdt P G .lf).p w.heap.size w (Env.globs G) ⟨.lf,G⟩ w:=by
  refine⟨fun b i o _ ho=>?_,fun b i hb=>?_,fun b hb=>⟨T.get_lf _,by unfold Env.globs;rw [if_neg (by show ¬ b<G;have:G≤b:=hb;omega)]⟩,fun b b' i i' o o' _ _ _ ho=>?_,fun b i o _ ho=>?_,.refl _ _,Knr _⟩
  ·rw [T.get_lf] at ho;cases ho
  ·unfold Env.globs at hb;split at hb
   ·cases hb;show b<_;omega
   ·cases hb
  ·rw [T.get_lf] at ho;cases ho
  ·rw [T.get_lf] at ho;cases ho
 refine (Qq3 (pk w.heap.size w) H0 (globs_ok G) .nil n hrun).mono ?_
 rintro e w' ⟨v',E1,rfl,hvr,H1⟩
 let E':Env:=fun b=>if b<m.next then E b else if b<m.next+l.length then E1 (b-m.next+G) else none
 have hEold:∀ b,b<m.next→E' b=E b:=fun b hb=>if_pos hb
 have hEnew:∀ b i,m.next≤b→E' b=some i→b<m.next+l.length∧E1 (b-m.next+G)=some i:=by
  intro b i hb h
  simp only [E'] at h
  rw [if_neg (by omega)] at h
  split at h
  ·rename_i h2;exact⟨h2,h⟩
  ·cases h
 have hle:Env.le E E':=fun b i hb=>by
  by_cases h:b<m.next
  ·rw [hEold b h];exact hb
  ·rw [(HM.dom b (by omega)).2] at hb;cases hb
 have hren:Env.ren G m.next E1 E':=fun b i hb h=>by
  have hlt:b<G+l.length:=by
   by_cases h2:M.next≤b
   ·rw [(H1.dom b h2).2] at h;cases h
   ·omega
  simp only [E']
  rw [if_neg (by omega),if_pos (by omega),show m.next+(b-G)-m.next+G=b from by omega];exact h
 have hrow:∀ b i,m.next≤b→E' b=some i→∃ r:CRow,(l.map (CRow.ren G m.next))[b-m.next]? = some (r.ren G m.next)∧∃ ob,w'.heap[i.blk]? = some ob∧ObjR P E' i (r.ren G m.next).obj ob∧w.heap.size≤i.blk:=by
  intro b i hb h
  obtain⟨h1,h2⟩:=hEnew b i hb h
  have hj:l[b-m.next]? = some (l[b-m.next]'(by omega)):=Kge _
  refine⟨_,by rw [List.getElem?_map,hj];rfl,?_⟩
  have hv:=hrows _ _ hj
  rw [show G+(b-m.next)=b-m.next+G from by omega] at hv
  exact row_ren hren H1 h2 hv (List.all_eq_true.1 hokl _ (List.mem_of_getElem? hj))
 have hget:∀ b o,m.next≤b→(Qdw m (l.map (CRow.ren G m.next))).objs.get b=some o→(∃ i,E' b=some i)→∃ r:CRow,(l.map (CRow.ren G m.next))[b-m.next]? = some r∧o=r.obj:=by
  intro b o hb ho ⟨i,hi⟩
  obtain⟨h1,_⟩:=hEnew b i hb hi
  rw [Qc9,if_neg (by omega),if_pos (by rw [List.length_map];exact h1),List.getElem?_map,Option.map_eq_some_iff] at ho
  obtain⟨r,hr,rfl⟩:=ho
  exact⟨r,hr,rfl⟩
 refine⟨v',E',rfl,ren_V hren hokv hvr,⟨?_,?_,?_,?_,?_,?_,?_⟩,⟨hle,?_,?_⟩⟩
 ·intro b i o hb ho hl
  by_cases h:b<m.next
  ·rw [Qc9,if_pos h] at ho
   rw [hEold b h] at hb
   obtain⟨ob,h1,h2⟩:=HM.objs b i o hb ho hl
   exact⟨ob,by rw [H1.base.block _ (HM.ub b i hb)];exact h1,h2.mono hle⟩
  ·obtain⟨r,h1,h2⟩:=hget b o (by omega) ho ⟨i,hb⟩
   obtain⟨r',h3,ob,h4,h5,h6⟩:=hrow b i (by omega) hb
   obtain rfl:=Kai (h1.symm.trans h3)
   subst h2
   exact⟨ob,h4,h5⟩
 ·intro b i hb
  by_cases h:b<m.next
  ·rw [hEold b h] at hb
   have:=HM.ub b i hb
   have:=H1.base.size;omega
  ·exact H1.ub _ i (hEnew b i (by omega) hb).2
 ·intro b hb
  rw [Qef,List.length_map] at hb
  refine⟨?_,?_⟩
  ·rw [Qc9,if_neg (by omega),if_neg (by rw [List.length_map];omega)]
   exact (HM.dom b (by omega)).1
  ·simp only [E'];rw [if_neg (by omega),if_neg (by omega)]
 ·intro b b' i i' o o' hne hb hb' ho ho' hl hl'
  have key:∀ (b b':Nat) (i i':Info),b<m.next→m.next≤b'→E' b=some i→E' b'=some i'→i.blk≠i'.blk:=by
   intro b b' i i' h1 h2 h3 h4
   rw [hEold b h1] at h3
   have h5:=HM.ub b i h3
   obtain⟨r',_,ob,_,_,h6⟩:=hrow b' i' h2 h4
   omega
  by_cases h:b<m.next
  ·by_cases h':b'<m.next
   ·rw [Qc9,if_pos h] at ho
    rw [Qc9,if_pos h'] at ho'
    rw [hEold b h] at hb
    rw [hEold b' h'] at hb'
    exact HM.inj b b' i i' o o' hne hb hb' ho ho' hl hl'
   ·exact key b b' i i' h (by omega) hb hb'
  ·by_cases h':b'<m.next
   ·exact (key b' b i' i h' (by omega) hb' hb).symm
   ·obtain⟨h1,h2⟩:=hEnew b i (by omega) hb
    obtain⟨h3,h4⟩:=hEnew b' i' (by omega) hb'
    have hj:l[b-m.next]? = some (l[b-m.next]'(by omega)):=Kge _
    have hj':l[b'-m.next]? = some (l[b'-m.next]'(by omega)):=Kge _
    have hv:=hrows _ _ hj
    have hv':=hrows _ _ hj'
    obtain⟨q,_,_,_,_,_,_,k1,_⟩:=Qdm hv
    obtain⟨q',_,_,_,_,_,_,k1',_⟩:=Qdm hv'
    have e1:=Qdq (k1 rfl)
    have e2:=Qdq (k1' rfl)
    rw [show G+(b-m.next)=b-m.next+G from by omega] at e1
    rw [show G+(b'-m.next)=b'-m.next+G from by omega] at e2
    exact H1.inj _ _ i i' _ _ (by omega) h2 h4 e1 e2 rfl rfl
 ·intro b i o hb ho hown
  by_cases h:b<m.next
  ·rw [Qc9,if_pos h] at ho
   rw [hEold b h] at hb
   exact HM.own b i o hb ho hown
  ·obtain⟨r',_,ob,_,_,h6⟩:=hrow b i (by omega) hb
   have:=HM.size;omega
 ·have:=HM.size
  exact HM.base.trans (H1.base.mono this)
 ·have:=HM.size;have:=H1.base.size;omega
 ·intro b hb hn
  refine⟨by rw [hEold b hb];exact hn,by rw [Qc9,if_pos hb]⟩
 ·rw [Qef];omega
theorem Qz8 {P:Program} {G N:Nat} {w0:World} {ov:T (List Value→Mem→Option (Value × Mem))} (pk:ProgOk (Qdt P G .lf) N G w0)
  (h:∀ f g,ov.get f=some g→(∃ fn c,P.funcs[f]? = some fn∧fn.body=some c)∧∀ args m v m',g args m=some (v,m')→∀ (E:Env) (args':List Value) (w:World),MR P N w0 E m w→Qhc G E→VRs E args args' →
   Calls P f ⟨args'⟩ w fun e w'=>∃ v' E',e=.returned v'∧VR E' v v'∧MR P N w0 E' m' w'∧MExt m.next E m E' m'):ProgOk (Qdt P G ov) N G w0:=by
 refine⟨Qng _ _ _,rfl,pk.names,pk.codes,pk.ext,fun f g args m v m' hg hr E args' w HM HG ha=>?_⟩
 obtain⟨⟨fn,c,h1,h2⟩,h3⟩:=h f g hg
 refine⟨?_,h3 args m v m' hr E args' w HM HG ha⟩
 have:(Qdt P G .lf).funcs.get f=some fn:=by
  simp only [Qdt,T.get_ofList];simpa using h1
 exact Qh1 pk this h2 _
noncomputable def memO (r:Option (Value × Mem)):Mem:=match r with|some (_,M)=>M|none=>⟨.lf,0⟩
theorem Qvq {G:Nat} {r:Option (Value × Mem)} {v:Value} {l:List CRow} (h1:r=some (v,memO r)) (h2:Nat.beq (memO r).next (G+l.length)=true) (h3:(okV G v&&l.all fun r=>r.cells.all (okV G))=true)
  (h4:(List.range l.length).map (fun j=>vw (memO r) (G+j))=l.map fun r=>some ⟨true,r.elem,r.ext,r.cells⟩):ranTo G r v l:=by
 refine⟨_,h1,Knq h2,h3,fun j r' hj=>?_⟩
 have hlt:=(Kgs.1 hj).1
 have:=congrArg (fun x=>x[j]?) h4
 simp only [List.getElem?_map,List.getElem?_range hlt,hj,Option.map_some,Kaj] at this
 exact this
end Go.Ev

namespace Go.Ev
open Go.RowKit
def Qh4:Option PanicEntry→FrameMode
 |none=>.returning
 |some p=>.panicking [p]
section
variable (tb:Tabs)
def CallsD (g:FuncId) (args:List Value) (rec:Option PanicEntry) (m:Mem) (S:Mem→Prop):Prop :=
 ∃ fr,Qf7 tb g args .deferred=some fr∧∀ (c:AFrame) (cs:List AFrame),c.mode=Qh4 rec→(rec≠none→isDr c.todo=false) →
   ∃ m',S m'∧To tb ⟨fr,c::cs,m⟩ ⟨Qd8 c .returning,cs,m'⟩
def DefA (d:Deferred) (rec:Option PanicEntry) (m:Mem) (S:Mem→Prop):Prop :=
 ∃ fv cap f args,d.target=.fn fv cap∧Qeb tb fv cap.toList d.args.toList m=.enter f args∧CallsD tb f args rec m S
def bodyD (fd:Func) (d:Deferred) (R:OutA→Mem→Prop):Qde
 | .normal,l,ds,m=>ds=[d]∧DefA tb d none m (fun m2=>∃ v,resL (tb:=tb) fd l m2=some v∧R (.ret v) m2)
 | .jump .ret,l,ds,m=>ds=[d]∧DefA tb d none m (fun m2=>∃ v,resL (tb:=tb) fd l m2=some v∧R (.ret v) m2)
 | .pan ch,l,ds,m=>ds=[d]∧∃ p,ch=[p]∧DefA tb d (some p) m (fun m2=>∃ v,resL (tb:=tb) fd l m2=some v∧R (.ret v) m2)
 |_,_,_,_=>False
variable {tb}
theorem Quu {d:Deferred} {rec:Option PanicEntry} {m:Mem} {S:Mem→Prop} (h:DefA tb d rec m S) {fn:FuncId} {t:T Value} {nt:Nat} {k:List AItem} {kind:CallKind} {ro:Option Nat} (cs:List AFrame) {mode:FrameMode}
  (hm:mode=Qh4 rec) (hk:rec≠none→isDr k=false):∃ m',S m'∧To tb ⟨⟨fn,t,nt,k,[d],mode,kind,ro⟩,cs,m⟩ ⟨⟨fn,t,nt,k,[],.returning,kind,ro⟩,cs,m'⟩:=by
 obtain⟨fv,cap,f,args,h1,h2,fr,h3,h4⟩:=h
 obtain⟨m',hS,hto⟩:=h4 ⟨fn,t,nt,k,[],mode,kind,ro⟩ cs hm hk
 refine⟨m',hS,.step ?_ hto⟩
 cases rec with
 |none=>subst hm;simp only [Qh4,Qcp,Qdo,Qhf,h1,h2,h3]
 |some p=>subst hm;simp only [Qh4,Qcp,Qdo,Qhf,h1,h2,h3]
theorem Qq4 {f:FuncId} {fd:Func} {c:Code} {args:List Value} {m:Mem} {d:Deferred} {R:OutA→Mem→Prop} (hf:tb.funcs.get f=some fd) (hb:fd.body=some c)
  (h:wpC tb ⟨f,.normal,none⟩ c (args++List.replicate (fd.ntmps-args.length) undef) [] m (bodyD tb fd d R)):Qar tb f args m R:=by
 refine⟨⟨f,T.ofList args,max fd.ntmps args.length,[.code c],[],.run,.normal,none⟩,by simp only [Qf7,hf,hb],fun cs=>?_⟩
 have hs:Qcc (args++List.replicate (fd.ntmps-args.length) undef) (T.ofList args):=fun x=>by
  rw [Qa8 args x]
  simp only [List.getD_eq_getElem?_getD,List.getElem?_append]
  split
  ·rfl
  ·rename_i hx
   rw [List.getElem?_eq_none (by omega),List.getElem?_replicate]
   split<;>rfl
 have hl:(args++List.replicate (fd.ntmps-args.length) undef).length=max fd.ntmps args.length:=by
  simp only [Kla,List.length_replicate];omega
 obtain⟨e,l',t',ds',m',b,h1,h2,h3,h4,h5⟩:=h (T.ofList args) [] cs hs
 rw [hl] at h5 h4
 have hres:∀ m2,Qcu tb fd t' m2=resL (tb:=tb) fd l' m2:=fun m2=>by
  unfold resL Qcu
  rw [Qft fun x=>(h1.ev (.tmp x)).trans ((Qa8 l').ev (.tmp x)).symm]
 cases e with
 |normal =>
  obtain rfl:=h4
  obtain⟨rfl,hD⟩:=h3
  obtain⟨m2,⟨v,hv,hR⟩,hto⟩:=Quu hD (fn:=f) (t:=t') (nt:=max fd.ntmps args.length) (k:=[]) (kind:=.normal) (ro:=none) cs rfl (fun e=>absurd rfl e)
  exact⟨.ret v,m2,_,hR,(h5.trans (.one rfl)).trans hto,rfl,rfl,rfl,rfl,fd,hf,(hres m2).trans hv⟩
 |jump c =>
  obtain⟨k',rfl,hk,hj⟩:=h4
  cases c<;>first|exact h3.elim|skip
  obtain⟨rfl,hD⟩:=h3
  obtain⟨m2,⟨v,hv,hR⟩,hto⟩:=Quu hD (fn:=f) (t:=t') (nt:=max fd.ntmps args.length) (k:=k') (kind:=.normal) (ro:=none) cs rfl (fun e=>absurd rfl e)
  exact⟨.ret v,m2,_,hR,(h5.trans (.one rfl)).trans hto,rfl,rfl,rfl,rfl,fd,hf,(hres m2).trans hv⟩
 |pan ch =>
  obtain⟨k',rfl,hk⟩:=h4
  obtain⟨rfl,p,rfl,hD⟩:=h3
  obtain⟨m2,⟨v,hv,hR⟩,hto⟩:=Quu hD (fn:=f) (t:=t') (nt:=max fd.ntmps args.length) (k:=k') (kind:=.normal) (ro:=none) cs rfl (fun _=>by
   rcases hk with hk|hk
   ·cases hk
   ·exact hk)
  exact⟨.ret v,m2,_,hR,h5.trans hto,rfl,rfl,rfl,rfl,fd,hf,(hres m2).trans hv⟩
def bodyE (tb:Tabs) (fd:Func) (S:Mem→Prop):Qde
 | .normal,l,ds,m=>ds=[]∧(∃ w,resL (tb:=tb) fd l m=some w)∧S m
 | .jump .ret,l,ds,m=>ds=[]∧(∃ w,resL (tb:=tb) fd l m=some w)∧S m
 |_,_,_,_=>False
def Qoq (rec:Option PanicEntry) (c:AFrame):AFrame:=match rec with
 |none=>c
 |some p=>Qd8 c (.panicking [{ v:=p.v,recovered:=true }])
def recV:Option PanicEntry→Value
 |none=>.nilIface
 |some p=>p.v
theorem Qzz {tb:Tabs} {rec:Option PanicEntry} {c:AFrame} {cs:List AFrame} {g:FuncId} {fd:Func} {t:T Value} {m:Mem} {w:Value} (hf:tb.funcs.get g=some fd) (hm:c.mode=Qh4 rec) (hk:rec≠none→isDr c.todo=false) (hr:Qcu tb fd t m=some w) :
  Qjd tb g t .deferred (Qoq rec c::cs) m=some ⟨Qd8 c .returning,cs,m⟩:=by
 obtain⟨fn,t2,nt,todo,ds,mode,kind,ro⟩:=c
 cases rec with
 |none=>simp only [Qh4] at hm;subst hm;simp only [Qjd,hf,hr,Qoq,Qd8]
 |some p=>have hk:=hk (by simp);simp only at hk;simp only [Qjd,hf,hr,Qoq,Qd8,hk]
theorem Jb1 {tb:Tabs} {g:FuncId} {fd:Func} {id:Nat} {ops:Array Oper} {rest:Code} {args:List Value} {m:Mem} {S:Mem→Prop} {rec:Option PanicEntry} {o:Oper} {os:List Oper} {a:Array Operand} {ty:Array TypeId}
  (hf:tb.funcs.get g=some fd) (hb:fd.body=some (.seq (.region id ops false) rest)) (ho:ops.toList=o::os) (hop:o.op=.call ⟨.builtin .recover,a,ty⟩) (hg:o.guard=none) (hd:dstB o.dst (args++List.replicate (fd.ntmps-args.length) undef).length=true)
  (hrec:∀ p,rec=some p→p.recovered=false∧p.goexit=false)
  (h:Qkj tb ⟨g,.deferred,none⟩ ops (Qhg (fun l ds m=>wpC tb ⟨g,.deferred,none⟩ rest l ds m (bodyE tb fd S)) (bodyE tb fd S)) os (Qbv o.dst (recV rec) (args++List.replicate (fd.ntmps-args.length) undef)) [] m):CallsD tb g args rec m S:=by
 refine⟨⟨g,T.ofList args,max fd.ntmps args.length,[.code (.seq (.region id ops false) rest)],[],.run,.deferred,none⟩,by simp only [Qf7,hf,hb],fun c cs hm hk=>?_⟩
 have hs:Qcc (args++List.replicate (fd.ntmps-args.length) undef) (T.ofList args):=fun x=>by
  rw [Qa8 args x]
  simp only [List.getD_eq_getElem?_getD,List.getElem?_append]
  split
  ·rfl
  ·rename_i hx
   rw [List.getElem?_eq_none (by omega),List.getElem?_replicate]
   split<;>rfl
 have hl:(args++List.replicate (fd.ntmps-args.length) undef).length=max fd.ntmps args.length:=by
  simp only [Kla,List.length_replicate];omega
 generalize args++List.replicate (fd.ntmps-args.length) undef=L at hs hl hd h
 generalize T.ofList args=t0 at hs
 rw [← hl]
 have hw:Qbk t0 ops o.guard=true:=by rw [hg];rfl
 have hopA:opA o.op tb t0 m=.c:=by rw [hop];rfl
 obtain⟨t1,hp,ht1⟩:=hs.put (v:=recV rec) (Qqw hd)
 have st3:Qcp tb ⟨mkF ⟨g,.deferred,none⟩ t0 L.length (.ops ops (o::os)::[.code rest]) [],c::cs,m⟩=some ⟨mkF ⟨g,.deferred,none⟩ t1 L.length (.ops ops os::[.code rest]) [],Qoq rec c::cs,m⟩:=by
  have h1:Qcp tb ⟨mkF ⟨g,.deferred,none⟩ t0 L.length (.ops ops (o::os)::[.code rest]) [],c::cs,m⟩=Qfb tb o (mkF ⟨g,.deferred,none⟩ t0 L.length (.ops ops (o::os)::[.code rest]) []) (c::cs) m:=by
   simp only [Qcp,Qdo,mkF,Qct,Qho,Qhm,opsA,Qg6,Qhl,hw,hopA,opsK,frm]
  rw [h1]
  unfold Qfb
  rw [hop]
  cases rec with
  |none=>simp only [Qh4] at hm;simp only [Qhk,mkF,hm,Qbt,recV] at hp ⊢;simp only [hp,am,Qoq]
  |some p =>
   obtain⟨r1,r2⟩:=hrec p rfl
   simp only [Qh4] at hm;simp only [Qhk,mkF,hm,r1,r2,Qbt,recV] at hp ⊢;simp only [hp,am,Qoq]
 obtain⟨e,l',t',ds',m',b,q1,q2,q3,q4,q5⟩:=Ql2 os _ [] m t1 [.code rest] (Qoq rec c::cs) ht1 h
 rw [Qe5] at q2 q4 q5
 have start:To tb ⟨⟨g,t0,L.length,[.code (.seq (.region id ops false) rest)],[],.run,.deferred,none⟩,c::cs,m⟩ b :=
  .step (b:=⟨mkF ⟨g,.deferred,none⟩ t0 L.length (.code (.region id ops false)::[.code rest]) [],c::cs,m⟩) rfl (.step (b:=⟨mkF ⟨g,.deferred,none⟩ t0 L.length (.ops ops ops.toList::[.code rest]) [],c::cs,m⟩) rfl (by rw [ho];exact .step st3 q5.to))
 have fin:∀ {l2:List Value} {t2:T Value} {m2:Mem} {k2:List AItem},Qcc l2 t2→(∃ w,resL (tb:=tb) fd l2 m2=some w)→To tb ⟨⟨g,t2,L.length,k2,[],.returning,.deferred,none⟩,Qoq rec c::cs,m2⟩ ⟨Qd8 c .returning,cs,m2⟩:=by
  rintro l2 t2 m2 k2 hs2 ⟨w,hw2⟩
  have hres:Qcu tb fd t2 m2=some w:=by
   rw [← hw2];unfold resL Qcu
   rw [Qft fun x=>(hs2.ev (.tmp x)).trans ((Qa8 l2).ev (.tmp x)).symm]
  exact .one (by simp only [Qcp,Qdo,Qhf];exact Qzz hf hm hk hres)
 have last:∀ {e2:ExA} {l2:List Value} {t2:T Value} {ds2:List Deferred} {m2:Mem} {k2:List AItem} {b2:AM},Qcc l2 t2→bodyE tb fd S e2 l2 ds2 m2→k2=[]∨e2≠.normal→Aft ⟨g,.deferred,none⟩ t2 L.length k2 ds2 (Qoq rec c::cs) m2 e2 b2→S m2∧To tb b2 ⟨Qd8 c .returning,cs,m2⟩:=by
  intro e2 l2 t2 ds2 m2 k2 b2 hs2 h3 hk2 h4
  cases e2 with
  |normal =>
   obtain rfl:=h4
   obtain⟨rfl,hr,hS⟩:=h3
   have hk3:k2=[]:=by rcases hk2 with h|h;exact h;exact absurd rfl h
   subst hk3
   exact⟨hS,(To.one rfl).trans (fin hs2 hr)⟩
  |jump c2 =>
   obtain⟨k',rfl,_,_⟩:=h4
   cases c2<;>first|exact h3.elim|skip
   obtain⟨rfl,hr,hS⟩:=h3
   exact⟨hS,(To.one rfl).trans (fin hs2 hr)⟩
  |pan ch=>exact h3.elim
 cases e with
 |normal =>
  obtain rfl:=q4
  obtain⟨e2,l2,t2,ds2,m2,b2,p1,p2,p3,p4,p5⟩:=q3 t' [] (Qoq rec c::cs) q1
  rw [q2] at p4 p5
  obtain⟨hS,hto⟩:=last p1 p3 (.inl rfl) p4
  exact⟨m2,hS,start.trans (p5.trans hto)⟩
 |jump c2 =>
  obtain⟨hS,hto⟩:=last q1 q3 (.inr (by simp)) q4
  exact⟨m',hS,start.trans hto⟩
 |pan ch=>exact q3.elim
end
end Go.Ev

namespace Go.Ev
open Go.RowKit
variable {tb:Tabs}
def endD (tb:Tabs) (rs:List ResultVar) (d:Deferred) (R:OutA→Mem→Prop):Qde
 | .normal,l,ds,m=>ds=[d]∧DefA tb d none m (fun m2=>∃ v,resX tb rs l m2=some v∧R (.ret v) m2)
 | .jump .ret,l,ds,m=>ds=[d]∧DefA tb d none m (fun m2=>∃ v,resX tb rs l m2=some v∧R (.ret v) m2)
 | .pan ch,l,ds,m=>ds=[d]∧∃ p,ch=[p]∧DefA tb d (some p) m (fun m2=>∃ v,resX tb rs l m2=some v∧R (.ret v) m2)
 |_,_,_,_=>False
theorem callsXD {f:FuncId} {fd:Func} {c:Code} {s:SCode} {n:Nat} {rs:List ResultVar} {args:List Value} {m:Mem} {d:Deferred} {R:OutA→Mem→Prop} (hf:tb.funcs.get f=some fd) (hb:fd.body=some c) (hs:Qa6 c=s) (hn:fd.ntmps=n) (hr:fd.results.toList=rs)
  (h:wpX tb ⟨f,.normal,none⟩ s (args++List.replicate (n-args.length) undef) [] m (endD tb rs d R)):Qar tb f args m R:=by
 subst hn;subst hr
 refine Qq4 (d:=d) hf hb ((h c hs).mono fun e l' ds' m' h=>?_)
 cases e with
 |normal=>exact h
 |jump c=>cases c<;>exact h
 |pan ch=>exact h
def endE (tb:Tabs) (rs:List ResultVar) (S:Mem→Prop):Qde
 | .normal,l,ds,m=>ds=[]∧(∃ w,resX tb rs l m=some w)∧S m
 | .jump .ret,l,ds,m=>ds=[]∧(∃ w,resX tb rs l m=some w)∧S m
 |_,_,_,_=>False
theorem Qyq {c:Code} {os:List SOp} (hc:Qa6 c=.reg os):∃ id ops,c=.region id ops false∧ops.toList.map (Qmo ops.toList)=os:=by
 unfold Qa6 at hc
 split at hc<;>first|contradiction|skip
 cases hc;exact⟨_,_,rfl,rfl⟩
theorem Qfr {F:FC} {ops:Array Oper} {Q Q':Qde} (hQ:∀ e l ds m,Q e l ds m→Q' e l ds m):∀ (os:List Oper) (l:List Value) (ds:List Deferred) (m:Mem),Qkj tb F ops Q os l ds m→Qkj tb F ops Q' os l ds m
 | [],l,ds,m,h=>hQ _ _ _ _ h
 |o::os,l,ds,m,h=>by
  obtain⟨hd,h⟩:=h
  refine⟨hd,?_⟩
  revert h
  split
  ·exact fun h=>Qfr hQ os _ _ _ h
  ·split
   ·exact fun h=>Qfr hQ os _ _ _ h
   ·exact fun h=>Qfr hQ os _ _ _ h
   ·exact fun h=>Qfr hQ os _ _ _ h
   ·exact fun h=>Qhe h (fun v ds m h=>Qfr hQ os _ _ _ h) fun ch m h=>hQ _ _ _ _ h
   ·exact fun h=>h
theorem callsDX {g:FuncId} {fd:Func} {c:Code} {rest:SCode} {n:Nat} {rs:List ResultVar} {args:List Value} {m:Mem} {S:Mem→Prop} {rec:Option PanicEntry} {d:Option Tmp} {ty:TypeId} {a:Array Operand} {tys:Array TypeId} {os:List SOp}
  (hf:tb.funcs.get g=some fd) (hb:fd.body=some c) (hs:Qa6 c=.seq (.reg (⟨d,.call ⟨.builtin .recover,a,tys⟩,ty,.no⟩::os)) rest) (hn:fd.ntmps=n) (hr:fd.results.toList=rs)
  (hd:dstB d (args++List.replicate (n-args.length) undef).length=true) (hrec:∀ p,rec=some p→p.recovered=false∧p.goexit=false)
  (h:wpR tb ⟨g,.deferred,none⟩ (Qhg (fun l ds m=>wpX tb ⟨g,.deferred,none⟩ rest l ds m (endE tb rs S)) (endE tb rs S)) os (Qbv d (recV rec) (args++List.replicate (n-args.length) undef)) [] m):CallsD tb g args rec m S:=by
 subst hn;subst hr
 obtain⟨a',b',rfl,ha,hb'⟩:=Qrl hs
 obtain⟨id,ops,rfl,hops⟩:=Qyq ha
 cases hl:ops.toList with
 |nil=>rw [hl] at hops;cases hops
 |cons o os' =>
  have hops2:=hops
  rw [hl,List.map_cons] at hops2
  simp only [List.cons.injEq] at hops2
  obtain⟨h1,h2⟩:=hops2
  simp only [Qmo,SOp.mk.injEq] at h1
  obtain⟨k1,k2,k3,k4⟩:=h1
  have hg:o.guard=none:=by
   cases hgd:o.guard with
   |none=>rfl
   |some q =>
    obtain⟨j,w⟩:=q
    rw [hgd] at k4
    unfold Qgf at k4
    simp only at k4
    split at k4
    ·split at k4<;>cases k4
    ·cases k4
  have hE:∀ e l' ds' m',endE tb fd.results.toList S e l' ds' m'→bodyE tb fd S e l' ds' m':=fun e l' ds' m' h=>by
   cases e with
   |normal=>exact h
   |jump c=>cases c<;>exact h
   |pan ch=>exact h
  refine Jb1 (rest:=b') hf hb hl k2 hg (by rw [k1];exact hd) hrec ?_
  have h3:=Qmk (ops:=ops) os' _ _ _ (by rw [← hl] at h2;rw [h2];exact h)
  refine Qfr (fun e l2 ds2 m2 hq=>?_) os' _ _ _ (by rw [k1];exact h3)
  cases e with
  |normal=>exact (hq b' hb').mono hE
  |jump c=>exact hE (.jump c) l2 ds2 m2 hq
  |pan ch=>exact hE (.pan ch) l2 ds2 m2 hq
end Go.Ev

namespace Go.Ev
open Go.RowKit
structure Lp where
 fn:FuncId
 t:T Value
 n:Nat
 ps:List Tmp
 a:Code
 b:Code
 d:Nat
def Lp.ob (L:Lp) (st:LoopState) (pe:Option Code):AObj:=.loop st pe L.fn L.t L.n L.ps L.a L.b L.d
def coll (b:Nat):Deferred := { target:=.collected b,args := #[] }
section
variable {tb:Tabs}
def endR (lp:Nat) (L:Lp) (R:OutA→Mem→Prop):Qde
 | .normal,l,ds,m=>ds=[]∧(∃ st pe,m.objs.get lp=some (L.ob st pe))∧R (.ret (.bool true)) (Qa3 m lp (L.ob .ready none))
 | .jump .ret,l,ds,m=>ds=[]∧(∃ st pe,m.objs.get lp=some (L.ob st pe))∧R (.ret (.bool false)) (Qa3 m lp (L.ob .done (some .ret)))
 |_,_,_,_=>False
theorem Qw9 {lp:Nat} {L:Lp} {m:Mem} {v:Value} {p:Nat} {l:List Value} {R:OutA→Mem→Prop} {pe:Option Code} {sa sb:SCode} (hl:m.objs.get lp=some (L.ob .ready pe)) (hok:(Qcb tb.g L.a&&Qcb tb.g L.b&&(tb.funcs.get L.fn).isSome)=true) (hp:L.ps=[p]) (hpl:p<l.length) (hs:Qcc l L.t) (hn:L.n=l.length)
  (ha:Qa6 L.a=sa) (hb:Qa6 L.b=sb)
  (h:wpX tb ⟨L.fn,.normal,some lp⟩ sa (l.set p v) [] m (fun e l2 ds2 m2=>e=.normal∧ds2=[]∧(∃ pe2,m2.objs.get lp=some (L.ob .ready pe2)∧wpX tb ⟨L.fn,.normal,some lp⟩ sb l2 [] (Qa3 m2 lp (L.ob .busy pe2)) (endR lp L R)))):Qrd tb lp [v] m R:=by
 obtain⟨t1,ht1,hs1⟩:=hs.put (d:=some p) (v:=v) (fun x e=>by cases e;exact hpl)
 have hf:Qf3 L.n L.ps [v] L.t=some t1:=by
  rw [hp,hn];simp only [Qf3,ht1,oB]
 refine⟨⟨L.fn,t1,L.n,[.code L.a,.beginRound,.code L.b],[],.run,.normal,some lp⟩,?_,fun c cs=>?_⟩
 ·unfold Qqe
  rw [hl]
  simp only [Lp.ob,hok,hf]
 obtain⟨e,l2,t2,ds2,m2,b2,h1,h2,h3,h4,h5⟩:=h L.a ha t1 [.beginRound,.code L.b] (c::cs) hs1
 obtain⟨rfl,rfl,pe2,h6,h7⟩:=h3
 obtain rfl:=h4
 have hn2:(l.set p v).length=L.n:=by rw [List.length_set,hn]
 rw [hn2] at h5 h2
 have st1:Qcp tb ⟨mkF ⟨L.fn,.normal,some lp⟩ t2 L.n [.beginRound,.code L.b] [],c::cs,m2⟩=some ⟨mkF ⟨L.fn,.normal,some lp⟩ t2 L.n [.code L.b] [],c::cs,Qa3 m2 lp (L.ob .busy pe2)⟩:=by
  simp only [Qcp,Qdo,mkF,Qct,Qho,Qwc,h6,Lp.ob,mkA]
 obtain⟨e,l3,t3,ds3,m3,b3,g1,g2,g3,g4,g5⟩:=h7 L.b hb t2 [] (c::cs) h1
 rw [h2] at g4 g5
 have start:=h5.trans (.step st1 g5)
 cases e with
 |normal =>
  obtain rfl:=g4
  obtain⟨rfl,⟨st,pe,h8⟩,hR⟩:=g3
  refine⟨.ret (.bool true),_,hR,fun c1 hc=>start.trans (.one ?_)⟩
  simp only [Lp.ob] at h8 hc ⊢
  simp only [Qcp,Qdo,mkF,Qct,Qj8,frm,h8,hc,am]
 |jump c2 =>
  obtain⟨k',rfl,_,_⟩:=g4
  cases c2<;>first|exact g3.elim|skip
  obtain⟨rfl,⟨st,pe,h8⟩,hR⟩:=g3
  refine⟨.ret (.bool false),_,hR,fun c1 hc=>start.trans (.one ?_)⟩
  simp only [Lp.ob] at h8 hc ⊢
  simp only [Qcp,Qdo,mkF,Qct,Qho,Qn9,Qj8,frm,h8,hc,am]
 |pan ch=>exact g3.elim
def aftL (lp:Nat) (L:Lp) (Q:Qde) (l:List Value) (ds:List Deferred) (m:Mem):Prop :=
 (∃ st,st≠.busy∧m.objs.get lp=some (L.ob st none)∧Q .normal l ds (Qa3 m lp (L.ob .exhausted none))) ∨
 (∃ st,st≠.busy∧m.objs.get lp=some (L.ob st (some .ret))∧Q (.jump .ret) l ds (Qa3 m lp (L.ob .exhausted (some .ret))))
theorem wp_rng {F:FC} {f:Operand} {ps:Array Tmp} {a b:Code} {l:List Value} {ds:List Deferred} {m:Mem} {Q:Qde} (hro:F.ro=none)
  (h:∀ t,Qcc l t→∀ L,L=Lp.mk F.fn t l.length ps.toList a b m.next→Qe2 tb (Qa7 tb (evL l f) [.func (.yield (m.next+1)) #[] #[]] (Qah (Qah m (.dfr (some []))) (L.ob .ready none))) (coll m.next::ds) (Qah (Qah m (.dfr (some []))) (L.ob .ready none))
   (fun _ ds' m'=>aftL (m.next+1) L Q l ds' m') (fun ch m'=>Q (.pan ch) l (coll m.next::ds) m')):wpC tb F (.rangeFunc f ps a b) l ds m Q:=fun t k cs ht=>by
 have h:=h t ht _ rfl
 generalize hL:Lp.mk F.fn t l.length ps.toList a b m.next=L at h
 have key:Qfc tb F Q l.length k cs ⟨mkF F t l.length (.code (.rangeFunc f ps a b)::k) ds,cs,m⟩:=by
  refine Qud (kk:=.inRangeFunc (m.next+1)::k) rfl ht (fun ch m' h=>⟨.inr rfl,h⟩) h (fun v m' hk=>?_) fun b2 hb=>?_
  ·refine⟨⟨F.fn,t,l.length,.endRangeFunc (m.next+1)::k,coll m.next::ds,.run,F.kind,F.ro⟩,rfl,?_⟩
   rcases hk with ⟨st,hst,hg,hq⟩|⟨st,hst,hg,hq⟩
   ·refine⟨.normal,l,t,_,_,_,ht,rfl,hq,rfl,.step ?_ (.refl _)⟩
    simp only [Lp.ob] at hg ⊢
    cases st<;>first|exact absurd rfl hst|simp only [Qcp,Qdo,Qct,Qho,endA,hg,mkA,mkF]
   ·refine⟨.jump .ret,l,t,_,_,_,ht,rfl,hq,⟨k,rfl,rfl,rfl⟩,.step ?_ (.refl _)⟩
    simp only [Lp.ob] at hg ⊢
    cases st<;>first|exact absurd rfl hst|simp only [Qcp,Qdo,Qct,Qho,endA,hg,mkA,mkF,Qcb]
  ·subst hL
   rw [← ht.ev f] at hb
   simp only [Qcp,Qdo,mkF,Qct,Qho,Qn9,Qir,hro,frm,coll,Lp.ob] at hb ⊢
   exact hb
 obtain⟨e,l',t',ds',m',b',h1,h2,h3,h4,h5⟩:=key
 exact⟨e,l',t',ds',m',b',h1,h2,h3,h4,h5.to⟩
theorem xrng {F:FC} {f:Operand} {ps:List Tmp} {a b:SCode} {l:List Value} {ds:List Deferred} {m:Mem} {Q:Qde} (hro:F.ro=none) (hg:tb.g=8) (hfn:(tb.funcs.get F.fn).isSome=true)
  (h:∀ L:Lp,L.fn=F.fn→Qcc l L.t→L.n=l.length→L.ps=ps→Qa6 L.a=a→Qa6 L.b=b→L.d=m.next→(Qcb tb.g L.a&&Qcb tb.g L.b&&(tb.funcs.get L.fn).isSome)=true →
   Qe2 tb (Qa7 tb (evL l f) [.func (.yield (m.next+1)) #[] #[]] (Qah (Qah m (.dfr (some []))) (L.ob .ready none))) (coll m.next::ds) (Qah (Qah m (.dfr (some []))) (L.ob .ready none))
   (fun _ ds' m'=>aftL (m.next+1) L Q l ds' m') (fun ch m'=>Q (.pan ch) l (coll m.next::ds) m')):wpX tb F (.rng f ps a b true) l ds m Q:=fun c' hs=>by
 unfold Qa6 at hs
 split at hs<;>first|contradiction|skip
 rename_i f' ps' a' b'
 simp only [SCode.rng.injEq] at hs
 obtain⟨rfl,rfl,rfl,rfl,hok⟩:=hs
 refine wp_rng hro fun t ht L hL=>?_
 subst hL
 exact h _ rfl ht rfl rfl rfl rfl rfl (by rw [hg,hfn,Bool.and_true];exact hok)
def endC (tb:Tabs) (rs:List ResultVar) (R:OutA→Mem→Prop):Qde
 | .normal,l,ds,m=>(ds=[]∧∃ v,resX tb rs l m=some v∧R (.ret v) m)∨∃ b,ds=[coll b]∧m.objs.get b=some (.dfr (some []))∧∃ v,resX tb rs l (Qa3 m b (.dfr none))=some v∧R (.ret v) (Qa3 m b (.dfr none))
 | .jump .ret,l,ds,m=>(ds=[]∧∃ v,resX tb rs l m=some v∧R (.ret v) m)∨∃ b,ds=[coll b]∧m.objs.get b=some (.dfr (some []))∧∃ v,resX tb rs l (Qa3 m b (.dfr none))=some v∧R (.ret v) (Qa3 m b (.dfr none))
 |_,_,_,_=>False
theorem callsXC {f:FuncId} {fd:Func} {c:Code} {s:SCode} {n:Nat} {rs:List ResultVar} {args:List Value} {m:Mem} {R:OutA→Mem→Prop} (hf:tb.funcs.get f=some fd) (hb:fd.body=some c) (hs:Qa6 c=s) (hn:fd.ntmps=n) (hr:fd.results.toList=rs)
  (h:wpX tb ⟨f,.normal,none⟩ s (args++List.replicate (n-args.length) undef) [] m (endC tb rs R)):Qar tb f args m R:=by
 subst hn;subst hr
 refine⟨⟨f,T.ofList args,max fd.ntmps args.length,[.code c],[],.run,.normal,none⟩,by simp only [Qf7,hf,hb],fun cs=>?_⟩
 have hs2:Qcc (args++List.replicate (fd.ntmps-args.length) undef) (T.ofList args):=fun x=>by
  rw [Qa8 args x]
  simp only [List.getD_eq_getElem?_getD,List.getElem?_append]
  split
  ·rfl
  ·rename_i hx
   rw [List.getElem?_eq_none (by omega),List.getElem?_replicate]
   split<;>rfl
 have hl:(args++List.replicate (fd.ntmps-args.length) undef).length=max fd.ntmps args.length:=by
  simp only [Kla,List.length_replicate];omega
 obtain⟨e,l',t',ds',m',b,h1,h2,h3,h4,h5⟩:=h c hs (T.ofList args) [] cs hs2
 rw [hl] at h5 h4
 have hres:∀ m2,Qcu tb fd t' m2=resX tb fd.results.toList l' m2:=fun m2=>by
  show Qcu tb fd t' m2=Qcu tb fd (T.ofList l') m2
  unfold Qcu
  rw [Qft fun x=>(h1.ev (.tmp x)).trans ((Qa8 l').ev (.tmp x)).symm]
 have fin:∀ {k':List AItem},((ds'=[]∧∃ v,resX tb fd.results.toList l' m'=some v∧R (.ret v) m')∨∃ b,ds'=[coll b]∧m'.objs.get b=some (.dfr (some []))∧∃ v,resX tb fd.results.toList l' (Qa3 m' b (.dfr none))=some v∧R (.ret v) (Qa3 m' b (.dfr none))) →
   To tb ⟨⟨f,T.ofList args,max fd.ntmps args.length,[.code c],[],.run,.normal,none⟩,cs,m⟩ ⟨⟨f,t',max fd.ntmps args.length,k',ds',.returning,.normal,none⟩,cs,m'⟩ →
   ∃ out m2 fr,R out m2∧To tb ⟨⟨f,T.ofList args,max fd.ntmps args.length,[.code c],[],.run,.normal,none⟩,cs,m⟩ ⟨fr,cs,m2⟩∧Leav tb f fr m2 out:=by
  intro k' hx hto
  rcases hx with ⟨rfl,v,hv,hR⟩|⟨b,rfl,hg,v,hv,hR⟩
  ·exact⟨.ret v,m',_,hR,hto,rfl,rfl,rfl,rfl,fd,hf,(hres _).trans hv⟩
  ·refine⟨.ret v,_,⟨f,t',max fd.ntmps args.length,k',[],.returning,.normal,none⟩,hR,hto.trans (.one ?_),rfl,rfl,rfl,rfl,fd,hf,(hres _).trans hv⟩
   simp only [Qcp,Qdo,Qhf,coll,hg,Kna]
 cases e with
 |normal =>
  obtain rfl:=h4
  exact fin h3 (h5.trans (.one rfl))
 |jump c2 =>
  obtain⟨k',rfl,hk,hj⟩:=h4
  cases c2<;>first|exact h3.elim|skip
  exact fin h3 (h5.trans (.one rfl))
 |pan ch=>exact h3.elim
end
end Go.Ev

