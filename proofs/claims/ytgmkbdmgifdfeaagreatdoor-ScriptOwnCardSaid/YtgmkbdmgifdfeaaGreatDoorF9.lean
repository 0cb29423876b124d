/- A part of a proof: ScriptOwn. -/
import Derived.Test.YtgmkbdmgifdfeaaGreatDoorF8
set_option linter.unusedVariables false
set_option linter.unusedSimpArgs false
namespace Go.Ev
open Go.RowKit
section
variable {tb:Tabs} {F:FC} {ops:Array Oper} {Q:PostA}
theorem callOp_ok {o:Oper} {ds:List Deferred} {m:Mem} {nt:Nat} {k:List AItem} {cs:List AFrame} {l:List Value} {t:T Value} (hl:l.length=nt) (ht:SlotsR l t) {K:Value→List Deferred→Mem→Prop} {PK:List PanicEntry→Mem→Prop} {kk:List AItem}
  (hp:∀ ch m',PK ch m'→(ds=[]∨isDr kk=false)∧Q (.pan ch) l ds m') (h:wpCallOp tb F o l ds m K PK) (hfin:∀ v ds2 m',K v ds2 m'→∃ c1,finishA tb (mkF F t nt kk ds2) v m'=some c1∧GoesOn tb F Q nt k cs ⟨c1,cs,m'⟩) {a:AM}
  (hstop:stepA tb a=doCall tb o (mkF F t nt kk ds) cs m):GoesOn tb F Q nt k cs a:=by
 unfold wpCallOp at h
 split at h
 ·rename_i c hop2
  split at h
  ·rename_i f hcal
   refine next_ok hl ht hp h (fun v m' h1=>hfin v ds m' h1) fun b hb=>?_
   rw [hstop]
   unfold doCall
   rw [hop2]
   simp only [hcal,mkF] at hb ⊢
   rw [ht.ev f,ht.evs]
   exact hb
  ·rename_i b hcal
   split at h
   ·obtain⟨h1,h2,h3⟩:=h
    obtain⟨c1,q1,q2⟩:=hfin _ _ _ h3
    refine q2.after (.step ?_ (.refl _))
    rw [hstop]
    unfold doCall
    rw [hop2]
    simp only [hcal,recoverA]
    simp only [mkF,h1,h2] at q1 ⊢
    simp only [am,q1]
   ·exact h.elim
  ·exact h.elim
 ·rename_i c hop2
  obtain⟨h1,d,h2,h3⟩:=h
  obtain⟨c1,q1,q2⟩:=hfin _ _ _ h3
  refine q2.after (.step ?_ (.refl _))
  rw [hstop]
  unfold doCall
  rw [hop2]
  have hd2:=(ht.deferOf c o.type).trans h2
  simp only [mkF,hd2,deferA,h1] at q1 ⊢
  simp only [addDefer,am,q1]
 ·rename_i x hop2
  obtain⟨h1,h2⟩:=h
  have hx:=ht.ev x
  generalize hv:evL l x=v at h1 h2 hx
  cases v<;>simp only [isIface] at h1<;>first|(simp at h1;done)|skip
  rename_i ty v
  refine⟨.pan _,l,t,ds,m,_,ht,hl,(hp _ _ h2).2,⟨_,rfl,(hp _ _ h2).1⟩,.step (b:=⟨raiseA (mkF F t nt kk ds) [{ v:=.iface ty v,recovered:=false }],cs,m⟩) ?_ (.refl _)⟩
  rw [hstop]
  unfold doCall
  rw [hop2]
  simp only [mkF,hx]
 ·exact h.elim
end
section
variable (tb:Tabs) (ops:Array Oper)
def wpPass (K:List (Nat × Oper)→List Value→Mem→List Hist→Nat→Prop):List (Nat × Oper)→List Nat→List (Nat × Oper)→List Value→Mem→List Hist→Nat→Prop
 | [],bl,rem,l,m,hist,mask=>K rem.reverse l m hist mask
 |x::xs,bl,rem,l,m,hist,mask =>
  match blockedBy bl x.2.after.toList with
  |true=>wpPass K xs (x.1::bl) (x::rem) l m hist mask
  |false=>depsOk ops x.2 hist=true∧dstB x.2.dst l.length=true∧match wantedL l ops x.2.guard with
   |false=>∃ mask',maskA ops x.2 mask=some mask'∧wpPass K xs bl rem (setSl x.2.dst undef l) m (⟨x.1,x.2,[],.s,undef⟩::hist) mask'
   |true=>match opA x.2.op tb (T.ofList l) m with
    | .r v=>∃ mask',maskA ops x.2 mask=some mask'∧wpPass K xs bl rem (setSl x.2.dst v l) m (⟨x.1,x.2,evsL l x.2.op.operands.toList,.r,v⟩::hist) mask'
    | .f ob mk=>∃ mask',maskA ops x.2 mask=some mask'∧wpPass K xs bl rem (setSl x.2.dst (mk m.next) l) (newObjA m ob) (⟨x.1,x.2,evsL l x.2.op.operands.toList,.f m.next,mk m.next⟩::hist) mask'
    | .e _ _=>wpPass K xs (x.1::bl) (x::rem) l m hist mask
    | .c=>wpPass K xs (x.1::bl) (x::rem) l m hist mask
    | .bad=>False
def CheckP (l:List Value) (m:Mem) (h:Hist):Prop :=
 (match h.o.dst with|none=>True|some d=>evL l (.tmp d)=h.v)∧vEq 100 h.v h.v=true ∧
 match h.k with
 | .s=>wantedL l ops h.o.guard=false
 | .f _=>wantedL l ops h.o.guard=true∧evsL l h.o.op.operands.toList=h.vs∧vEqL h.vs h.vs=true
 | .r=>wantedL l ops h.o.guard=true∧evsL l h.o.op.operands.toList=h.vs∧vEqL h.vs h.vs=true∧(isPure h.o.op=true∨opA h.o.op tb (T.ofList l) m=.r h.v)
def recheckP (l:List Value) (m:Mem) (after:List Edge):List Hist→Prop
 | []=>True
 |h::hs=>(edgeFrom h.i after=true∨CheckP tb ops l m h)∧recheckP l m after hs
variable (F:FC) (Q:PostA)
def wpDr:Nat→List (Nat × Oper)→List Value→List Deferred→Mem→List Hist→Nat→Prop
 |0,_,_,_,_,_,_=>False
 |n+1,rem,l,ds,m,hist,mask=>wpPass tb ops (fun rem l m hist mask =>
   match rem with
   | []=>Q .normal l ds m
   | (i,o)::r=>(alone [i] r&&depsOk ops o hist&&wantedL l ops o.guard)=true∧dstB o.dst l.length=true ∧
     match opA o.op tb (T.ofList l) m with
     | .e v m'=>recheckP tb ops (setSl o.dst v l) m' o.after.toList hist∧wpDr n r (setSl o.dst v l) ds m' hist mask
     | .c=>wpCallOp tb F o l ds m (fun v ds m'=>recheckP tb ops (setSl o.dst v l) m' o.after.toList hist∧wpDr n r (setSl o.dst v l) ds m' hist mask) (fun ch m=>ds=[]∧Q (.pan ch) l ds m)
     |_=>False) rem [] [] l m hist mask
variable {tb ops F Q}
theorem wpPass_ok {K:List (Nat × Oper)→List Value→Mem→List Hist→Nat→Prop}:∀ (xs:List (Nat × Oper)) (bl:List Nat) (rem:List (Nat × Oper)) (l:List Value) (t:T Value) (m:Mem) (hist:List Hist) (mask:Nat),SlotsR l t→wpPass tb ops K xs bl rem l m hist mask →
  ∃ t1 l1 m1 rem1 hist1 mask1,drPass tb ops l.length xs bl rem t m hist mask=.ok t1 m1 rem1 hist1 mask1∧SlotsR l1 t1∧l1.length=l.length∧K rem1 l1 m1 hist1 mask1
 | [],bl,rem,l,t,m,hist,mask,ht,h=>⟨t,l,m,_,hist,mask,rfl,ht,rfl,h⟩
 |x::xs,bl,rem,l,t,m,hist,mask,ht,h=>by
  have hstep:∀ bl rem t m hist mask,drPass tb ops l.length (x::xs) bl rem t m hist mask=drStep tb ops l.length x xs (drPass tb ops l.length xs) bl rem t m hist mask:=fun _ _ _ _ _ _=>rfl
  unfold wpPass at h
  split at h
  ·rename_i hb
   obtain⟨t1,l1,m1,rem1,hist1,mask1,p1,p2⟩:=wpPass_ok xs _ _ l t m hist mask ht h
   exact⟨t1,l1,m1,rem1,hist1,mask1,by rw [hstep];simp only [drStep,hb];exact p1,p2⟩
  ·rename_i hb
   obtain⟨hdep,hd,h⟩:=h
   have hw:=ht.wanted ops x.2.guard
   have hop:=ht.opA (tb:=tb) x.2.op m
   have go:∀ {v:Value} {m2:Mem} {hi:Hist},(∃ mask',maskA ops x.2 mask=some mask'∧wpPass tb ops K xs bl rem (setSl x.2.dst v l) m2 (hi::hist) mask') →
     (∀ t' mask',putT t l.length x.2.dst v=some t'→maskA ops x.2 mask=some mask'→drPass tb ops l.length (x::xs) bl rem t m hist mask=drPass tb ops l.length xs bl rem t' m2 (hi::hist) mask') →
     ∃ t1 l1 m1 rem1 hist1 mask1,drPass tb ops l.length (x::xs) bl rem t m hist mask=.ok t1 m1 rem1 hist1 mask1∧SlotsR l1 t1∧l1.length=l.length∧K rem1 l1 m1 hist1 mask1:=by
    rintro v m2 hi ⟨mask',hm,h⟩ he
    obtain⟨t',p1,p2⟩:=ht.put (v:=v) (dstB_ok hd)
    obtain⟨t1,l1,m1,rem1,hist1,mask1,q1,q2,q3,q4⟩:=wpPass_ok xs _ _ _ t' m2 _ mask' p2 h
    rw [setSl_length] at q1 q3
    exact⟨t1,l1,m1,rem1,hist1,mask1,(he t' mask' p1 hm).trans q1,q2,q3,q4⟩
   split at h
   ·rename_i hf
    exact go h fun t' mask' p1 p2=>by rw [hstep];simp only [drStep,hb,hdep,hw.trans hf,drPut,p1,p2]
   ·rename_i hf
    split at h
    ·rename_i v ho
     exact go h fun t' mask' p1 p2=>by rw [hstep];simp only [drStep,hb,hdep,hw.trans hf,hop.trans ho,drK,drPut,p1,p2,ht.evs]
    ·rename_i ob mk ho
     exact go h fun t' mask' p1 p2=>by rw [hstep];simp only [drStep,hb,hdep,hw.trans hf,hop.trans ho,drK,drPut,p1,p2,ht.evs]
    ·rename_i ho
     obtain⟨t1,l1,m1,rem1,hist1,mask1,p1,p2⟩:=wpPass_ok xs _ _ l t m hist mask ht h
     exact⟨t1,l1,m1,rem1,hist1,mask1,by rw [hstep];simp only [drStep,hb,hdep,hw.trans hf,hop.trans ho,drK];exact p1,p2⟩
    ·rename_i ho
     obtain⟨t1,l1,m1,rem1,hist1,mask1,p1,p2⟩:=wpPass_ok xs _ _ l t m hist mask ht h
     exact⟨t1,l1,m1,rem1,hist1,mask1,by rw [hstep];simp only [drStep,hb,hdep,hw.trans hf,hop.trans ho,drK];exact p1,p2⟩
    ·exact h.elim
theorem recheckP_ok {l:List Value} {t:T Value} {m:Mem} {after:List Edge} (ht:SlotsR l t):∀ {hs:List Hist},recheckP tb ops l m after hs→recheck tb ops t m after hs=true
 | [],_=>rfl
 |h::hs,⟨h1,h2⟩=>by
  unfold recheck
  cases he:edgeFrom h.i after with
  |true=>exact recheckP_ok ht h2
  |false =>
   rw [he] at h1
   obtain⟨c1,c2,c3⟩:=h1.resolve_left (by simp)
   have hc:checkH tb ops t m h=true:=by
    clear h2 h1 he
    obtain⟨i,o,vs,k,v⟩:=h
    have e1:∀ d,o.dst=some d→vEq 100 (ev t (.tmp d)) v=true:=fun d hd=>by
     simp only [hd] at c1
     rw [ht.ev,c1];exact c2
    clear c1
    obtain⟨dst,op,type,pos,aft,guard⟩:=o
    unfold checkH
    simp only at e1 c2 c3 ⊢
    have e2:(match dst with|none=>true|some d=>vEq 100 (ev t (.tmp d)) v)=true:=by
     cases dst with
     |none=>rfl
     |some d=>exact e1 d rfl
    cases dst<;>simp only at e2 ⊢ <;> (try rw [e2])<;>(try simp only) <;>
    (cases k with
    |s=>simp only at c3 ⊢;rw [ht.wanted,c3];rfl
    |f b =>
     obtain⟨d1,d2,d3⟩:=c3
     simp only [ht.wanted,d1,ht.evs,d2,d3,Bool.and_self]
    |r =>
     obtain⟨d1,d2,d3,d4⟩:=c3
     simp only [ht.wanted,d1,ht.evs,d2,d3,Bool.and_self]
     rcases d4 with d4|d4
     ·simp only [d4]
     ·simp only [ht.opA,d4,c2]
      split<;>rfl)
   rw [hc]
   exact recheckP_ok ht h2
theorem wpDr_ok:∀ (n:Nat) (rem:List (Nat × Oper)) (l:List Value) (ds:List Deferred) (m:Mem) (hist:List Hist) (mask:Nat) (t:T Value) (k:List AItem) (cs:List AFrame),SlotsR l t→wpDr tb ops F Q n rem l ds m hist mask →
  GoesOn tb F Q l.length k cs ⟨mkF F t l.length (.dr ops rem hist mask::k) ds,cs,m⟩
 |0,_,_,_,_,_,_,_,_,_,_,h=>h.elim
 |n+1,rem,l,ds,m,hist,mask,t,k,cs,ht,h=>by
  obtain⟨t1,l1,m1,rem1,hist1,mask1,p1,p2,p3,p4⟩:=wpPass_ok rem [] [] l t m hist mask ht h
  have hs:stepA tb ⟨mkF F t l.length (.dr ops rem hist mask::k) ds,cs,m⟩=drWrite tb ops rem1 hist1 mask1 k F.fn t1 l.length ds F.kind F.ro cs m1:=by
   simp only [stepA,stepFr,mkF,runFrame,itemA,drItem,p1]
  cases rem1 with
  |nil=>exact⟨.normal,l1,t1,ds,m1,_,p2,p3,p4,rfl,.step (hs.trans rfl) (.refl _)⟩
  |cons x r =>
   obtain⟨i,o⟩:=x
   obtain⟨h1,h2,h3⟩:=p4
   have hw:=p2.wanted ops o.guard
   have hop:=p2.opA (tb:=tb) o.op m1
   rw [← hw] at h1
   have hfin:∀ v ds2 m',recheckP tb ops (setSl o.dst v l1) m' o.after.toList hist1∧wpDr tb ops F Q n r (setSl o.dst v l1) ds2 m' hist1 mask1 →
     ∃ c1,finishA tb (mkF F t1 l.length (.dr ops ((i,o)::r) hist1 mask1::k) ds2) v m'=some c1∧GoesOn tb F Q l.length k cs ⟨c1,cs,m'⟩:=by
    rintro v ds2 m' ⟨g1,g2⟩
    obtain⟨t',q1,q2⟩:=p2.put (v:=v) (dstB_ok h2)
    have ih:=wpDr_ok n r (setSl o.dst v l1) ds2 m' hist1 mask1 t' k cs q2 g2
    rw [setSl_length,p3] at ih
    rw [p3] at q1
    exact⟨_,by simp only [finishA,mkF,q1,recheckP_ok q2 g1];try rfl,ih⟩
   split at h3
   ·rename_i v m' ho
    obtain⟨c1,q1,q2⟩:=hfin v ds m' h3
    refine q2.after (.step (hs.trans ?_) (.refl _))
    simp only [drWrite,h1,hop.trans ho]
    simp only [frm,mkF] at q1 ⊢
    simp only [q1,am]
   ·rename_i ho
    refine callOp_ok p3 p2 (fun _ _ h=>⟨.inl h.1,h.2⟩) h3 hfin (hs.trans ?_)
    simp only [drWrite,h1,hop.trans ho]
    rfl
   ·exact h3.elim
theorem wp_draw {id:Nat} {l:List Value} {ds:List Deferred} {m:Mem} (n:Nat) (h:wpDr tb ops F Q n ((List.range ops.toList.length).zip ops.toList) l ds m [] 0):wpC tb F (.region id ops true) l ds m Q:=fun t k cs ht=>by
 obtain⟨e,l',t',ds',m',b,h1,h2,h3,h4,h5⟩:=wpDr_ok n _ l ds m [] 0 t k cs ht h
 exact⟨e,l',t',ds',m',b,h1,h2,h3,h4,.step rfl h5.to⟩
end
end Go.Ev

