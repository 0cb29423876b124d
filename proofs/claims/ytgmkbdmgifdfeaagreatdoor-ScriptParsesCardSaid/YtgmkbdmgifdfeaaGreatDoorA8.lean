/- A part of a proof: ScriptParses. -/
import Derived.Test.YtgmkbdmgifdfeaaGreatDoorA7
set_option linter.unusedVariables false
set_option linter.unusedSimpArgs false
namespace Go.Ev
open Go.RowKit
theorem zip_all_eq {f:Value→Value→Bool} (hf:∀ a b,f a b=true→a=b):∀ {l k:List Value},l.length=k.length→((l.zip k).all fun (x,y)=>f x y)=true→l=k
 | [],[],_,_=>rfl
 |x::l,y::k,hl,h=>by
  simp only [List.zip_cons_cons,List.all_cons,Bool.and_eq_true] at h
  rw [hf _ _ h.1,zip_all_eq hf (by simpa using hl) h.2]
 | [],y::k,hl,_=>by simp at hl
 |x::l,[],hl,_=>by simp at hl
theorem arr_eq {a b:Array Value} (h:a.toList=b.toList):a=b:=by
 obtain⟨a⟩:=a;obtain⟨b⟩:=b;simp only at h;rw [h]
theorem spot_eq {a b:Option Nat} (h:(match a,b with|none,none=>true|some x,some y=>Nat.beq x y|_,_=>false)=true):a=b:=by
 cases a<;>cases b<;>simp only at h<;>first|rfl|(simp at h;done)|(rw [Nat.eq_of_beq_eq_true h])
theorem vEq_eq:∀ (n:Nat) (a b:Value),vEq n a b=true→a=b
 |0,a,b,h=>by simp [vEq] at h
 |n+1,a,b,h=>by
  unfold vEq at h
  split at h
  ·rename_i hn;simp at hn
  ·rename_i hn;simp at h;rw [h]
  ·simp only [Bool.and_eq_true,intEq_eq,beq_iff_eq] at h
   rw [kEq_true h.1,h.2]
  ·rename_i a b _
   rw [bytesEq_eq] at h
   have:a.data.toList=b.data.toList:=by simpa using h
   obtain⟨⟨a⟩⟩:=a;obtain⟨⟨b⟩⟩:=b;simp only at this;rw [this]
  ·rfl
  ·rename_i a b _
   obtain⟨a1,a2,a3⟩:=a;obtain⟨b1,b2,b3⟩:=b
   simp only [Bool.and_eq_true] at h
   obtain⟨⟨h1,h2⟩,h3⟩:=h
   rw [Nat.eq_of_beq_eq_true h1,Nat.eq_of_beq_eq_true h2,spot_eq h3]
  ·simp only [Bool.and_eq_true] at h
   rw [Nat.eq_of_beq_eq_true h.1,Nat.eq_of_beq_eq_true h.2]
  ·rename_i a _ _ b _ _ _
   obtain⟨a1,a2,a3⟩:=a;obtain⟨b1,b2,b3⟩:=b
   simp only [Bool.and_eq_true] at h
   obtain⟨⟨⟨⟨h1,h2⟩,h3⟩,h4⟩,h5⟩:=h
   rw [Nat.eq_of_beq_eq_true h1,Nat.eq_of_beq_eq_true h2,spot_eq h3,Nat.eq_of_beq_eq_true h4,Nat.eq_of_beq_eq_true h5]
  ·rfl
  ·rw [Nat.eq_of_beq_eq_true h]
  ·rfl
  ·rfl
  ·rename_i d _ _ _ _ hn
   obtain rfl:n=d:=by simpa using hn
   simp only [Bool.and_eq_true] at h
   rw [Nat.eq_of_beq_eq_true h.1,vEq_eq n _ _ h.2]
  ·rename_i d _ _ hn
   obtain rfl:n=d:=by simpa using hn
   simp only [Bool.and_eq_true] at h
   rw [arr_eq (zip_all_eq (vEq_eq n) (Nat.eq_of_beq_eq_true h.1) h.2)]
  ·rename_i d _ _ _ _ _ _ hn
   obtain rfl:n=d:=by simpa using hn
   simp only [Bool.and_eq_true] at h
   obtain⟨⟨⟨⟨h1,h2⟩,h3⟩,h4⟩,h5⟩:=h
   rw [Nat.eq_of_beq_eq_true h1,arr_eq (zip_all_eq (vEq_eq n) (Nat.eq_of_beq_eq_true h2) h4),arr_eq (zip_all_eq (vEq_eq n) (Nat.eq_of_beq_eq_true h3) h5)]
  ·rename_i d _ _ hn
   obtain rfl:n=d:=by simpa using hn
   simp only [Bool.and_eq_true] at h
   rw [arr_eq (zip_all_eq (vEq_eq n) (Nat.eq_of_beq_eq_true h.1) h.2)]
  ·simp at h
theorem vEqL_eq:∀ {l k:List Value},vEqL l k=true→l=k
 | [],[],_=>rfl
 |x::l,y::k,h=>by
  simp only [vEqL] at h
  split at h
  ·rename_i h1;rw [vEq_eq _ _ _ h1,vEqL_eq h]
  ·simp at h
 | [],y::k,h=>by simp [vEqL] at h
 |x::l,[],h=>by simp [vEqL] at h
theorem evs_inj {t t':T Value}:∀ {l:List Operand},evs t l=evs t' l→∀ x∈l,ev t x=ev t' x
 | [],_,x,hx=>by simp at hx
 |y::l,h,x,hx=>by
  simp only [evs,List.cons.injEq] at h
  rcases List.mem_cons.1 hx with e|hx
  ·rw [e];exact h.1
  ·exact evs_inj h.2 x hx
section
variable {tb:Tabs} {ops:Array Oper} {t:T Value} {m:Mem}
theorem recheck_some {after:List Edge}:∀ {l:List Hist},recheck tb ops t m after l=true→∀ h∈l,edgeFrom h.i after=true∨checkH tb ops t m h=true
 | [],_,h,hm=>by simp at hm
 |g::l,hk,h,hm=>by
  simp only [recheck] at hk
  split at hk
  ·rename_i he
   rcases List.mem_cons.1 hm with e|hm
   ·rw [e];exact .inl he
   ·exact recheck_some hk h hm
  ·split at hk
   ·rename_i he
    rcases List.mem_cons.1 hm with e|hm
    ·rw [e];exact .inr he
    ·exact recheck_some hk h hm
   ·simp at hk
theorem checkH_some {h:Hist} (hc:checkH tb ops t m h=true):(∀ d,h.o.dst=some d→ev t (.tmp d)=h.v) ∧
  match h.k with
  | .s=>wantedA t ops h.o.guard=false
  | .f _=>wantedA t ops h.o.guard=true∧evs t h.o.op.operands.toList=h.vs
  | .r=>wantedA t ops h.o.guard=true∧evs t h.o.op.operands.toList=h.vs∧(isPure h.o.op=true∨opA h.o.op tb t m=.r h.v):=by
 unfold checkH at hc
 split at hc<;>first|(simp at hc;done)|skip
 rename_i h1
 refine⟨fun d hd=>?_,?_⟩
 ·rw [hd] at h1;exact vEq_eq _ _ _ h1
 ·cases hk:h.k with
  |s=>rw [hk] at hc;simpa using hc
  |f b =>
   rw [hk] at hc
   simp only [Bool.and_eq_true] at hc
   exact⟨hc.1,vEqL_eq hc.2⟩
  |r =>
   rw [hk] at hc
   simp only at hc
   split at hc<;>first|(simp at hc;done)|skip
   rename_i h2
   rw [Bool.and_eq_true] at h2
   refine⟨h2.1,vEqL_eq h2.2,?_⟩
   split at hc
   ·rename_i h3;exact .inl h3
   ·split at hc
    ·rename_i w hw;rw [vEq_eq _ _ _ hc];exact .inr hw
    ·simp at hc
end
section
variable {tb:Tabs} {N G:Nat} {w0:World} {lo:Nat} {ops:Array Oper} {t:T Value} {nt:Nat} {rem:List (Nat × Oper)} {hist:List Hist} {mask:Nat} {m:Mem} {cs:List Frame} {k:List Item}
theorem catch_up (ok:TabsOk tb) (hops:∀ o∈ops.toList,opOk G o=true) (hrem:∀ i o l,rem=(i,o)::l→alone [i] l=true):∀ (sched:List Nat) (E:Env) (w:World) (fr:Frame),MR tb.p N w0 E m w→GlobE G E→DrI tb E m lo m.next ops t nt false rem hist mask sched →
  TRx E (lagX hist sched) t nt fr.tmps→fr.mode=.run→fr.todo=.inRegion ops sched::k →
  ∃ sched' tm w' E',Steps tb.p (lone fr cs w) (lone { fr with tmps:=tm,todo:=.inRegion ops sched'::k } cs w')∧MR tb.p N w0 E' m w'∧MExt lo E m E' m∧DrI tb E' m lo m.next ops t nt false rem hist mask sched'∧TRx E' (lagX hist sched') t nt tm ∧
    (rem=[]→sched'=[])∧∀ i o l,rem=(i,o)::l→∃ rest,sched'=i::rest
 | [],E,w,fr,HM,HG,HD,HS,hm,ht=>by
   refine⟨[],fr.tmps,w,E,?_,HM,.refl _ _ _,HD,HS,fun _=>rfl,fun i o l e=>?_⟩
   ·have:({ fr with tmps:=fr.tmps,todo:=.inRegion ops []::k }:Frame)=fr:=by obtain⟨fn,tmps,todo,defers,mode,kind,ro⟩:=fr;simp only at ht;rw [ht]
    rw [this];exact .refl _ _
   ·have:=HD.remIn (i,o) (by rw [e];simp);simp at this
 |x::s,E,w,fr,HM,HG,HD,HS,hm,ht=>by
  by_cases hx:∀ z∈rem,z.1≠x
  ·obtain⟨tm,w1,E1,h1,h2,h3,h4,h5⟩:=lag_step (cs:=cs) (k:=k) ok HM HG HD HS hx hm ht hops
   obtain⟨s',tm',w2,E2,g1,g2,g3,g4,g5,g6,g7⟩:=catch_up ok hops hrem s E1 w1 { fr with tmps:=tm,todo:=.inRegion ops s::k } h2 (fun g hg=>h3.le _ _ (HG g hg)) h4 h5 hm rfl
   exact⟨s',tm',w2,E2,.head h1 g1,g2,h3.trans g3,g4,g5,g6,g7⟩
  ·refine⟨x::s,fr.tmps,w,E,?_,HM,.refl _ _ _,HD,HS,fun e=>?_,fun i o l e=>?_⟩
   ·have:({ fr with tmps:=fr.tmps,todo:=.inRegion ops (x::s)::k }:Frame)=fr:=by obtain⟨fn,tmps,todo,defers,mode,kind,ro⟩:=fr;simp only at ht;rw [ht]
    rw [this];exact .refl _ _
   ·exact absurd (by rw [e];simp) hx
   ·by_cases e2:i=x
    ·exact⟨s,by rw [e2]⟩
    ·exfalso
     apply hx
     intro z hz
     rw [e] at hz
     rcases List.mem_cons.1 hz with e3|hz
     ·rw [e3];exact e2
     ·exact alone_head HD.valid (hrem i o l e) (fun y hy=>by
       rcases List.mem_cons.1 hy with e4|hy
       ·rw [e4];exact HD.remIn (i,o) (by rw [e];simp)
       ·simp at hy) (fun z hz=>⟨HD.remIn z (by rw [e];exact List.mem_cons_of_mem _ hz),HD.remOps z (by rw [e];exact List.mem_cons_of_mem _ hz)⟩) z hz
theorem DrI.write {E:Env} {i:Nat} {o:Oper} {l:List (Nat × Oper)} {rest:List Nat} {hi hi':Nat} {t':T Value} {v:Value} (H:DrI tb E m lo hi ops t nt true ((i,o)::l) hist mask (i::rest)) (hp:putT t nt o.dst v=some t') (hc:recheck tb ops t' m o.after.toList hist=true) (hh:hi≤hi') :
  DrI tb E m lo hi' ops t' nt false l hist mask rest:=by
 have hnd:=H.remNd
 rw [List.map_cons,List.nodup_cons] at hnd
 have hoi:ops.toList[i]? = some o:=H.remOps (i,o) (by simp)
 have hck:∀ h∈hist,h.i∈rest→checkH tb ops t' m h=true:=by
  intro h hm hs
  rcases recheck_some hc h hm with he|he
  ·obtain⟨e,h1,h2,h3⟩:=edgeFrom_some he
   exact absurd (by rw [h2];exact List.mem_cons_of_mem _ hs) (H.valid.2.1 o hoi e h1 h3)
  ·exact he
 refine⟨H.valid.2.2,fun z hz=>H.remOps z (List.mem_cons_of_mem _ hz),fun z hz=>?_,hnd.2,H.histOps,H.histNd,fun h hm z hz=>H.apart h hm z (List.mem_cons_of_mem _ hz),fun j hj=>?_,fun h hm hs=>?_,fun _ h hm hs=>?_,H.deps,H.names,H.ids,fun h hm b hk=>?_,H.own⟩
 ·rcases List.mem_cons.1 (H.remIn z (List.mem_cons_of_mem _ hz)) with e|e
  ·exact absurd (by rw [← e];exact List.mem_map.2 ⟨z,hz,rfl⟩) hnd.1
  ·exact e
 ·rcases H.all j (List.mem_cons_of_mem _ hj) with ⟨z,hz,e⟩|h
  ·rcases List.mem_cons.1 hz with e2|hz
   ·rw [e2] at e;simp only at e;subst e;exact absurd hj H.valid.1
   ·exact .inl ⟨z,hz,e⟩
  ·exact .inr h
 ·obtain⟨c1,c2⟩:=checkH_some (hck h hm hs)
  obtain⟨f1,f2⟩:=H.fact h hm (List.mem_cons_of_mem _ hs)
  refine⟨fun d hd=>⟨c1 d hd,(f1 d hd).2⟩,?_⟩
  cases hk:h.k with
  |s=>rw [hk] at c2 f2;exact⟨c2,f2.2⟩
  |r =>
   rw [hk] at c2 f2
   have hev:=evs_inj (f2.2.1.trans c2.2.1.symm)
   exact⟨c2.1,c2.2.1,fun hp m=>by rw [← opA_congr hev];exact f2.2.2 hp m⟩
  |f b =>
   rw [hk] at c2 f2
   obtain⟨a1,a2,a3,a4,a5,ob,mk,a6,a7,a8⟩:=f2
   have hev:=evs_inj (a2.trans c2.2.symm)
   exact⟨c2.1,c2.2,a3,by omega,a5,ob,mk,fun m=>by rw [← opA_congr hev];exact a6 m,a7,a8⟩
 ·obtain⟨c1,c2⟩:=checkH_some (hck h hm hs)
  obtain⟨f1,f2⟩:=H.fact h hm (List.mem_cons_of_mem _ hs)
  unfold HNow
  cases hk:h.k with
  |r =>
   rw [hk] at c2 f2
   simp only
   rcases c2.2.2 with hp|hp
   ·have hev:=evs_inj (f2.2.1.trans c2.2.1.symm)
    rw [← opA_congr hev];exact f2.2.2 hp m
   ·exact hp
  |_=>trivial
 ·have:=H.idlt h hm b hk;omega
theorem DrI.wait {E E':Env} {m':Mem} {hi:Nat} {sched:List Nat} {b:Bool} (H:DrI tb E m lo hi ops t nt b rem hist mask sched) (hx:MExt hi E m E' m'):DrI tb E' m' lo hi ops t nt true rem hist mask sched :=
 ⟨H.valid,H.remOps,H.remIn,H.remNd,H.histOps,H.histNd,H.apart,H.all,fun h hm hs=>by
  obtain⟨f1,f2⟩:=H.fact h hm hs
  refine⟨f1,?_⟩
  cases hk:h.k with
  |s=>rw [hk] at f2;exact f2
  |r=>rw [hk] at f2;exact f2
  |f b =>
   rw [hk] at f2
   obtain⟨a1,a2,a3,a4,a5,ob,mk,a6,a7,a8⟩:=f2
   obtain⟨e1,e2⟩:=hx.pend b a4 a5
   exact⟨a1,a2,a3,a4,e1,ob,mk,a6,a7,by rw [e2];exact a8⟩,by simp,H.deps,H.names,H.ids,H.idlt,H.own⟩
theorem lag_write {E E':Env} {i:Nat} {o:Oper} {l:List (Nat × Oper)} {rest:List Nat} {hi:Nat} {t':T Value} {v v':Value} {b:Bool} {tm:Array Value} (H:DrI tb E m lo hi ops t nt b ((i,o)::l) hist mask (i::rest)) (hp:putT t nt o.dst v=some t') (hv:VR E' v v') (hle:Env.le E E') (HS:TRx E (lagX hist (i::rest)) t nt tm) :
  TRx E' (lagX hist rest) t' nt (match o.dst with|some d=>tm.setIfInBounds d v'|none=>tm):=by
 have hold:∀ y,¬ lagX hist rest y→VR E' (ev t (.tmp y)) (tm.getD y undef):=by
  intro y hy
  refine (HS.2 y ?_).mono hle
  rintro⟨g,hg,gi,gd⟩
  rcases List.mem_cons.1 gi with gi|gi
  ·exact H.apart g hg (i,o) (by simp) gi
  ·exact hy ⟨g,hg,gi,gd⟩
 cases hd:o.dst with
 |none=>rw [hd] at hp;rw [putT_none hp];exact⟨HS.1,hold⟩
 |some d =>
  rw [hd] at hp
  obtain⟨h1,h2⟩:=putT_some hp
  refine⟨by simp [HS.1],fun y hy=>?_⟩
  rw [h2,ev_set]
  simp only [Array.getD_eq_getD_getElem?,Array.getElem?_setIfInBounds]
  by_cases e:d=y
  ·subst e
   rw [if_pos rfl,if_pos rfl,if_pos (by rw [HS.1];exact h1)]
   exact hv
  ·rw [if_neg (fun h=>e h.symm),if_neg e]
   have:=hold y hy
   rw [Array.getD_eq_getD_getElem?] at this
   exact this
end
end Go.Ev

namespace Go.Ev
open Go.RowKit
theorem codeOk_label {G:Nat}:∀ {c:Code} {l:Nat} {r:Code},codeOk G c=true→findLabel c l=some r→codeOk G r=true
 | .seq a b,l,r,h,hf=>by
   simp only [codeOk,Bool.and_eq_true] at h
   simp only [findLabel] at hf
   split at hf
   ·rename_i q hq
    simp only [Option.some.injEq] at hf;subst hf
    simp only [codeOk,Bool.and_eq_true]
    exact⟨codeOk_label h.1 hq,h.2⟩
   ·exact codeOk_label h.2 hf
 | .label l',l,r,h,hf=>by
   simp only [findLabel] at hf
   split at hf
   ·simp only [Option.some.injEq] at hf;subst hf;rfl
   ·simp at hf
 | .skip,_,_,_,hf=>by simp [findLabel] at hf
 | .region _ _ _,_,_,_,hf=>by simp [findLabel] at hf
 | .cond _ _ _,_,_,_,hf=>by simp [findLabel] at hf
 | .block _ _,_,_,_,hf=>by simp [findLabel] at hf
 | .loop _,_,_,_,hf=>by simp [findLabel] at hf
 | .rangeFunc _ _ _ _,_,_,_,hf=>by simp [findLabel] at hf
 | .exit _,_,_,_,hf=>by simp [findLabel] at hf
 | .scope _,_,_,_,hf=>by simp [findLabel] at hf
 | .goto _,_,_,_,hf=>by simp [findLabel] at hf
 | .ret,_,_,_,hf=>by simp [findLabel] at hf
 | .refuse _,_,_,_,hf=>by simp [findLabel] at hf
inductive ItR (E:Env) (G:Nat):AItem→Item→Prop where
 |code {c:Code} (h:codeOk G c=true):ItR E G (.code c) (.code c)
 |inBlock (id:Nat):ItR E G (.inBlock id) (.inBlock id)
 |inLoop {b:Code} (h:codeOk G b=true):ItR E G (.inLoop b) (.inLoop b)
 |inScope {b:Code} (h:codeOk G b=true):ItR E G (.inScope b) (.inScope b)
 |inRangeFunc {l:Nat} {i:Info} (h:E l=some i):ItR E G (.inRangeFunc l) (.inRangeFunc i.blk)
 |endRangeFunc {l:Nat} {i:Info} (h:E l=some i):ItR E G (.endRangeFunc l) (.endRangeFunc i.blk)
 |beginRound:ItR E G .beginRound .beginRound
inductive ItsR (E:Env) (G:Nat):List AItem→List Item→Prop where
 |nil:ItsR E G [] []
 |cons {x:AItem} {x':Item} {l:List AItem} {l':List Item} (h:ItR E G x x') (t:ItsR E G l l'):ItsR E G (x::l) (x'::l')
theorem ItR.mono {E E':Env} {G:Nat} (hE:Env.le E E') {x:AItem} {x':Item} (h:ItR E G x x'):ItR E' G x x':=by
 cases h with
 |code h=>exact .code h
 |inBlock id=>exact .inBlock id
 |inLoop h=>exact .inLoop h
 |inScope h=>exact .inScope h
 |inRangeFunc h=>exact .inRangeFunc (hE _ _ h)
 |endRangeFunc h=>exact .endRangeFunc (hE _ _ h)
 |beginRound=>exact .beginRound
theorem ItsR.mono {E E':Env} {G:Nat} (hE:Env.le E E') {l:List AItem} {l':List Item} (h:ItsR E G l l'):ItsR E' G l l':=by
 induction h with
 |nil=>exact .nil
 |cons h _ ih=>exact .cons (h.mono hE) ih
inductive TodoR (tb:Tabs) (E:Env) (m:Mem) (lo hi G:Nat) (wait:Bool) (t:T Value) (nt:Nat):List AItem→List Item→(Nat→Prop)→Prop where
 |plain {k:List AItem} {k':List Item} (h:ItsR E G k k'):TodoR tb E m lo hi G wait t nt k k' (fun _=>False)
 |ops {ops:Array Oper} {n:Nat} {k:List AItem} {k':List Item} (hk:ItsR E G k k') (hok:∀ o∈ops.toList,opOk G o=true) :
   TodoR tb E m lo hi G wait t nt (.ops ops (ops.toList.drop n)::k) (.inRegion ops (List.range' n (ops.size-n))::k') (fun _=>False)
 |dr {ops:Array Oper} {rem:List (Nat × Oper)} {hist:List Hist} {mask:Nat} {sched:List Nat} {k:List AItem} {k':List Item} (hk:ItsR E G k k') (hok:∀ o∈ops.toList,opOk G o=true)
   (hd:DrI tb E m lo hi ops t nt wait rem hist mask sched) (hw:wait=true→∃ i o l rest,rem=(i,o)::l∧sched=i::rest) :
   TodoR tb E m lo hi G wait t nt (.dr ops rem hist mask::k) (.inRegion ops sched::k') (lagX hist sched)
inductive PeR (E:Env):List PanicEntry→List PanicEntry→Prop where
 |nil:PeR E [] []
 |cons {p p':PanicEntry} {l l':List PanicEntry} (hv:VR E p.v p'.v) (h1:p.recovered=p'.recovered) (h2:p.goexit=p'.goexit) (t:PeR E l l'):PeR E (p::l) (p'::l')
theorem PeR.mono {E E':Env} (hE:Env.le E E') {l l':List PanicEntry} (h:PeR E l l'):PeR E' l l':=by
 induction h with
 |nil=>exact .nil
 |cons hv h1 h2 _ ih=>exact .cons (hv.mono hE) h1 h2 ih
theorem PeR.append {E:Env} {a a' b b':List PanicEntry} (h:PeR E a a') (k:PeR E b b'):PeR E (a++b) (a'++b'):=by
 induction h with
 |nil=>exact k
 |cons hv h1 h2 _ ih=>exact .cons hv h1 h2 ih
inductive RoR (E:Env):Option Nat→Option Nat→Prop where
 |none:RoR E none none
 |some {l:Nat} {i:Info} (h:E l=some i):RoR E (some l) (some i.blk)
theorem RoR.mono {E E':Env} (hE:Env.le E E') {a b:Option Nat} (h:RoR E a b):RoR E' a b:=by
 cases h with
 |none=>exact .none
 |some h=>exact .some (hE _ _ h)
inductive FR (tb:Tabs) (E:Env) (m:Mem) (lo hi G:Nat) (wait:Bool):AFrame→Frame→Prop where
 |run {fn:FuncId} {t:T Value} {nt:Nat} {k:List AItem} {ds:List Deferred} {kind:CallKind} {ro:Option Nat} {tm:Array Value} {k':List Item} {ds':List Deferred} {ro':Option Nat} {X:Nat→Prop}
   (hf:(tb.p.funcs[fn]?).isSome=true) (ht:TodoR tb E m lo hi G wait t nt k k' X) (hs:TRx E X t nt tm) (hd:DefsR E ds ds') (hr:RoR E ro ro') (hk:kind=.normal∨kind=.deferred) :
   FR tb E m lo hi G wait ⟨fn,t,nt,k,ds,.run,kind,ro⟩ { fn,tmps:=tm,todo:=k',defers:=ds',mode:=.run,kind,roundOf:=ro' }
 |ret {fn:FuncId} {t:T Value} {nt:Nat} {k:List AItem} {ds:List Deferred} {kind:CallKind} {ro:Option Nat} {tm:Array Value} {k':List Item} {ds':List Deferred} {ro':Option Nat}
   (hf:(tb.p.funcs[fn]?).isSome=true) (hs:TR E t nt tm) (hd:DefsR E ds ds') (hr:RoR E ro ro') (hk:kind=.normal∨kind=.deferred) :
   FR tb E m lo hi G wait ⟨fn,t,nt,k,ds,.returning,kind,ro⟩ { fn,tmps:=tm,todo:=k',defers:=ds',mode:=.returning,kind,roundOf:=ro' }
 |pan {fn:FuncId} {t:T Value} {nt:Nat} {k:List AItem} {ds:List Deferred} {kind:CallKind} {ro:Option Nat} {tm:Array Value} {k':List Item} {ds':List Deferred} {ro':Option Nat} {ch ch':List PanicEntry} {X:Nat→Prop}
   (hf:(tb.p.funcs[fn]?).isSome=true) (hs:TRx E X t nt tm) (hX:isDr k=true∨∀ x,¬ X x) (hp:PeR E ch ch') (hd:DefsR E ds ds') (hr:RoR E ro ro') (hk:kind=.normal∨kind=.deferred) :
   FR tb E m lo hi G wait ⟨fn,t,nt,k,ds,.panicking ch,kind,ro⟩ { fn,tmps:=tm,todo:=k',defers:=ds',mode:=.panicking ch',kind,roundOf:=ro' }
theorem FR.wait {tb:Tabs} {E E':Env} {m m':Mem} {lo hi G:Nat} {fr:AFrame} {fr':Frame} (h:FR tb E m lo hi G true fr fr') (hx:MExt hi E m E' m'):FR tb E' m' lo hi G true fr fr':=by
 cases h with
 |run hf ht hs hd hr hk =>
  refine .run hf ?_ (hs.mono hx.le) (hd.mono hx.le) (hr.mono hx.le) hk
  cases ht with
  |plain h=>exact .plain (h.mono hx.le)
  |ops hk hok=>exact .ops (hk.mono hx.le) hok
  |dr hk hok hd hw=>exact .dr (hk.mono hx.le) hok (hd.wait hx) hw
 |ret hf hs hd hr hk=>exact .ret hf (hs.mono hx.le) (hd.mono hx.le) (hr.mono hx.le) hk
 |pan hf hs hX hp hd hr hk=>exact .pan hf (hs.mono hx.le) hX (hp.mono hx.le) (hd.mono hx.le) (hr.mono hx.le) hk
inductive CsR (tb:Tabs) (E:Env) (m:Mem) (G:Nat) (base:List Frame):Nat→List AFrame→List Frame→Prop where
 |nil (hi:Nat):CsR tb E m G base hi [] base
 |cons {hi lo:Nat} {fr:AFrame} {fr':Frame} {cs:List AFrame} {cs':List Frame} (h:FR tb E m lo hi G true fr fr') (t:CsR tb E m G base lo cs cs') (hl:lo≤hi):CsR tb E m G base hi (fr::cs) (fr'::cs')
theorem CsR.ext {tb:Tabs} {E E':Env} {m m':Mem} {G:Nat} {base:List Frame} {hi:Nat} {cs:List AFrame} {cs':List Frame} (h:CsR tb E m G base hi cs cs') (hx:MExt hi E m E' m'):CsR tb E' m' G base hi cs cs':=by
 induction h with
 |nil hi=>exact .nil hi
 |cons h _ hl ih=>exact .cons (h.wait hx) (ih (hx.lower hl)) hl
structure StR (tb:Tabs) (N G:Nat) (w0:World) (base:List Frame) (am:AM) (fr':Frame) (cs':List Frame) (w:World) (E:Env) (lo:Nat):Prop where
 mem:MR tb.p N w0 E am.mem w
 glob:GlobE G E
 top:FR tb E am.mem lo am.mem.next G false am.fr fr'
 callers:CsR tb E am.mem G base lo am.callers cs'
 lo:lo≤am.mem.next
end Go.Ev

namespace Go.Ev
open Go.RowKit
def setSlot (dst:Option Tmp) (tm:Array Value) (v:Value):Array Value:=match dst with|some d=>tm.setIfInBounds d v|none=>tm
section
variable {tb:Tabs} {E:Env} {m:Mem} {lo hi hi' G:Nat} {w:World}
theorem slot_put {X:Nat→Prop} {t t':T Value} {nt:Nat} {tm:Array Value} {dst:Option Tmp} {v v':Value} (HS:TRx E X t nt tm) (hp:putT t nt dst v=some t') (hv:VR E v v'):TRx E X t' nt (setSlot dst tm v'):=by
 cases dst with
 |none=>rw [putT_none hp];exact HS
 |some d =>
  obtain⟨h1,h2⟩:=putT_some hp
  refine⟨by simp [setSlot,HS.1],fun y hy=>?_⟩
  rw [h2,ev_set]
  simp only [setSlot,Array.getD_eq_getD_getElem?,Array.getElem?_setIfInBounds]
  by_cases e:d=y
  ·subst e
   rw [if_pos rfl,if_pos rfl,if_pos (by rw [HS.1];exact h1)]
   exact hv
  ·rw [if_neg (fun h=>e h.symm),if_neg e]
   have:=HS.2 y hy
   rw [Array.getD_eq_getD_getElem?] at this
   exact this
theorem drop_cons {α : Type} {l:List α} {n:Nat} {x : α} {r:List α} (h:l.drop n=x::r):l[n]? = some x∧r=l.drop (n+1)∧n<l.length:=by
 have h1:(l.drop n)[0]? = some x:=by rw [h];rfl
 rw [List.getElem?_drop,Nat.add_zero] at h1
 refine⟨h1,?_,(List.getElem?_eq_some_iff.1 h1).1⟩
 have:=congrArg List.tail h
 simp only [List.tail_cons,List.tail_drop] at this
 exact this.symm
theorem FR.finish {fr fr1:AFrame} {fr':Frame} {v v':Value} (h:FR tb E m lo hi G true fr fr') (hh:hi≤hi') (hv:VR E v v') (hf:finishA tb fr v m=some fr1):FR tb E m lo hi' G false fr1 (fr'.finish v'):=by
 cases h with
 |ret=>simp [finishA] at hf
 |pan=>simp [finishA] at hf
 |run hfn ht hs hd hr hk =>
  cases ht with
  |plain hks =>
   cases hks with
   |nil=>simp [finishA] at hf
   |cons hx hks =>
    cases hx<;>simp only [finishA] at hf<;>first|(simp at hf;done)|skip
    ·rename_i hE
     simp only [Option.some.injEq] at hf;subst hf
     exact .run hfn (.plain (.cons (.endRangeFunc hE) hks)) hs hd hr hk
    ·simp only [Option.some.injEq] at hf;subst hf
     exact .run hfn (.plain hks) hs hd hr hk
  | @ops ops n k k' hks hok =>
    simp only [finishA] at hf
    split at hf<;>first|(simp at hf;done)|skip
    rename_i o l hl
    split at hf<;>first|(simp at hf;done)|skip
    rename_i t' hp
    simp only [Option.some.injEq] at hf;subst hf
    obtain⟨h1,h2,h3⟩:=drop_cons hl
    have h3':n<ops.size:=by simpa using h3
    have hr':List.range' n (ops.size-n)=n::List.range' (n+1) (ops.size-(n+1)):=by
     obtain⟨q,hq⟩:∃ q,ops.size-n=q+1:=⟨ops.size-n-1,by omega⟩
     rw [hq,List.range'_succ,show ops.size-(n+1)=q from by omega]
    have ho:ops[n]? = some o:=by simpa using h1
    rw [hr',finish_eq (x:=n) (sched:=List.range' (n+1) (ops.size-(n+1))) (k:=k') (o:=o) rfl ho,h2]
    exact .run hfn (.ops hks hok) (slot_put hs hp hv) hd hr hk
  | @dr ops rem hist mask sched k k' hks hok hdr hw =>
    obtain⟨i,o,l,rest,rfl,rfl⟩:=hw rfl
    simp only [finishA] at hf
    split at hf<;>first|(simp at hf;done)|skip
    rename_i t' hp
    split at hf<;>first|(simp at hf;done)|skip
    rename_i hrc
    simp only [Option.some.injEq] at hf;subst hf
    have hol:=hdr.remOps (i,o) (by simp)
    have ho:ops[i]? = some o:=by simpa using hol
    rw [finish_eq (x:=i) (sched:=rest) (k:=k') (o:=o) rfl ho]
    exact .run hfn (.dr hks hok (hdr.write hp hrc hh) (by simp)) (lag_write hdr hp hv (.refl E) hs) hd hr hk
end
end Go.Ev

namespace Go.Ev
section
variable {P:Program} {fn:FuncId} {tmps:Array Value} {k:List Item} {ds:List Deferred} {kind:CallKind} {ro:Option Nat} {cs:List Frame} {w w':World}
def rf (fn:FuncId) (tmps:Array Value) (ds:List Deferred) (kind:CallKind) (ro:Option Nat) (k:List Item):Frame := { fn,tmps,todo:=k,defers:=ds,mode:=.run,kind,roundOf:=ro }
theorem su_skip:step P (lone (rf fn tmps ds kind ro (.code .skip::k)) cs w)=.next (lone (rf fn tmps ds kind ro k) cs w):=step_lone_go (by simp [stepG,stepG.exec,rf])
theorem su_label {l:Nat}:step P (lone (rf fn tmps ds kind ro (.code (.label l)::k)) cs w)=.next (lone (rf fn tmps ds kind ro k) cs w):=step_lone_go (by simp [stepG,stepG.exec,rf])
theorem su_inBlock {i:Nat}:step P (lone (rf fn tmps ds kind ro (.inBlock i::k)) cs w)=.next (lone (rf fn tmps ds kind ro k) cs w):=step_lone_go (by simp [stepG,stepG.exec,rf])
theorem su_inScope {b:Code}:step P (lone (rf fn tmps ds kind ro (.inScope b::k)) cs w)=.next (lone (rf fn tmps ds kind ro k) cs w):=step_lone_go (by simp [stepG,stepG.exec,rf])
theorem su_seq {a b:Code}:step P (lone (rf fn tmps ds kind ro (.code (.seq a b)::k)) cs w)=.next (lone (rf fn tmps ds kind ro (.code a::.code b::k)) cs w):=step_lone_go (by simp [stepG,stepG.exec,rf])
theorem su_cond {c:Operand} {a b:Code} {q:Bool} (h:(rf fn tmps ds kind ro (.code (.cond c a b)::k)).eval c=.bool q):step P (lone (rf fn tmps ds kind ro (.code (.cond c a b)::k)) cs w)=.next (lone (rf fn tmps ds kind ro (.code (if q then a else b)::k)) cs w) :=
 step_lone_go (by simp only [rf] at h;simp [stepG,stepG.exec,rf,h])
theorem su_block {i:Nat} {b:Code}:step P (lone (rf fn tmps ds kind ro (.code (.block i b)::k)) cs w)=.next (lone (rf fn tmps ds kind ro (.code b::.inBlock i::k)) cs w):=step_lone_go (by simp [stepG,stepG.exec,rf])
theorem su_loop {b:Code}:step P (lone (rf fn tmps ds kind ro (.code (.loop b)::k)) cs w)=.next (lone (rf fn tmps ds kind ro (.code b::.inLoop b::k)) cs w):=step_lone_go (by simp [stepG,stepG.exec,rf])
theorem su_inLoop {b:Code}:step P (lone (rf fn tmps ds kind ro (.inLoop b::k)) cs w)=.next (lone (rf fn tmps ds kind ro (.code b::.inLoop b::k)) cs w):=step_lone_go (by simp [stepG,stepG.exec,rf])
theorem su_scope {b:Code}:step P (lone (rf fn tmps ds kind ro (.code (.scope b)::k)) cs w)=.next (lone (rf fn tmps ds kind ro (.code b::.inScope b::k)) cs w):=step_lone_go (by simp [stepG,stepG.exec,rf])
theorem su_exit {i:Nat} {k2:List Item} (h:exitTo i k=some k2):step P (lone (rf fn tmps ds kind ro (.code (.exit i)::k)) cs w)=.next (lone (rf fn tmps ds kind ro k2) cs w):=step_lone_go (by simp [stepG,stepG.exec,rf,h])
theorem su_goto {i:Nat} {k2:List Item} (h:gotoIn i k=some k2):step P (lone (rf fn tmps ds kind ro (.code (.goto i)::k)) cs w)=.next (lone (rf fn tmps ds kind ro k2) cs w):=step_lone_go (by simp [stepG,stepG.exec,rf,h])
theorem su_region {i:Nat} {ops:Array Oper}:step P (lone (rf fn tmps ds kind ro (.code (.region i ops false)::k)) cs w)=.next (lone (rf fn tmps ds kind ro (.inRegion ops (List.range ops.size)::k)) cs w):=step_lone_go (by simp [stepG,stepG.exec,rf])
theorem su_region_draw {i:Nat} {ops:Array Oper}:step P (lone (rf fn tmps ds kind ro (.code (.region i ops true)::k)) cs w) =
  .next (lone (rf fn tmps ds kind ro (.inRegion ops (Region.schedule (P.follows .mixedOrders) ops (w.tape w.drawn (.order fn i)))::k)) cs { w with drawn:=w.drawn+1 }) :=
 step_lone_go (by simp [stepG,stepG.exec,rf,choose,Sem.run,Question.forced,Question.cut])
theorem su_end:step P (lone (rf fn tmps ds kind none []) cs w)=.next (lone { rf fn tmps ds kind none [] with mode:=.returning } cs w):=step_lone_go (by simp [stepG,stepG.exec,rf])
theorem su_ret:step P (lone (rf fn tmps ds kind none (.code .ret::k)) cs w)=.next (lone { rf fn tmps ds kind none (.code .ret::k) with mode:=.returning } cs w):=step_lone_go (by simp [stepG,stepG.exec,rf])
end
end Go.Ev

namespace Go.Ev
open Go.RowKit
section
variable {E:Env} {G:Nat}
theorem exitTo_rel {id:Nat}:∀ {k:List AItem} {k':List Item},ItsR E G k k' →
  (∀ k2,exitToA id k=some k2→∃ k2',exitTo id k'=some k2'∧ItsR E G k2 k2')∧(exitToA id k=none→exitTo id k'=none)
 |_,_,.nil=>⟨fun k2 h=>by simp [exitToA] at h,fun _=>rfl⟩
 |_,_,.cons h t=>by
  obtain⟨i1,i2⟩:=exitTo_rel (id:=id) t
  cases h with
  |inBlock id' =>
   simp only [exitToA,exitTo]
   by_cases e:id'=id
   ·subst e
    simp only [Nat.beq_refl,beq_self_eq_true,if_true]
    exact⟨fun k2 h=>by simp only [Option.some.injEq] at h;subst h;exact⟨_,rfl,t⟩,by simp⟩
   ·rw [beqF e]
    simp only
    rw [if_neg (by simpa using e)]
    exact⟨i1,i2⟩
  |_=>exact⟨i1,i2⟩
theorem gotoIn_rel {l:Nat}:∀ {k:List AItem} {k':List Item},ItsR E G k k' →
  (∀ k2,gotoInA l k=some k2→∃ k2',gotoIn l k'=some k2'∧ItsR E G k2 k2')∧(gotoInA l k=none→gotoIn l k'=none)
 |_,_,.nil=>⟨fun k2 h=>by simp [gotoInA] at h,fun _=>rfl⟩
 |_,_,.cons h t=>by
  obtain⟨i1,i2⟩:=gotoIn_rel (l:=l) t
  cases h with
  | @inScope b hb =>
    simp only [gotoInA,gotoIn]
    cases hf:findLabel b l with
    |none=>exact⟨i1,i2⟩
    |some r =>
     simp only
     exact⟨fun k2 h=>by simp only [Option.some.injEq] at h;subst h;exact⟨_,rfl,.cons (.code (codeOk_label hb hf)) (.cons (.inScope hb) t)⟩,by simp⟩
  |_=>exact⟨i1,i2⟩
end
section
variable {tb:Tabs} {E:Env} {m:Mem} {lo hi G:Nat} {wait:Bool} {fn:FuncId} {t:T Value} {nt:Nat} {k:List AItem} {ds:List Deferred} {kind:CallKind} {ro:Option Nat} {fr':Frame}
theorem FR.run_inv (h:FR tb E m lo hi G wait ⟨fn,t,nt,k,ds,.run,kind,ro⟩ fr'):∃ tm k' ds' ro' X,fr'=rf fn tm ds' kind ro' k'∧TodoR tb E m lo hi G wait t nt k k' X∧TRx E X t nt tm∧DefsR E ds ds'∧RoR E ro ro'∧(kind=.normal∨kind=.deferred)∧(tb.p.funcs[fn]?).isSome=true:=by
 cases h with
 |run hf ht hs hd hr hk=>exact⟨_,_,_,_,_,rfl,ht,hs,hd,hr,hk,hf⟩
theorem TodoR.item_inv {x:AItem} {k':List Item} {X:Nat→Prop} (h:TodoR tb E m lo hi G wait t nt (x::k) k' X) (h1:∀ a b,x≠.ops a b) (h2:∀ a b c d,x≠.dr a b c d):∃ x' k1,k'=x'::k1∧ItR E G x x'∧ItsR E G k k1∧X=fun _=>False:=by
 cases h with
 |plain h=>cases h with|cons h t=>exact⟨_,_,rfl,h,t,rfl⟩
 |ops hk hok=>exact absurd rfl (h1 _ _)
 |dr hk hok hd hw=>exact absurd rfl (h2 _ _ _ _)
theorem FR.plain {tm:Array Value} {k':List Item} {ds':List Deferred} {ro':Option Nat} (hk:ItsR E G k k') (hs:TR E t nt tm) (hd:DefsR E ds ds') (hr:RoR E ro ro') (hki:kind=.normal∨kind=.deferred) (hf:(tb.p.funcs[fn]?).isSome=true) :
  FR tb E m lo hi G wait ⟨fn,t,nt,k,ds,.run,kind,ro⟩ (rf fn tm ds' kind ro' k'):=.run hf (.plain hk) hs hd hr hki
end
end Go.Ev

namespace Go.Ev
open Go.RowKit
theorem zip_get {ops:List Oper} {x:Nat × Oper}:x∈(List.range ops.length).zip ops↔ops[x.1]? = some x.2:=by
 constructor
 ·intro h
  obtain⟨j,hj⟩:=List.mem_iff_getElem?.1 h
  rw [List.getElem?_zip_eq_some] at hj
  obtain⟨h1,h2⟩:=hj
  have hlt:=(List.getElem?_eq_some_iff.1 h2).1
  rw [List.getElem?_range hlt] at h1
  rw [← Option.some.inj h1];exact h2
 ·intro h
  have hlt:=(List.getElem?_eq_some_iff.1 h).1
  refine List.mem_iff_getElem?.2 ⟨x.1,?_⟩
  rw [List.getElem?_zip_eq_some]
  exact⟨List.getElem?_range hlt,h⟩
theorem DrI.start {tb:Tabs} {E:Env} {m:Mem} {lo hi:Nat} {ops:Array Oper} {t:T Value} {nt:Nat} {sched:List Nat} (h1:Valid ops sched) (h2:∀ i,i∈sched↔i<ops.size) :
  DrI tb E m lo hi ops t nt false ((List.range ops.toList.length).zip ops.toList) [] 0 sched:=by
 refine⟨h1,fun x hx=>zip_get.1 hx,fun x hx=>?_,?_,by simp,by simp,by simp,fun k hk=>?_,by simp,by simp,by simp,by simp,by simp,by simp,by simp⟩
 ·have:=(List.getElem?_eq_some_iff.1 (zip_get.1 hx)).1
  exact (h2 x.1).2 (by simpa using this)
 ·rw [List.map_fst_zip (by simp)]
  exact List.nodup_range
 ·have hlt:=(h2 k).1 hk
  exact .inl ⟨(k,ops[k]),zip_get.2 (by simp [hlt]),rfl⟩
def StepOut (tb:Tabs) (N G:Nat) (w0:World) (base:List Frame) (am:AM) (fr':Frame) (cs':List Frame) (w:World):Prop :=
 ∃ fr2 cs2 w2 E2 lo2,Steps tb.p (lone fr' cs' w) (lone fr2 cs2 w2)∧StR tb N G w0 base am fr2 cs2 w2 E2 lo2
section
variable {tb:Tabs} {N G:Nat} {w0:World} {base:List Frame} {E:Env} {m:Mem} {lo:Nat} {fn:FuncId} {t:T Value} {nt:Nat} {k:List AItem} {ds:List Deferred} {kind:CallKind} {ro:Option Nat} {cs:List AFrame} {fr':Frame} {cs':List Frame} {w:World} {am:AM}
theorem codeA_ok {c:Code} (S:StR tb N G w0 base ⟨⟨fn,t,nt,.code c::k,ds,.run,kind,ro⟩,cs,m⟩ fr' cs' w E lo) (h:codeA tb c k fn t nt ds kind ro cs m=some am)
  (hleave:∀ j,leaveA tb (frm fn t nt k ds kind ro) cs m (some j)=some am→(c=.ret∧j=.ret)∨(∃ id,c=.exit id∧j=.exit id∧exitToA id k=none)∨(∃ l,c=.goto l∧j=.goto l∧gotoInA l k=none)→StepOut tb N G w0 base am fr' cs' w)
  (hrf:∀ f ps a b,c=.rangeFunc f ps a b→StepOut tb N G w0 base am fr' cs' w):StepOut tb N G w0 base am fr' cs' w:=by
 obtain⟨tm,k',ds',ro',X,rfl,ht,hs,hd,hr,hki,hf⟩:=S.top.run_inv
 obtain⟨x',k1,rfl,hx,hk,rfl⟩:=ht.item_inv (by simp) (by simp)
 cases hx with
 |code hc =>
 have stay:∀ {k2:List AItem} {k2':List Item},some (⟨⟨fn,t,nt,k2,ds,.run,kind,ro⟩,cs,m⟩:AM)=some am→ItsR E G k2 k2'→step tb.p (lone (rf fn tm ds' kind ro' (.code c::k1)) cs' w)=.next (lone (rf fn tm ds' kind ro' k2') cs' w)→StepOut tb N G w0 base am (rf fn tm ds' kind ro' (.code c::k1)) cs' w:=by
  intro k2 k2' he hk2 hst
  obtain rfl:=Option.some.inj he
  exact⟨_,_,_,E,lo,.one hst,⟨S.mem,S.glob,FR.plain hk2 hs hd hr hki hf,S.callers,S.lo⟩⟩
 cases c with
 |skip=>exact stay h hk su_skip
 |label l=>exact stay h hk su_label
 |seq a b =>
  simp only [codeOk,Bool.and_eq_true] at hc
  exact stay h (.cons (.code hc.1) (.cons (.code hc.2) hk)) su_seq
 |cond c a b =>
  simp only [codeOk,Bool.and_eq_true] at hc
  simp only [codeA,condA] at h
  have hev:=operand_rel (fr:=rf fn tm ds' kind ro' (.code (.cond c a b)::k1)) S.glob hs hc.1.1 (by simp)
  split at h<;>first|(simp at h;done)|skip
  ·rename_i he;rw [he] at hev
   have hb:(rf fn tm ds' kind ro' (.code (.cond c a b)::k1)).eval c=.bool true:=by
    generalize (rf fn tm ds' kind ro' (.code (.cond c a b)::k1)).eval c=q at hev
    cases hev;rfl
   exact stay h (.cons (.code hc.1.2) hk) (su_cond hb)
  ·rename_i he;rw [he] at hev
   have hb:(rf fn tm ds' kind ro' (.code (.cond c a b)::k1)).eval c=.bool false:=by
    generalize (rf fn tm ds' kind ro' (.code (.cond c a b)::k1)).eval c=q at hev
    cases hev;rfl
   exact stay h (.cons (.code hc.2) hk) (su_cond hb)
 |block id b=>exact stay h (.cons (.code hc) (.cons (.inBlock id) hk)) su_block
 |loop b=>exact stay h (.cons (.code hc) (.cons (.inLoop hc) hk)) su_loop
 |scope b=>exact stay h (.cons (.code hc) (.cons (.inScope hc) hk)) su_scope
 |exit id =>
  simp only [codeA,jumpA] at h
  obtain⟨i1,i2⟩:=exitTo_rel (id:=id) hk
  cases he:exitToA id k with
  |some k2 =>
   rw [he] at h
   obtain⟨k2',e1,e2⟩:=i1 k2 he
   exact stay h e2 (su_exit e1)
  |none=>rw [he] at h;exact hleave _ h (.inr (.inl ⟨id,rfl,rfl,he⟩))
 |goto l =>
  simp only [codeA,jumpA] at h
  obtain⟨i1,i2⟩:=gotoIn_rel (l:=l) hk
  cases he:gotoInA l k with
  |some k2 =>
   rw [he] at h
   obtain⟨k2',e1,e2⟩:=i1 k2 he
   exact stay h e2 (su_goto e1)
  |none=>rw [he] at h;exact hleave _ h (.inr (.inr ⟨l,rfl,rfl,he⟩))
 |ret=>exact hleave .ret h (.inl ⟨rfl,rfl⟩)
 |refuse s=>simp [codeA] at h
 |region id ops draw =>
  simp only [codeOk,Bool.and_eq_true,List.all_eq_true] at hc
  simp only [codeA,regionA] at h
  cases draw with
  |false =>
   simp only [mkA] at h
   obtain rfl:=Option.some.inj h
   refine⟨_,_,_,E,lo,.one su_region,⟨S.mem,S.glob,?_,S.callers,S.lo⟩⟩
   have:=TodoR.ops (tb:=tb) (m:=m) (lo:=lo) (hi:=m.next) (wait:=false) (t:=t) (nt:=nt) (n:=0) hk hc.1
   rw [List.drop_zero,Nat.sub_zero,← List.range_eq_range'] at this
   exact .run hf this hs hd hr hki
  |true =>
   simp only [mkA] at h
   obtain rfl:=Option.some.inj h
   have hdo:drawOk ops=true:=by simpa using hc.2
   obtain⟨v1,v2⟩:=schedule_valid hdo (tb.p.follows .mixedOrders) (w.tape w.drawn (.order fn id))
   refine⟨_,_,_,E,lo,.one su_region_draw,⟨S.mem.same rfl rfl rfl rfl,S.glob,?_,S.callers,S.lo⟩⟩
   have hX:TRx E (lagX [] (Region.schedule (tb.p.follows .mixedOrders) ops (w.tape w.drawn (.order fn id)))) t nt tm:=⟨hs.1,fun y _=>hs.2 y (by simp)⟩
   exact .run hf (.dr hk hc.1 (DrI.start v1 v2) (by simp)) hX hd hr hki
 |rangeFunc f ps a b=>exact hrf _ _ _ _ rfl
end
end Go.Ev

namespace Go.Ev
open Go.RowKit
section
variable {tb:Tabs} {N G:Nat} {w0:World} {fn:FuncId} {nt:Nat} {ds':List Deferred} {kind:CallKind} {ro':Option Nat} {cs':List Frame} {k':List Item} {ops:Array Oper} {lo:Nat}
def OpsOut (tb:Tabs) (N:Nat) (w0:World) (fn:FuncId) (nt:Nat) (ds':List Deferred) (kind:CallKind) (ro':Option Nat) (cs':List Frame) (k':List Item) (ops:Array Oper) (lo:Nat) (E:Env) (m:Mem) (fr':Frame) (w:World):OpsR→Prop
 | .done t1 m1=>∃ tm1 w1 E1,Steps tb.p (lone fr' cs' w) (lone (rf fn tm1 ds' kind ro' k') cs' w1)∧MR tb.p N w0 E1 m1 w1∧MExt lo E m E1 m1∧TR E1 t1 nt tm1
 | .stop o l1 t1 m1=>∃ n1 tm1 w1 E1,Steps tb.p (lone fr' cs' w) (lone (rf fn tm1 ds' kind ro' (.inRegion ops (List.range' n1 (ops.size-n1))::k')) cs' w1)∧MR tb.p N w0 E1 m1 w1∧MExt lo E m E1 m1∧TR E1 t1 nt tm1 ∧
   ops.toList.drop n1=o::l1∧wantedA t1 ops o.guard=true
 | .bad=>True
theorem ops_ok (ok:TabsOk tb) (hops:∀ o∈ops.toList,opOk G o=true):∀ (l:List Oper) (n:Nat) (t:T Value) (m:Mem) (E:Env) (w:World) (tm:Array Value),ops.toList.drop n=l→MR tb.p N w0 E m w→GlobE G E→TR E t nt tm→lo≤m.next →
  OpsOut tb N w0 fn nt ds' kind ro' cs' k' ops lo E m (rf fn tm ds' kind ro' (.inRegion ops (List.range' n (ops.size-n))::k')) w (opsA tb ops nt l t m)
 | [],n,t,m,E,w,tm,hl,HM,HG,HS,hlo=>by
   have hn:ops.size≤n:=by simpa using hl
   rw [show ops.size-n=0 from by omega]
   exact⟨tm,w,E,.one (st_region_nil rfl rfl),HM,.refl _ _ _,HS⟩
 |o::l,n,t,m,E,w,tm,hl,HM,HG,HS,hlo=>by
  obtain⟨h1,h2,h3⟩:=drop_cons hl
  have h3':n<ops.size:=by simpa using h3
  have ho:ops[n]? = some o:=by simpa using h1
  have hr':List.range' n (ops.size-n)=n::List.range' (n+1) (ops.size-(n+1)):=by
   obtain⟨q,hq⟩:∃ q,ops.size-n=q+1:=⟨ops.size-n-1,by omega⟩
   rw [hq,List.range'_succ,show ops.size-(n+1)=q from by omega]
  have hw:Region.wanted o (yielded ops tm)=wantedA t ops o.guard:=wanted_rel (E:=E) fun d _=>HS.2 d (by simp)
  have hfin:∀ v,(rf fn tm ds' kind ro' (.inRegion ops (n::List.range' (n+1) (ops.size-(n+1)))::k')).finish v=rf fn (setSlot o.dst tm v) ds' kind ro' (.inRegion ops (List.range' (n+1) (ops.size-(n+1)))::k'):=fun v=>finish_eq rfl ho
  have go:∀ (t':T Value) (m':Mem) (E':Env) (w':World) (v v':Value),putT t nt o.dst v=some t'→VR E' v v'→MR tb.p N w0 E' m' w'→MExt lo E m E' m'→step tb.p (lone (rf fn tm ds' kind ro' (.inRegion ops (n::List.range' (n+1) (ops.size-(n+1)))::k')) cs' w)=.next (lone ((rf fn tm ds' kind ro' (.inRegion ops (n::List.range' (n+1) (ops.size-(n+1)))::k')).finish v') cs' w') →
    OpsOut tb N w0 fn nt ds' kind ro' cs' k' ops lo E m (rf fn tm ds' kind ro' (.inRegion ops (n::List.range' (n+1) (ops.size-(n+1)))::k')) w (opsA tb ops nt l t' m'):=by
   intro t' m' E' w' v v' hp hv HM' hx hst
   rw [hfin] at hst
   have ih:=ops_ok ok hops l (n+1) t' m' E' w' (setSlot o.dst tm v') h2.symm HM' (fun g hg=>hx.le _ _ (HG g hg)) (slot_put (HS.mono hx.le) hp hv) (Nat.le_trans hlo hx.next)
   generalize opsA tb ops nt l t' m'=r at ih
   cases r with
   |done t1 m1=>obtain⟨tm1,w1,E1,a,b,c,d⟩:=ih;exact⟨tm1,w1,E1,.head hst a,b,hx.trans c,d⟩
   |stop o1 l1 t1 m1=>obtain⟨n1,tm1,w1,E1,a,b,c,d⟩:=ih;exact⟨n1,tm1,w1,E1,.head hst a,b,hx.trans c,d⟩
   |bad=>trivial
  have hput:∀ {v:Value} {m':Mem},(∀ t',putT t nt o.dst v=some t'→OpsOut tb N w0 fn nt ds' kind ro' cs' k' ops lo E m (rf fn tm ds' kind ro' (.inRegion ops (n::List.range' (n+1) (ops.size-(n+1)))::k')) w (opsA tb ops nt l t' m')) →
    OpsOut tb N w0 fn nt ds' kind ro' cs' k' ops lo E m (rf fn tm ds' kind ro' (.inRegion ops (n::List.range' (n+1) (ops.size-(n+1)))::k')) w (opsPut (putT t nt o.dst v) m' (opsA tb ops nt l)):=by
   intro v m' h
   cases hp:putT t nt o.dst v with
   |none=>exact trivial
   |some t'=>exact h t' hp
  show OpsOut tb N w0 fn nt ds' kind ro' cs' k' ops lo E m _ w (opsStep tb ops nt o l (opsA tb ops nt l) t m)
  rw [hr']
  unfold opsStep
  cases hwa:wantedA t ops o.guard with
  |false =>
   exact hput fun t' hp=>go t' m E w undef undef hp (.undef E) HM (.refl _ _ _) (st_skip rfl rfl (by rw [ho];simp only [Option.map_some,Option.getD_some];exact hw.trans hwa))
  |true =>
   have hρ : ∀ y∈o.op.operands.toList,VR E (ev t y) ((rf fn tm ds' kind ro' (.inRegion ops (n::List.range' (n+1) (ops.size-(n+1)))::k')).eval y):=fun y hy =>
    operand_rel HG HS (List.all_eq_true.1 (hops o (List.mem_of_getElem? h1)) y hy) (by simp)
   have hop:=run_opA (o:=o) ok HM hρ
   simp only
   cases hoa:opA o.op tb t m with
   |c=>exact⟨n,tm,w,E,by rw [hr'];exact .refl _ _,HM,.refl _ _ _,HS,hl,hwa⟩
   |bad=>exact trivial
   |r v =>
    rw [hoa] at hop
    obtain⟨nx,q1,q2⟩:=hop
    have hg:=stG_op (cs:=cs') (w:=w) (P:=tb.p) (fr:=rf fn tm ds' kind ro' (.inRegion ops (n::List.range' (n+1) (ops.size-(n+1)))::k')) rfl rfl ho (hw.trans hwa) (.inr fun c e=>by rw [e] at hoa;simp [opA,kC] at hoa)
    refine hput fun t' hp=>?_
    rcases q2 with ⟨v',rfl,hv⟩|⟨rfl,hv⟩
    ·exact go t' m E w v v' hp hv HM (.refl _ _ _) (st_apply_value q1 (.inl rfl) hg)
    ·exact go t' m E w v undef hp (by rw [hv];exact .undef E) HM (.refl _ _ _) (st_apply_value q1 (.inr ⟨rfl,rfl⟩) hg)
   |f ob mk =>
    rw [hoa] at hop
    have hdom:=HM.dom m.next (Nat.le_refl _)
    obtain⟨v',w',o',sh,ex,q1,q2,q3,q4,q5,q6,q7,q8⟩:=hop m.next hdom.2
    have hg:=stG_op (cs:=cs') (w:=w) (P:=tb.p) (fr:=rf fn tm ds' kind ro' (.inRegion ops (n::List.range' (n+1) (ops.size-(n+1)))::k')) rfl rfl ho (hw.trans hwa) (.inr fun c e=>by rw [e] at hoa;simp [opA,kC] at hoa)
    refine hput fun t' hp=>?_
    exact go t' _ _ w' _ v' hp q7 ((HM.lay ob).mat hdom.2 (by rw [get_newObjA,if_pos rfl]) (by rw [next_newObjA];omega) q8 q2 q3 q4 q5 q6) (((MExt.lay HM ob).lower hlo).trans (MExt.mat hdom.2 hlo)) (st_apply_value q1 (.inl rfl) hg)
   |e v m' =>
    rw [hoa] at hop
    obtain⟨nx,w',E',q1,q2,q3,q4⟩:=hop
    have hg:=stG_op (cs:=cs') (w:=w) (P:=tb.p) (fr:=rf fn tm ds' kind ro' (.inRegion ops (n::List.range' (n+1) (ops.size-(n+1)))::k')) rfl rfl ho (hw.trans hwa) (.inr fun c e=>by rw [e] at hoa;simp [opA,kC] at hoa)
    refine hput fun t' hp=>?_
    rcases q2 with ⟨v',rfl,hv⟩|⟨rfl,hv⟩
    ·exact go t' m' E' w' v v' hp hv q3 (q4.lower hlo) (st_apply_value q1 (.inl rfl) hg)
    ·exact go t' m' E' w' v undef hp (by rw [hv];exact .undef E') q3 (q4.lower hlo) (st_apply_value q1 (.inr ⟨rfl,rfl⟩) hg)
end
end Go.Ev

namespace Go.Ev
open Go.RowKit
section
variable {tb:Tabs} {N G:Nat} {w0:World} {base:List Frame} {E:Env} {m:Mem} {lo:Nat} {fn:FuncId} {t:T Value} {nt:Nat} {k:List AItem} {ds:List Deferred} {kind:CallKind} {ro:Option Nat} {cs:List AFrame} {fr':Frame} {cs':List Frame} {w:World} {am:AM}
theorem plainItem_ok {i:AItem} (S:StR tb N G w0 base ⟨⟨fn,t,nt,i::k,ds,.run,kind,ro⟩,cs,m⟩ fr' cs' w E lo) (h:itemA tb i k fn t nt ds kind ro cs m=some am)
  (hi:(∃ id,i=.inBlock id)∨(∃ b,i=.inScope b)∨∃ b,i=.inLoop b):StepOut tb N G w0 base am fr' cs' w:=by
 obtain⟨tm,k',ds',ro',X,rfl,ht,hs,hd,hr,hki,hf⟩:=S.top.run_inv
 obtain⟨x',k1,rfl,hx,hk,rfl⟩:=ht.item_inv (by rcases hi with ⟨_,rfl⟩|⟨_,rfl⟩|⟨_,rfl⟩<;>simp) (by rcases hi with ⟨_,rfl⟩|⟨_,rfl⟩|⟨_,rfl⟩<;>simp)
 rcases hi with ⟨id,rfl⟩|⟨b,rfl⟩|⟨b,rfl⟩
 ·cases hx
  obtain rfl:=Option.some.inj h
  exact⟨_,_,_,E,lo,.one su_inBlock,⟨S.mem,S.glob,FR.plain hk hs hd hr hki hf,S.callers,S.lo⟩⟩
 ·cases hx
  obtain rfl:=Option.some.inj h
  exact⟨_,_,_,E,lo,.one su_inScope,⟨S.mem,S.glob,FR.plain hk hs hd hr hki hf,S.callers,S.lo⟩⟩
 ·cases hx with
  |inLoop hb =>
  obtain rfl:=Option.some.inj h
  exact⟨_,_,_,E,lo,.one su_inLoop,⟨S.mem,S.glob,FR.plain (.cons (.code hb) (.cons (.inLoop hb) hk)) hs hd hr hki hf,S.callers,S.lo⟩⟩
theorem TodoR.ops_inv {hi:Nat} {wait:Bool} {ops:Array Oper} {l:List Oper} {k':List Item} {X:Nat→Prop} (h:TodoR tb E m lo hi G wait t nt (.ops ops l::k) k' X) :
  ∃ n k1,k'=.inRegion ops (List.range' n (ops.size-n))::k1∧ops.toList.drop n=l∧ItsR E G k k1∧(∀ o∈ops.toList,opOk G o=true)∧X=fun _=>False:=by
 cases h with
 |plain h=>cases h with|cons h t=>cases h
 |ops hk hok=>exact⟨_,_,rfl,rfl,hk,hok,rfl⟩
theorem opsItem_ok (ok:TabsOk tb) {ops:Array Oper} {l:List Oper} (S:StR tb N G w0 base ⟨⟨fn,t,nt,.ops ops l::k,ds,.run,kind,ro⟩,cs,m⟩ fr' cs' w E lo) (h:opsItem tb ops l k fn t nt ds kind ro cs m=some am)
  (hcall:∀ (o:Oper) (l1:List Oper) (t1:T Value) (m1:Mem) (fr2:Frame) (w2:World) (E2:Env),StR tb N G w0 base ⟨frm fn t1 nt (.ops ops (o::l1)::k) ds kind ro,cs,m1⟩ fr2 cs' w2 E2 lo→wantedA t1 ops o.guard=true →
   doCall tb o (frm fn t1 nt (.ops ops (o::l1)::k) ds kind ro) cs m1=some am→StepOut tb N G w0 base am fr2 cs' w2):StepOut tb N G w0 base am fr' cs' w:=by
 obtain⟨tm,k',ds',ro',X,rfl,ht,hs,hd,hr,hki,hf⟩:=S.top.run_inv
 obtain⟨n,k1,rfl,hl,hk,hok,rfl⟩:=ht.ops_inv
 have ho:=ops_ok (lo:=lo) (fn:=fn) (nt:=nt) (ds':=ds') (kind:=kind) (ro':=ro') (cs':=cs') (k':=k1) ok hok l n t m E w tm hl S.mem S.glob hs S.lo
 unfold opsItem at h
 cases hr1:opsA tb ops nt l t m with
 |bad=>rw [hr1] at h;simp at h
 |done t1 m1 =>
  rw [hr1] at h ho
  obtain⟨tm1,w1,E1,a,b,c,d⟩:=ho
  obtain rfl:=Option.some.inj h
  exact⟨_,_,_,E1,lo,a,⟨b,fun g hg=>c.le _ _ (S.glob g hg),FR.plain (hk.mono c.le) d (hd.mono c.le) (hr.mono c.le) hki hf,S.callers.ext c,Nat.le_trans S.lo c.next⟩⟩
 |stop o l1 t1 m1 =>
  rw [hr1] at h ho
  obtain⟨n1,tm1,w1,E1,a,b,c,d,e,f⟩:=ho
  have htd:=TodoR.ops (tb:=tb) (m:=m1) (lo:=lo) (hi:=m1.next) (wait:=false) (t:=t1) (nt:=nt) (n:=n1) (hk.mono c.le) hok
  rw [e] at htd
  obtain⟨fr3,cs3,w3,E3,lo3,g1,g2⟩:=hcall o l1 t1 m1 _ w1 E1 ⟨b,fun g hg=>c.le _ _ (S.glob g hg),.run hf htd d (hd.mono c.le) (hr.mono c.le) hki,S.callers.ext c,Nat.le_trans S.lo c.next⟩ f h
  exact⟨fr3,cs3,w3,E3,lo3,a.trans g1,g2⟩
end
end Go.Ev

namespace Go.Ev
open Go.RowKit
section
variable {tb:Tabs} {N G:Nat} {w0:World} {base:List Frame} {E:Env} {m:Mem} {lo:Nat} {fn:FuncId} {t:T Value} {nt:Nat} {k:List AItem} {ds:List Deferred} {kind:CallKind} {ro:Option Nat} {cs:List AFrame} {fr':Frame} {cs':List Frame} {w:World} {am:AM}
theorem TodoR.dr_inv {hi:Nat} {wait:Bool} {ops:Array Oper} {rem:List (Nat × Oper)} {hist:List Hist} {mask:Nat} {k':List Item} {X:Nat→Prop} (h:TodoR tb E m lo hi G wait t nt (.dr ops rem hist mask::k) k' X) :
  ∃ sched k1,k'=.inRegion ops sched::k1∧DrI tb E m lo hi ops t nt wait rem hist mask sched∧ItsR E G k k1∧(∀ o∈ops.toList,opOk G o=true)∧X=lagX hist sched:=by
 cases h with
 |plain h=>cases h with|cons h t=>cases h
 |dr hk hok hd hw=>exact⟨_,_,rfl,hd,hk,hok,rfl⟩
theorem drItem_ok (ok:TabsOk tb) {ops:Array Oper} {rem:List (Nat × Oper)} {hist:List Hist} {mask:Nat} (S:StR tb N G w0 base ⟨⟨fn,t,nt,.dr ops rem hist mask::k,ds,.run,kind,ro⟩,cs,m⟩ fr' cs' w E lo) (h:drItem tb ops rem hist mask k fn t nt ds kind ro cs m=some am)
  (hnext:∀ (i:Nat) (o:Oper) (l:List (Nat × Oper)) (hist1:List Hist) (mask1:Nat) (rest:List Nat) (k1:List Item) (tm:Array Value) (ds':List Deferred) (ro':Option Nat) (t1:T Value) (m1:Mem) (w2:World) (E2:Env),
   StR tb N G w0 base ⟨frm fn t1 nt (.dr ops ((i,o)::l) hist1 mask1::k) ds kind ro,cs,m1⟩ (rf fn tm ds' kind ro' (.inRegion ops (i::rest)::k1)) cs' w2 E2 lo→ops.toList[i]? = some o→depsOk ops o hist1=true→wantedA t1 ops o.guard=true →
   drWrite tb ops ((i,o)::l) hist1 mask1 k fn t1 nt ds kind ro cs m1=some am→StepOut tb N G w0 base am (rf fn tm ds' kind ro' (.inRegion ops (i::rest)::k1)) cs' w2):StepOut tb N G w0 base am fr' cs' w:=by
 obtain⟨tm,k',ds',ro',X,rfl,ht,hs,hd,hr,hki,hf⟩:=S.top.run_inv
 obtain⟨sched,k1,rfl,hdr,hk,hok,rfl⟩:=ht.dr_inv
 unfold drItem at h
 cases hp:drPass tb ops nt rem [] [] t m hist mask with
 |bad=>rw [hp] at h;simp at h
 |ok t1 m1 rem1 hist1 mask1 =>
  rw [hp] at h
  simp only at h
  obtain⟨p1,p2,p3,p4,p5,p6⟩:=drPass_ok rem [] [] t m hist mask t1 m1 rem1 hist1 mask1 hp S.lo S.mem (by simpa using hdr)
  have hs1:TRx E (lagX hist1 sched) t1 nt tm:=⟨hs.1,fun x hx=>by
   rw [p5 (lagX hist1 sched) (fun g hg d hd hgs=>⟨g,hg,hgs,hd⟩) x hx]
   exact hs.2 x fun ⟨g,hg,hgs,hd⟩=>hx ⟨g,p6 g hg,hgs,hd⟩⟩
  have hck:∀ i o l,rem1=(i,o)::l→alone [i] l=true∧depsOk ops o hist1=true∧wantedA t1 ops o.guard=true:=by
   intro i o l e
   subst e
   unfold drWrite at h
   simp only at h
   split at h
   ·simp at h
   ·rename_i hb
    simp only [Bool.and_eq_true] at hb
    exact⟨hb.1.1,hb.1.2,hb.2⟩
  obtain⟨sched2,tm2,w2,E2,q1,q2,q3,q4,q5,q6,q7⟩:=catch_up (cs:=cs') (k:=k1) ok hok (fun i o l e=>(hck i o l e).1) sched E w (rf fn tm ds' kind ro' (.inRegion ops sched::k1)) p2 S.glob p4 hs1 rfl rfl
  have hx:=p3.trans q3
  have hglob:GlobE G E2:=fun g hg=>hx.le _ _ (S.glob g hg)
  cases rem1 with
  |nil =>
   obtain rfl:=q6 rfl
   simp only [drWrite,mkA] at h
   obtain rfl:=Option.some.inj h
   have hs2:TR E2 t1 nt tm2:=⟨q5.1,fun x _=>q5.2 x fun ⟨g,hg,hgs,hd⟩=>by simp at hgs⟩
   exact⟨_,_,_,E2,lo,q1.trans (.one (st_region_nil rfl rfl)),⟨q2,hglob,FR.plain (hk.mono hx.le) hs2 (hd.mono hx.le) (hr.mono hx.le) hki hf,S.callers.ext hx,p1⟩⟩
  |cons x l =>
   obtain⟨i,o⟩:=x
   obtain⟨rest,rfl⟩:=q7 i o l rfl
   obtain⟨_,c2,c3⟩:=hck i o l rfl
   obtain⟨fr3,cs3,w3,E3,lo3,g1,g2⟩:=hnext i o l hist1 mask1 rest k1 tm2 ds' ro' t1 m1 w2 E2 ⟨q2,hglob,.run hf (.dr (hk.mono hx.le) hok q4 (by simp)) q5 (hd.mono hx.le) (hr.mono hx.le) hki,S.callers.ext hx,p1⟩ (q4.remOps (i,o) (by simp)) c2 c3 h
   exact⟨fr3,cs3,w3,E3,lo3,Steps.trans q1 g1,g2⟩
end
end Go.Ev

namespace Go.Ev
open Go.RowKit
section
variable {tb:Tabs} {N G:Nat} {w0:World} {base:List Frame} {E:Env} {m:Mem} {lo:Nat} {fn:FuncId} {t:T Value} {nt:Nat} {k:List AItem} {ds:List Deferred} {kind:CallKind} {ro:Option Nat} {cs:List AFrame} {fr':Frame} {cs':List Frame} {w:World} {am:AM}
theorem FR.waits {hi:Nat} {fr:AFrame} (h:FR tb E m lo hi G false fr fr') (hh:∀ ops rem hist mask sched k k',fr.todo=.dr ops rem hist mask::k→fr'.todo=.inRegion ops sched::k'→∃ i o l rest,rem=(i,o)::l∧sched=i::rest):FR tb E m lo hi G true fr fr':=by
 cases h with
 |run hf ht hs hd hr hk =>
  refine .run hf ?_ hs hd hr hk
  cases ht with
  |plain h=>exact .plain h
  |ops hk hok=>exact .ops hk hok
  |dr hk hok hd hw=>exact .dr hk hok (hd.wait (.refl _ _ _)) fun _=>hh _ _ _ _ _ _ _ rfl rfl
 |ret hf hs hd hr hk=>exact .ret hf hs hd hr hk
 |pan hf hs hX hp hd hr hk=>exact .pan hf hs hX hp hd hr hk
theorem value_ok {fr1:AFrame} {fr:AFrame} {m':Mem} {E':Env} {w':World} {v v':Value} (S:StR tb N G w0 base ⟨fr,cs,m⟩ fr' cs' w E lo)
  (hh:∀ ops rem hist mask sched k k',fr.todo=.dr ops rem hist mask::k→fr'.todo=.inRegion ops sched::k'→∃ i o l rest,rem=(i,o)::l∧sched=i::rest)
  (HM:MR tb.p N w0 E' m' w') (hx:MExt m.next E m E' m') (hv:VR E' v v') (hf:finishA tb fr v m'=some fr1) (hst:step tb.p (lone fr' cs' w)=.next (lone (fr'.finish v') cs' w')) :
  StepOut tb N G w0 base ⟨fr1,cs,m'⟩ fr' cs' w:=by
 have hlo:=S.lo
 have hx2:=hx.lower hlo
 have ht:=((S.top.waits hh).wait hx).finish hx.next hv hf
 exact⟨_,_,_,E',lo,.one hst,⟨HM,fun g hg=>hx.le _ _ (S.glob g hg),ht,S.callers.ext hx2,Nat.le_trans hlo hx.next⟩⟩
end
end Go.Ev

namespace Go.Ev
open Go.RowKit
section
variable {tb:Tabs} {N G:Nat} {w0:World} {base:List Frame} {E:Env} {m:Mem} {lo:Nat} {fn:FuncId} {t:T Value} {nt:Nat} {k:List AItem} {ds:List Deferred} {kind:CallKind} {ro:Option Nat} {cs:List AFrame} {fr':Frame} {cs':List Frame} {w:World} {am:AM}
structure HeadR (tb:Tabs) (E:Env) (G:Nat) (t:T Value) (fr':Frame) (ops:Array Oper) (i:Nat) (o:Oper) (rest:List Nat) (k1:List Item):Prop where
 mode:fr'.mode=.run
 todo:fr'.todo=.inRegion ops (i::rest)::k1
 op:ops[i]? = some o
 wanted:Region.wanted o (yielded ops fr'.tmps)=true
 args:∀ y∈o.op.operands.toList,VR E (ev t y) (fr'.eval y)
theorem write_ok (ok:TabsOk tb) {fr fr1:AFrame} {ops:Array Oper} {i:Nat} {o:Oper} {rest:List Nat} {k1:List Item} {v:Value} {m':Mem} (S:StR tb N G w0 base ⟨fr,cs,m⟩ fr' cs' w E lo) (HH:HeadR tb E G t fr' ops i o rest k1)
  (hh:∀ ops rem hist mask sched k k',fr.todo=.dr ops rem hist mask::k→fr'.todo=.inRegion ops sched::k'→∃ i o l rest,rem=(i,o)::l∧sched=i::rest)
  (he:opA o.op tb t m=.e v m') (hf:finishA tb fr v m'=some fr1):StepOut tb N G w0 base ⟨fr1,cs,m'⟩ fr' cs' w:=by
 have hop:=run_opA (o:=o) ok S.mem HH.args
 rw [he] at hop
 obtain⟨nx,w',E',q1,q2,q3,q4⟩:=hop
 have hg:=stG_op (cs:=cs') (w:=w) (P:=tb.p) HH.mode HH.todo HH.op HH.wanted (.inr fun c e=>by rw [e] at he;simp [opA,kC] at he)
 rcases q2 with ⟨v',rfl,hv⟩|⟨rfl,hv⟩
 ·exact value_ok S hh q3 q4 hv hf (st_apply_value q1 (.inl rfl) hg)
 ·exact value_ok S hh q3 q4 (v':=undef) (by rw [hv];exact .undef E') hf (st_apply_value q1 (.inr ⟨rfl,rfl⟩) hg)
end
end Go.Ev

