/- A part of a proof: ScriptBack. -/
import Derived.Test.YtgmkbdmgifdfeaaGreatDoorD18
set_option linter.unusedVariables false
set_option linter.unusedSimpArgs false
set_option maxRecDepth 8000
namespace Go.Proofs.YtgmkbdmgifdfeaaGreatDoor
open Go Go.Ev
theorem callsSC {f:FuncId} {fd:Func} {s:SCode} {n:Nat} {rs:List ResultVar} {args:List Value} {m:Mem} {R:OutA→Mem→Prop} (hf:Tryz.prog.funcs[f]? = some fd) (he:fd.body.map Qa2=some s) (hn:fd.ntmps=n) (hr:fd.results.toList=rs)
  (h:wpX tb ⟨f,.normal,none⟩ s (args++List.replicate (n-args.length) undef) [] m (endC tb rs R)):Qaw tb f args m R:=by
 cases hb:fd.body with
 |none=>rw [hb] at he;cases he
 |some c =>
  rw [hb] at he
  exact callsXC (fget hf) hb (Kai he) hn hr h
def Qa4 (x:Stu):List Value:=[.int .i64 x.mtu,.int .u64 x.ack,.int .u64 x.retry,.int .i64 x.retries,.int .i64 x.window,.int .i64 x.inbox,.int .i64 x.sectors,.int .i64 x.room,.int .u64 x.start]
def Qkp (m:Mem) (b:Nat) (x:Stu) (v:Value) (n e:Int):Prop :=
 vw m b=some ⟨true,26,false,Qa4 x⟩∧vw m (b+1)=some ⟨true,27,false,[v]⟩∧vw m (b+2)=some ⟨true,3,false,[.int .i64 n]⟩∧vw m (b+3)=some ⟨true,38,false,[.int .i64 e]⟩
theorem res_at {l:List Value} {m:Mem} {b:Nat} {x:Stu} {v:Value} {n e:Int} (h:Qkp m b x v n e) (h2:gx l 2=.pointer (some ⟨b,0,none⟩)) (h3:gx l 3=.pointer (some ⟨b+1,0,none⟩)) (h4:gx l 4=.pointer (some ⟨b+2,0,none⟩)) (h5:gx l 5=.pointer (some ⟨b+3,0,none⟩)) :
  resX tb [.cell 2 26,.cell 3 27,.cell 4 3,.cell 5 38] l m=some (.tuple ⟨[.agg ⟨Qa4 x⟩,v,.int .i64 n,.int .i64 e]⟩):=by
 obtain⟨q1,q2,q3,q4⟩:=h
 unfold resX
 rw [Qg0 h2 (Jak Ty.ti26 Ty.g26 q1 (by rw [Ty.s26];rfl)) (Qg0 h3 (Qif Ty.ti27 Ty.g27 q2 rfl) (Qg0 h4 (Qif Ty.ti3 Ty.g3 q3 rfl) (Qg0 h5 (Qif Ty.ti38 Ty.g38 q4 rfl) Qqd)))]
theorem Qvs {m:Mem} {b:Nat} {x0 x:Stu} {v0 v:Value} {n0 n e0 e:Int} (h:Qkp m b x0 v0 n0 e0) (hv:oneC v=true) :
  vw (stM m b 0 (Qa4 x)) (b+1)=some ⟨true,27,false,[v0]⟩∧vw (stM (stM m b 0 (Qa4 x)) (b+1) 0 [v]) (b+2)=some ⟨true,3,false,[.int .i64 n0]⟩∧vw (stM (stM (stM m b 0 (Qa4 x)) (b+1) 0 [v]) (b+2) 0 [.int .i64 n]) (b+3)=some ⟨true,38,false,[.int .i64 e0]⟩ ∧
   ∃ m',m'=stM (stM (stM (stM m b 0 (Qa4 x)) (b+1) 0 [v]) (b+2) 0 [.int .i64 n]) (b+3) 0 [.int .i64 e]∧Qkp m' b x v n e∧m'.next=m.next∧∀ y,¬ (b≤y∧y<b+4)→m'.objs.get y=m.objs.get y:=by
 obtain⟨q1,q2,q3,q4⟩:=h
 have s1:vw (stM m b 0 (Qa4 x)) b=some ⟨true,26,false,Qa4 x⟩:=by rw [Qau q1 rfl];rfl
 have p2:vw (stM m b 0 (Qa4 x)) (b+1)=some ⟨true,27,false,[v0]⟩:=by rw [Qa9 (by omega)];exact q2
 have s2:vw (stM (stM m b 0 (Qa4 x)) (b+1) 0 [v]) (b+1)=some ⟨true,27,false,[v]⟩:=by rw [Qau p2 (Qby rfl (by simp) hv)];rfl
 have p3:vw (stM (stM m b 0 (Qa4 x)) (b+1) 0 [v]) (b+2)=some ⟨true,3,false,[.int .i64 n0]⟩:=by rw [Qa9 (by omega),Qa9 (by omega)];exact q3
 have s3:vw (stM (stM (stM m b 0 (Qa4 x)) (b+1) 0 [v]) (b+2) 0 [.int .i64 n]) (b+2)=some ⟨true,3,false,[.int .i64 n]⟩:=by rw [Qau p3 (Qby rfl (by simp) rfl)];rfl
 have p4:vw (stM (stM (stM m b 0 (Qa4 x)) (b+1) 0 [v]) (b+2) 0 [.int .i64 n]) (b+3)=some ⟨true,38,false,[.int .i64 e0]⟩:=by rw [Qa9 (by omega),Qa9 (by omega),Qa9 (by omega)];exact q4
 refine⟨p2,p3,p4,_,rfl,⟨?_,?_,?_,?_⟩,by simp only [Qav],fun y hy=>?_⟩
 ·rw [Qa9 (by omega),Qa9 (by omega),Qa9 (by omega)];exact s1
 ·rw [Qa9 (by omega),Qa9 (by omega)];exact s2
 ·rw [Qa9 (by omega)];exact s3
 ·rw [Qau p4 (Qby rfl (by simp) rfl)];rfl
 ·rw [Qcu (by omega),Qcu (by omega),Qcu (by omega),Qcu (by omega)]
def Jce (m:Mem) (tx:List UInt8) (r:Value) (m':Mem):Prop :=
 ∃ v,r=.tuple ⟨[.agg ⟨Qa4 (Qbb tx).1⟩,v,.int .i64 (Qbb tx).2.2.1,.int .i64 (Qbb tx).2.2.2]⟩∧Qd9 m.next m' v (Qbb tx).2.1∧Old m.next m m'
theorem Qjw (n0:Nat) (m:Mem):Qd9 n0 m (.slice none 0 0) []:=⟨[],.inl ⟨rfl,rfl,rfl⟩,rfl,fun k s h=>by simp at h⟩
theorem Qux:∀ tx:List UInt8,(Qbc tx).length≤tx.length+1∧∀ l∈Qbc tx,l.length≤tx.length
 | []=>by simp [Qbc]
 |b::r=>by
  obtain⟨h1,h2⟩:=Qux r
  unfold Qbc
  split
  ·refine⟨by simp;omega,fun l hl=>?_⟩
   rcases List.mem_cons.1 hl with rfl|hl
   ·simp
   ·have:=h2 l hl;simp;omega
  ·split
   ·rename_i x y hx
    rw [hx] at h1 h2
    refine⟨by simp at h1 ⊢;omega,fun l hl=>?_⟩
    rcases List.mem_cons.1 hl with rfl|hl
    ·have:=h2 x (.head _);simp;omega
    ·have:=h2 l (.tail _ hl);simp;omega
   ·exact⟨by simp,fun l hl=>by simp at hl;subst hl;simp⟩
def Same (S:List Nat) (m m':Mem):Prop:=m'.next=m.next∧∀ x,x∉S→m'.objs.get x=m.objs.get x
theorem Same.put (m:Mem) (k:Nat) (o:AObj):Same [k] m (Qas m k o):=⟨rfl,fun x hx=>by rw [Qbk,if_neg (by simpa using hx)]⟩
theorem Same.st (m:Mem) (k i:Nat) (l:List Value):Same [k] m (stM m k i l):=⟨Qav,fun x hx=>Qcu (by simpa using hx)⟩
theorem Same.vw {S:List Nat} {m m':Mem} (h:Same S m m') {x:Nat} (hx:x∉S):Go.Ev.vw m' x=Go.Ev.vw m x:=by unfold Go.Ev.vw;rw [h.2 x hx]
theorem Same.old {S:List Nat} {n:Nat} {m0 m m':Mem} (h:Same S m m') (k:Old n m0 m) (hS:∀ x∈S,n≤x):Old n m0 m' :=
 ⟨by rw [h.1];exact k.1,fun x hx=>by rw [h.2 x (fun e=>by have:=hS x e;omega)];exact k.2 x hx⟩
theorem Qti.same {S:List Nat} {n0 sp:Nat} {m m':Mem} {s:Scr} (h:Qti n0 m sp s) (k:Same S m m') (hS:∀ x∈S,x≠sp∧x<n0):Qti n0 m' sp s:=by
 obtain⟨v,h1,h2⟩:=h
 exact⟨v,by rw [k.vw (fun e=>(hS _ e).1 rfl)];exact h1,h2.ex (by rw [k.1];exact Knr _) fun x V hx h0 _ _=>k.2 x fun e=>by have:=(hS x e).2;omega⟩
structure PI (m0:Mem) (r0:Nat) (s:Scr) (n:Int) (m:Mem):Prop where
 res:Qkp m r0 stu0 (.slice none 0 0) 0 0
 old:Old m0.next m0 m
 nx:r0+12≤m.next
 scr:Qti (r0+12) m (r0+4) s
 ptr:vw m (r0+5)=some ⟨true,97,false,[.pointer (some ⟨r0+4,0,none⟩)]⟩
 cnt:vw m (r0+6)=some ⟨true,3,false,[.int .i64 n]⟩
 b1:vw m (r0+8)=some ⟨true,9,false,[.string ⟨⟨[10]⟩⟩]⟩
 b2:vw m (r0+9)=some ⟨true,3,false,[.int .i64 0]⟩
 dfr:m.objs.get (r0+10)=some (.dfr (some []))
 err:Qcv m
theorem Qkp.eq {m m':Mem} {b:Nat} {x:Stu} {v:Value} {n e:Int} (h:Qkp m b x v n e) (k:∀ y,b≤y→y<b+4→m'.objs.get y=m.objs.get y):Qkp m' b x v n e:=by
 obtain⟨q1,q2,q3,q4⟩:=h
 have e1:∀ y,b≤y→y<b+4→vw m' y=vw m y:=fun y h1 h2=>by unfold vw;rw [k y h1 h2]
 exact⟨by rw [e1 _ (by omega) (by omega)];exact q1,by rw [e1 _ (by omega) (by omega)];exact q2,by rw [e1 _ (by omega) (by omega)];exact q3,by rw [e1 _ (by omega) (by omega)];exact q4⟩
theorem PI.same {m0 m m':Mem} {r0:Nat} {s:Scr} {n:Int} {S:List Nat} (h:PI m0 r0 s n m) (k:Same S m m') (hr:r0=m0.next) (hS:∀ x∈S,x=r0+7∨x=r0+11) (h8:8≤r0):PI m0 r0 s n m':=by
 have hn:∀ y,y≠r0+7→y≠r0+11→y∉S:=fun y h1 h2 e=>by rcases hS y e with h|h;exact h1 h;exact h2 h
 refine⟨h.res.eq fun y h1 h2=>k.2 y (hn y (by omega) (by omega)),k.old h.old (fun x hx=>by rcases hS x hx with h|h<;>omega),by rw [k.1];exact h.nx,h.scr.same k (fun x hx=>by rcases hS x hx with h|h<;>omega),?_,?_,?_,?_,?_,?_⟩
 ·rw [k.vw (hn _ (by omega) (by omega))];exact h.ptr
 ·rw [k.vw (hn _ (by omega) (by omega))];exact h.cnt
 ·rw [k.vw (hn _ (by omega) (by omega))];exact h.b1
 ·rw [k.vw (hn _ (by omega) (by omega))];exact h.b2
 ·rw [k.2 _ (hn _ (by omega) (by omega))];exact h.dfr
 ·obtain⟨g1,⟨e,t,a,g2⟩,e',t',a',g3⟩:=h.err
  exact⟨by rw [k.1];exact g1,⟨e,t,a,by rw [k.vw (hn _ (by omega) (by omega))];exact g2⟩,e',t',a',by rw [k.vw (hn _ (by omega) (by omega))];exact g3⟩
theorem PI.count {m0 m:Mem} {r0:Nat} {s:Scr} {n:Int} (h:PI m0 r0 s n m) (hr:r0=m0.next) (h8:8≤r0) (n':Int):PI m0 r0 s n' (stM m (r0+6) 0 [.int .i64 n']):=by
 have k:=Same.st m (r0+6) 0 [.int .i64 n']
 refine⟨h.res.eq fun y h1 h2=>k.2 y (by simp;omega),k.old h.old (by simp;omega),by rw [k.1];exact h.nx,h.scr.same k (by simp),?_,?_,?_,?_,?_,?_⟩
 ·rw [k.vw (by simp)];exact h.ptr
 ·rw [Qau h.cnt (Qby rfl (by simp) rfl)];rfl
 ·rw [k.vw (by simp)];exact h.b1
 ·rw [k.vw (by simp)];exact h.b2
 ·rw [k.2 _ (by simp)];exact h.dfr
 ·obtain⟨g1,⟨e,t,a,g2⟩,e',t',a',g3⟩:=h.err
  exact⟨by rw [k.1];exact g1,⟨e,t,a,by rw [k.vw (by simp;omega)];exact g2⟩,e',t',a',by rw [k.vw (by simp;omega)];exact g3⟩
theorem PI.take {m0 m m':Mem} {r0:Nat} {s s':Scr} {n:Int} (h:PI m0 r0 s n m) (hr:r0=m0.next) (h8:8≤r0) (k:Ch (r0+12) [r0+4] m m') (hs:Qti (r0+12) m' (r0+4) s'):PI m0 r0 s' n m':=by
 refine⟨h.res.eq fun y h1 h2=>k.2 y (by omega) (by simp;omega),⟨Knt h.old.1 k.1,fun x hx=>by rw [k.2 x (by omega) (by simp;omega)];exact h.old.2 x hx⟩,Knt h.nx k.1,hs,?_,?_,?_,?_,?_,h.err.ch k (by omega) (by simp;omega)⟩
 ·rw [k.vw (by omega) (by simp)];exact h.ptr
 ·rw [k.vw (by omega) (by simp)];exact h.cnt
 ·rw [k.vw (by omega) (by simp)];exact h.b1
 ·rw [k.vw (by omega) (by simp)];exact h.b2
 ·rw [k.2 _ (by omega) (by simp)];exact h.dfr
theorem Qvv {m:Mem} {tx:List UInt8} (hE:Qcv m) (hlen:tx.length≤9223372036854775807):Qaw tb 19 [.string ⟨⟨tx⟩⟩] m (retR (Jce m tx)):=by
 refine callsSC Tryz.func19 e19 rfl rfl ?_
 simp only [s19,List.replicate,Klc,Kln,Kca,Kna,Nat.reduceAdd,Nat.reduceSub]
 have hrs:Tryz.f19.results.toList=[.cell 2 26,.cell 3 27,.cell 4 3,.cell 5 38]:=rfl
 rw [hrs]
 have hm8:=hE.1
 obtain⟨r0,hr0⟩:∃ r0,r0=m.next:=⟨_,rfl⟩
 have fin0:∀ {l:List Value} {m':Mem} {v:Value},Qkp m' r0 (Qbb tx).1 v (Qbb tx).2.2.1 (Qbb tx).2.2.2→Qd9 m.next m' v (Qbb tx).2.1→Old m.next m m'→Sl [.string ⟨⟨tx⟩⟩,undef,.pointer (some ⟨r0,0,none⟩),.pointer (some ⟨r0+1,0,none⟩),.pointer (some ⟨r0+2,0,none⟩),.pointer (some ⟨r0+3,0,none⟩)] 34 l →
   endC tb [.cell 2 26,.cell 3 27,.cell 4 3,.cell 5 38] (retR (Jce m tx)) (.jump .ret) l [] m':=by
  rintro l m' v h1 h2 h3 ⟨ts,hts,rfl⟩
  exact .inl ⟨rfl,_,res_at h1 rfl rfl rfl rfl,v,rfl,h2,h3⟩
 have fin1:∀ {l:List Value} {m':Mem} {v:Value},Qkp m' r0 (Qbb tx).1 v (Qbb tx).2.2.1 (Qbb tx).2.2.2→Qd9 m.next m' v (Qbb tx).2.1→Old m.next m m'→m'.objs.get (r0+10)=some (.dfr (some []))→(∃ n,Sl [.string ⟨⟨tx⟩⟩,undef,.pointer (some ⟨r0,0,none⟩),.pointer (some ⟨r0+1,0,none⟩),.pointer (some ⟨r0+2,0,none⟩),.pointer (some ⟨r0+3,0,none⟩)] n l) →
   endC tb [.cell 2 26,.cell 3 27,.cell 4 3,.cell 5 38] (retR (Jce m tx)) (.jump .ret) l [coll (r0+10)] m':=by
  rintro l m' v h1 h2 h3 h4 ⟨n,ts,hts,rfl⟩
  have k:=Same.put m' (r0+10) (.dfr none)
  refine .inr ⟨r0+10,rfl,h4,_,res_at (h1.eq fun y h1 h2=>k.2 y (by simp;omega)) rfl rfl rfl rfl,v,rfl,h2.ex (by rw [k.1];exact Knr _) fun x V hx h0 hV hV2=>k.2 x ?_,k.old h3 (by simp;omega)⟩
  intro e
  simp only [List.mem_cons,List.not_mem_nil,or_false] at e
  subst e
  unfold vw at hV;rw [h4] at hV;cases hV
 refine Qek (fun l ds m1=>ds=[]∧Qkp m1 r0 stu0 (.slice none 0 0) 0 0∧m1.next=r0+4∧Old m.next m m1∧Sl [.string ⟨⟨tx⟩⟩,undef,.pointer (some ⟨r0,0,none⟩),.pointer (some ⟨r0+1,0,none⟩),.pointer (some ⟨r0+2,0,none⟩),.pointer (some ⟨r0+3,0,none⟩)] 34 l) ?_ ?_
 rotate_left
 ·refine Qal fun Q' hQ=>?_
  simp
  subst hQ
  subst hr0
  refine⟨rfl,⟨?_,?_,?_,?_⟩,rfl,?_,Sl.mk rfl rfl⟩
  ·simp [Qa4,stu0]
   rw [if_neg (by omega),if_neg (by omega)]
  ·simp
  ·simp
  ·simp
  ·exact ((((Old.refl _ _).new (Knr _) _).new (by rw [Qaf];omega) _).new (by simp;omega) _).new (by simp;omega) _
 rintro l ds m1 ⟨rfl,hR1,hn1,hO1,ts,hts,rfl⟩
 refine xseq (xseq (Qal fun Q' hQ=>?_))
 simp [hts]
 subst hQ
 refine xif (v:=decide ((1048576:Int)<(tx.length:Int))) (by simp [hts]) (fun hbig=>?_) (fun hbig=>Qbd ?_)
 ·simp only [decide_eq_true_eq] at hbig
  have hpo:Qbb tx=(stu0,[],0,81):=by unfold Qbb;rw [if_pos (by omega)]
  obtain⟨p2,p3,p4,m2,e2,hR2,hn2,hg2⟩:=Qvs (x:=stu0) (v:=.slice none 0 0) (n:=0) (e:=81) hR1 rfl
  obtain⟨q1,q2,q3,q4⟩:=hR1
  simp only [Qa4,stu0] at q1 p2 p3 p4 e2
  refine xsr fun Q' hQ=>?_
  simp [hts,q1,p2,p3,p4]
  subst hQ
  rw [← e2]
  refine xret (fin0 (by rw [hpo];exact hR2) (by rw [hpo];exact Qjw _ _) ?_ (Sl.mk rfl (by simp [hts])))
  exact⟨by have:=hO1.1;omega,fun x hx=>by rw [hg2 x (by omega)];exact hO1.2 x hx⟩
 simp only [decide_eq_false_iff_not] at hbig
 have hpo:Qbb tx=Qcr ⟨stu0,[],false⟩ 0 (Qbc tx):=by unfold Qbb;rw [if_neg (by omega)]
 refine Qek (fun l ds m2=>ds=[]∧Qkp m2 r0 stu0 (.slice none 0 0) 0 0∧m2.next=r0+6∧Old m.next m m2∧vw m2 (r0+4)=some ⟨true,99,false,Qbm stu0 (.slice none 0 0) false⟩∧vw m2 (r0+5)=some ⟨true,97,false,[.pointer (some ⟨r0+4,0,none⟩)]⟩ ∧
   Sl [.string ⟨⟨tx⟩⟩,undef,.pointer (some ⟨r0,0,none⟩),.pointer (some ⟨r0+1,0,none⟩),.pointer (some ⟨r0+2,0,none⟩),.pointer (some ⟨r0+3,0,none⟩),.pointer (some ⟨r0+5,0,none⟩)] 33 l) ?_ ?_
 rotate_left
 ·refine Qal fun Q' hQ=>?_
  obtain⟨y6,ts',rfl,hts'⟩:=Qe9 (n:=33) hts
  have hne:¬ r0+4=r0+4+1:=by omega
  simp [hts',hn1]
  subst hQ
  have hv0:vw (Qah (Qah m1 (Qb1 99 [.int .i64 0,.int .u64 0,.int .u64 0,.int .i64 0,.int .i64 0,.int .i64 0,.int .i64 0,.int .i64 0,.int .u64 0,.slice none 0 0,.bool false] .none false)) (Qcf 97 1 [.pointer none])) (r0+4+1)=some ⟨true,97,false,[.pointer none]⟩:=by simp [hn1]
  have hv1:vw (Qah (Qah m1 (Qb1 99 [.int .i64 0,.int .u64 0,.int .u64 0,.int .i64 0,.int .i64 0,.int .i64 0,.int .i64 0,.int .i64 0,.int .u64 0,.slice none 0 0,.bool false] .none false)) (Qcf 97 1 [.pointer none])) (r0+4)=some ⟨true,99,false,Qbm stu0 (.slice none 0 0) false⟩:=by simp [hn1,Qbm,stu0]
  have hO2:Old m1.next m1 (stM (Qah (Qah m1 (Qb1 99 [.int .i64 0,.int .u64 0,.int .u64 0,.int .i64 0,.int .i64 0,.int .i64 0,.int .i64 0,.int .i64 0,.int .u64 0,.slice none 0 0,.bool false] .none false)) (Qcf 97 1 [.pointer none])) (r0+4+1) 0 [.pointer (some ⟨r0+4,0,none⟩)]):=(((Old.refl _ _).new (Knr _) _).new (by rw [Qaf];omega) _).st (by omega) _ _
  refine⟨rfl,?_,by rw [Qav];simp [hn1],hO1.trans (hO2.le hO1.1),?_,?_,Sl.mk rfl (by simp [hts'])⟩
  ·obtain⟨q1,q2,q3,q4⟩:=hR1
   exact⟨by rw [hO2.vw (by omega)];exact q1,by rw [hO2.vw (by omega)];exact q2,by rw [hO2.vw (by omega)];exact q3,by rw [hO2.vw (by omega)];exact q4⟩
  ·rw [Qa9 (by omega)];exact hv1
  ·rw [Qau hv0 (Qby rfl (by simp) rfl)];rfl
 clear hts hR1 hn1 hO1
 rintro l ds m2 ⟨rfl,hR2,hn2,hO2,hs2,hp2,ts,hts,rfl⟩
 refine Qek (fun l ds m3=>ds=[]∧Qkp m3 r0 stu0 (.slice none 0 0) 0 0∧m3.next=r0+7∧Old m.next m m3∧vw m3 (r0+4)=some ⟨true,99,false,Qbm stu0 (.slice none 0 0) false⟩∧vw m3 (r0+5)=some ⟨true,97,false,[.pointer (some ⟨r0+4,0,none⟩)]⟩∧vw m3 (r0+6)=some ⟨true,3,false,[.int .i64 0]⟩ ∧
   Sl [.string ⟨⟨tx⟩⟩,undef,.pointer (some ⟨r0,0,none⟩),.pointer (some ⟨r0+1,0,none⟩),.pointer (some ⟨r0+2,0,none⟩),.pointer (some ⟨r0+3,0,none⟩),.pointer (some ⟨r0+5,0,none⟩),.pointer (some ⟨r0+6,0,none⟩)] 32 l) ?_ ?_
 rotate_left
 ·refine Qal fun Q' hQ=>?_
  obtain⟨y7,ts',rfl,hts'⟩:=Qe9 (n:=32) hts
  simp [hts',hn2]
  subst hQ
  have hv0:vw (Qah m2 (Qcf 3 1 [.int .i64 0])) (r0+6)=some ⟨true,3,false,[.int .i64 0]⟩:=by simp [hn2]
  have hO3:Old m2.next m2 (stM (Qah m2 (Qcf 3 1 [.int .i64 0])) (r0+6) 0 [.int .i64 0]):=((Old.refl _ _).new (Knr _) _).st (by omega) _ _
  refine⟨rfl,?_,by rw [Qav];simp [hn2],hO2.trans (hO3.le hO2.1),?_,?_,?_,Sl.mk rfl (by simp [hts'])⟩
  ·obtain⟨q1,q2,q3,q4⟩:=hR2
   exact⟨by rw [hO3.vw (by omega)];exact q1,by rw [hO3.vw (by omega)];exact q2,by rw [hO3.vw (by omega)];exact q3,by rw [hO3.vw (by omega)];exact q4⟩
  ·rw [hO3.vw (by omega)];exact hs2
  ·rw [hO3.vw (by omega)];exact hp2
  ·rw [Qau hv0 (Qby rfl (by simp) rfl)];rfl
 clear hts hR2 hn2 hO2 hs2 hp2
 rintro l ds m3 ⟨rfl,hR3,hn3,hO3,hs3,hp3,hc3,ts,hts,rfl⟩
 refine Qek (fun l ds m'=>ds=[coll (r0+10)]∧Sl [.string ⟨⟨tx⟩⟩,undef,.pointer (some ⟨r0,0,none⟩),.pointer (some ⟨r0+1,0,none⟩),.pointer (some ⟨r0+2,0,none⟩),.pointer (some ⟨r0+3,0,none⟩),.pointer (some ⟨r0+5,0,none⟩),.pointer (some ⟨r0+6,0,none⟩)] 32 l∧∃ s n,Qcr s n []=Qbb tx∧PI m r0 s n m') ?_ ?_
 ·rintro l ds m5 ⟨rfl,⟨us,hus,rfl⟩,s,n,hgo,hP⟩
  have h8:8≤r0:=by omega
  obtain⟨v,hv,hst⟩:=hP.scr
  have z10:∀ x v b,(Qbm x v b)[10]? = some (.bool b):=fun _ _ _=>rfl
  have z9:∀ x v b,(Qbm x v b)[9]? = some v:=fun _ _ _=>rfl
  have ht9:∀ x v b,Qbv (Qbm x v b) 0 9=Qa4 x:=fun _ _ _=>rfl
  refine xseq (xseq (Qal fun Q' hQ=>?_))
  simp [hus,hP.ptr,hv,z10]
  subst hQ
  cases hbg:s.begun with
  |false =>
   have hpo2:Qbb tx=(stu0,[],1,210):=by rw [← hgo];simp [Qcr,hbg]
   refine xyes (by simp [hus,hbg]) ?_
   obtain⟨p2,p3,p4,m2,e2,hR2,hn2,hg2⟩:=Qvs (x:=stu0) (v:=.slice none 0 0) (n:=1) (e:=210) hP.res rfl
   obtain⟨q1,q2,q3,q4⟩:=hP.res
   simp only [Qa4,stu0] at q1 p2 p3 p4 e2
   refine xsr fun Q' hQ=>?_
   simp [hus,q1,p2,p3,p4]
   subst hQ
   rw [← e2]
   refine xret (fin1 (v:=.slice none 0 0) (by rw [hpo2];exact hR2) (by rw [hpo2];exact Qjw _ _) ?_ (by rw [hg2 _ (by omega)];exact hP.dfr) ⟨34,Sl.mk rfl (by simp [hus])⟩)
   exact⟨by rw [hn2];exact hP.old.1,fun x hx=>by rw [hg2 x (by omega)];exact hP.old.2 x hx⟩
  |true =>
   have hpo2:Qbb tx=(s.setup,s.steps,0,0):=by rw [← hgo];simp [Qcr,hbg]
   refine xno (by simp [hus,hbg]) (Qbd ?_)
   obtain⟨av,rfl⟩:=hst.shape
   obtain⟨p2,p3,p4,m2,e2,hR2,hn2,hg2⟩:=Qvs (x:=s.setup) (v:=.slice av s.steps.length s.steps.length) (n:=0) (e:=0) hP.res rfl
   obtain⟨q1,q2,q3,q4⟩:=hP.res
   have hptr:=hP.ptr
   have c1:vw (stM m5 r0 0 (Qa4 s.setup)) (r0+5)=some ⟨true,97,false,[.pointer (some ⟨r0+4,0,none⟩)]⟩:=by rw [Qa9 (by omega)];exact hptr
   have c2:vw (stM m5 r0 0 (Qa4 s.setup)) (r0+4)=some ⟨true,99,false,Qbm s.setup (.slice av s.steps.length s.steps.length) s.begun⟩:=by rw [Qa9 (by omega)];exact hv
   have hveq:vEq 100 (.agg ⟨Qa4 s.setup⟩) (.agg ⟨Qa4 s.setup⟩)=true:=by
    refine vEq_a fun v hv=>?_
    simp only [Qa4,List.mem_cons,List.not_mem_nil,or_false] at hv
    rcases hv with rfl|rfl|rfl|rfl|rfl|rfl|rfl|rfl|rfl<;>exact Qyq _ _ _
   simp only [Qa4,stu0] at q1
   simp only [Qa4] at p2 p3 p4 e2 ht9 c1 c2 hveq
   refine xseq (xdrw 6 fun Q' hQ=>?_)
   simp [hus,hptr,hv,z9,ht9,scrl,q1,p2,p3,p4,c1,c2,hveq]
   subst hQ
   rw [← e2]
   refine xret (fin1 (v:=.slice av s.steps.length s.steps.length) (by rw [hpo2];exact hR2) ?_ ?_ (by rw [hg2 _ (by omega)];exact hP.dfr) ⟨34,Sl.mk rfl (by simp [hus])⟩)
   ·rw [hpo2]
    obtain⟨cells,k1,k2,k3⟩:=hst
    have hmono:∀ {v:Value} {e:TypeId} {k:Nat} {cs:List Value},Own (r0+12) m5 v e k cs→Own m.next m2 v e k cs:=fun h=>(h.ex (by omega) fun x hx h0 hV=>hg2 x (by omega)).le (by omega)
    refine⟨cells,hmono k1,k2,fun k s' hs'=>?_⟩
    obtain⟨d,c,k4,k5,k6⟩:=k3 k s' hs'
    exact⟨d,c,k4,hmono k5,hmono k6⟩
   ·exact⟨by rw [hn2];exact hP.old.1,fun x hx=>by rw [hg2 x (by omega)];exact hP.old.2 x hx⟩
 refine xsr fun Q' hQ=>?_
 simp [hts]
 refine Qak (Qad (by decide)) (Qtv (m:=m3) ⟨⟨tx⟩⟩ ⟨⟨[10]⟩⟩) ?_ (fun ch m' h=>h.elim)
 rintro r m4 ⟨rfl,hb0,hb1,hb2,hO4,hn4⟩
 rw [hn3] at hb0 hb1 hb2 hn4 hO4
 subst hQ
 obtain⟨hcl1,hcl2⟩:=Qux tx
 refine Qax (xrng rfl rfl (by rw [fget Tryz.func19];rfl) fun L h1 h2 h3 h4 h5 h6 h7 hok=>?_)
 rw [hn4] at h7
 simp only [hn4,hn3,Nat.add_assoc,Nat.reduceAdd] at h7 hb0 hb1 hb2 h2 ⊢
 rw [Qei]
 simp [hts]
 have hL18:([.string ⟨⟨tx⟩⟩,undef,.pointer (some ⟨r0,0,none⟩),.pointer (some ⟨r0+1,0,none⟩),.pointer (some ⟨r0+2,0,none⟩),.pointer (some ⟨r0+3,0,none⟩),.pointer (some ⟨r0+5,0,none⟩),.pointer (some ⟨r0+6,0,none⟩)]++ts:List Value).length=40:=by simp [hts]
 have hO4':Old m.next m m4:=hO3.trans (hO4.le (by omega))
 have hB:∀ x,x<r0+10→(Qah (Qah m4 (.dfr (some []))) (L.ob .ready none)).objs.get x=m4.objs.get x:=fun x hx=>by
  rw [Qan,if_neg (by rw [Qaf];omega),Qan,if_neg (by omega)]
 have hBv:∀ x,x<r0+10→vw (Qah (Qah m4 (.dfr (some []))) (L.ob .ready none)) x=vw m4 x:=fun x hx=>by unfold vw;rw [hB x hx]
 have hv4:∀ x,x<r0+7→vw m4 x=vw m3 x:=fun x hx=>hO4.vw hx
 have hI0:PI m r0 ⟨stu0,[],false⟩ 0 (Qah (Qah m4 (.dfr (some []))) (L.ob .ready none)):=by
  obtain⟨q1,q2,q3,q4⟩:=hR3
  refine⟨⟨?_,?_,?_,?_⟩,(hO4'.new (by omega) _).new (by rw [Qaf];omega) _,by rw [Qaf,Qaf];omega,⟨.slice none 0 0,?_,Qjw _ _⟩,?_,?_,?_,?_,?_,?_⟩
  ·rw [hBv _ (by omega),hv4 _ (by omega)];exact q1
  ·rw [hBv _ (by omega),hv4 _ (by omega)];exact q2
  ·rw [hBv _ (by omega),hv4 _ (by omega)];exact q3
  ·rw [hBv _ (by omega),hv4 _ (by omega)];exact q4
  ·rw [hBv _ (by omega),hv4 _ (by omega)];exact hs3
  ·rw [hBv _ (by omega),hv4 _ (by omega)];exact hp3
  ·rw [hBv _ (by omega),hv4 _ (by omega)];exact hc3
  ·rw [hBv _ (by omega)];exact hb1
  ·rw [hBv _ (by omega)];exact hb2
  ·rw [Qan,if_neg (by rw [Qaf];omega),Qan,if_pos (by omega)]
  ·exact (hE.old ((hO4'.new (by omega) _).new (by rw [Qaf];omega) _) (by omega))
 have hlp0:(Qah (Qah m4 (.dfr (some []))) (L.ob .ready none)).objs.get (r0+11)=some (L.ob .ready none):=by rw [Qan,if_pos (by rw [Qaf];omega)]
 have hb00:vw (Qah (Qah m4 (.dfr (some []))) (L.ob .ready none)) (r0+7)=some ⟨true,9,false,[.string ⟨⟨tx⟩⟩]⟩:=by rw [hBv _ (by omega)];exact hb0
 generalize Qah (Qah m4 (.dfr (some []))) (L.ob .ready none)=m5 at hI0 hlp0 hb00
 clear hB hBv hv4 hO4' hO4 hb0 hb1 hb2 hR3 hO3 hs3 hp3 hc3 hn3 hn4
 have h8:8≤r0:=by omega
 refine Qak (Qad (by decide)) (seq_ok (lp:=r0+11) (b0:=r0+7) (b1:=r0+8) (b2:=r0+9)
  (I:=fun ls m'=>∃ (s:Scr) (n:Nat),Qcr s (n:Int) ls=Qbb tx∧PI m r0 s (n:Int) m'∧m'.objs.get (r0+11)=some (L.ob .ready none)∧n+ls.length≤1048578∧s.steps.length≤n∧∀ l∈ls,l.length≤1900000)
  (Fn:=fun m'=>∃ n:Int,Qbb tx=(stu0,[],n,210)∧Qkp m' r0 stu0 (.slice none 0 0) n 210∧Old m.next m m'∧m'.objs.get (r0+10)=some (.dfr (some []))∧m'.objs.get (r0+11)=some (L.ob .done (some .ret)))
  ?_ ?_ ?_ ?_ hb00 (by omega)) ?_ (fun ch m' h=>h.elim)
 ·
  rintro l ls m6 ⟨s,n,hgo,hP,hlp,hnl,hsl,hll⟩
  refine Qxc hlp hok h4 (by simp [hts]) h2 (by rw [h3];simp) h5 h6 ?_
  rw [h1]
  refine Qal fun Q' hQ=>?_
  simp [hts]
  subst hQ
  refine⟨rfl,rfl,none,hlp,?_⟩
  have hP7:=hP.same (Same.put m6 (r0+11) (L.ob .busy none)) hr0 (by simp) h8
  have hv7:vw (Qas m6 (r0+11) (L.ob .busy none)) (r0+7)=vw m6 (r0+7):=(Same.put _ _ _).vw (by simp)
  have hl7:(Qas m6 (r0+11) (L.ob .busy none)).objs.get (r0+11)=some (L.ob .busy none):=by rw [Qbk,if_pos rfl]
  generalize Qas m6 (r0+11) (L.ob .busy none)=m7 at hP7 hv7 hl7
  refine Qax (xseq (Qal fun Q' hQ=>?_))
  obtain⟨n1,hn1⟩:∃ n1,n1=n+1:=⟨_,rfl⟩
  simp only [Klc] at hnl
  have hw1:IntKind.wrap .i64 ((n:Int)+1)=(n1:Int):=by rw [wr64 _ (by omega) (by omega)];omega
  simp [hts,hP7.cnt,hw1]
  subst hQ
  have hP8:=hP7.count hr0 h8 (n1:Int)
  have hv8:vw (stM m7 (r0+6) 0 [.int .i64 (n1:Int)]) (r0+7)=vw m6 (r0+7):=by rw [(Same.st _ _ _ _).vw (by simp)];exact hv7
  have hl8:(stM m7 (r0+6) 0 [.int .i64 (n1:Int)]).objs.get (r0+11)=some (L.ob .busy none):=by rw [(Same.st _ _ _ _).2 _ (by simp)];exact hl7
  generalize stM m7 (r0+6) 0 [.int .i64 (n1:Int)]=m8 at hP8 hv8 hl8
  refine xsr fun Q' hQ=>?_
  simp [hts,hP8.ptr]
  refine Qak (Qad (by decide)) (take_ok (tx:=l) hP8.scr (by omega) hP8.nx (by omega) hP8.err (hll l (.head _)) (by omega)) ?_ (fun ch m' h=>h.elim)
  rintro r m9 ⟨b,rfl,hC9,⟨s',htk,rfl,hS9⟩|⟨htk,rfl⟩⟩
  ·simp [hts]
   subst hQ
   refine xno (by simp [hts]) (Qbd ?_)
   have hP9:=hP8.take hr0 h8 hC9 hS9
   have k:=Same.put m9 (r0+11) (L.ob .ready none)
   have hsl':s'.steps.length≤n1:=by
    unfold Qc5 at htk
    split at htk
    ·cases htk
    ·cases htk;omega
    ·split at htk
     ·cases htk
     ·cases htk;simp only;omega
    ·split at htk
     ·cases htk;simp only [Kla,Klc,Kln];omega
     ·cases htk
   refine⟨rfl,⟨.busy,none,by rw [hC9.2 _ (by omega) (by simp)];exact hl8⟩,?_,.inl ⟨rfl,s',n1,?_,hP9.same k hr0 (by simp) h8,by rw [Qbk,if_pos rfl],by omega,hsl',fun l' hl'=>hll l' (.tail _ hl')⟩⟩
   ·rw [k.vw (by simp),hC9.vw (by omega) (by simp)];exact hv8
   ·rw [← hgo];simp only [Qcr,htk];rw [hn1];simp
  ·simp [hts]
   subst hQ
   refine xyes (by simp [hts]) ?_
   have hres9:Qkp m9 r0 stu0 (.slice none 0 0) 0 0:=hP8.res.eq fun y h1 h2=>hC9.2 y (by omega) (by simp;omega)
   have hcnt9:vw m9 (r0+6)=some ⟨true,3,false,[.int .i64 (n1:Int)]⟩:=by rw [hC9.vw (by omega) (by simp)];exact hP8.cnt
   obtain⟨p2,p3,p4,m10,e10,hR10,hn10,hg10⟩:=Qvs (x:=stu0) (v:=.slice none 0 0) (n:=(n1:Int)) (e:=210) hres9 rfl
   obtain⟨q1,q2,q3,q4⟩:=hres9
   simp only [Qa4,stu0] at q1 p2 p3 p4 e10
   have c1:vw (stM m9 r0 0 [.int .i64 0,.int .u64 0,.int .u64 0,.int .i64 0,.int .i64 0,.int .i64 0,.int .i64 0,.int .i64 0,.int .u64 0]) (r0+6)=some ⟨true,3,false,[.int .i64 (n1:Int)]⟩:=by rw [Qa9 (by omega)];exact hcnt9
   have c2:vw (stM (stM m9 r0 0 [.int .i64 0,.int .u64 0,.int .u64 0,.int .i64 0,.int .i64 0,.int .i64 0,.int .i64 0,.int .i64 0,.int .u64 0]) (r0+1) 0 [.slice none 0 0]) (r0+6)=some ⟨true,3,false,[.int .i64 (n1:Int)]⟩:=by rw [Qa9 (by omega)];exact c1
   refine xseq (xdrw 6 fun Q' hQ=>?_)
   simp [hts,q1,p2,p3,p4,hcnt9,c1,c2]
   subst hQ
   rw [← e10]
   have k:=Same.put m10 (r0+11) (L.ob .done (some .ret))
   have hO9:Old m.next m m9:=⟨Knt hP8.old.1 hC9.1,fun x hx=>by rw [hC9.2 x (by omega) (by simp;omega)];exact hP8.old.2 x hx⟩
   refine xret ⟨rfl,⟨.busy,none,by rw [hg10 _ (by omega),hC9.2 _ (by omega) (by simp)];exact hl8⟩,?_,.inr ⟨rfl,(n1:Int),?_,hR10.eq fun y h1 h2=>k.2 y (by simp;omega),?_,?_,by rw [Qbk,if_pos rfl]⟩⟩
   ·rw [k.vw (by simp)]
    have:vw m10 (r0+7)=vw m9 (r0+7):=by unfold vw;rw [hg10 _ (by omega)]
    rw [this,hC9.vw (by omega) (by simp)];exact hv8
   ·rw [← hgo];simp only [Qcr,htk];rw [hn1];simp
   ·exact k.old ⟨by rw [hn10];exact hO9.1,fun x hx=>by rw [hg10 x (by omega)];exact hO9.2 x hx⟩ (by simp;omega)
   ·rw [k.2 _ (by simp),hg10 _ (by omega),hC9.2 _ (by omega) (by simp)];exact hP8.dfr
 ·rintro ls m6 y ⟨s,n,hgo,hP,hlp,hnl,hsl,hll⟩
  have k:=Same.st m6 (r0+7) 0 [.string y]
  exact⟨s,n,hgo,hP.same k hr0 (by simp) h8,by rw [k.2 _ (by simp)];exact hlp,hnl,hsl,hll⟩
 ·rintro ls m6 ⟨s,n,hgo,hP,_⟩
  exact⟨hP.b1,hP.b2⟩
 ·exact⟨⟨stu0,[],false⟩,0,hpo.symm,hI0,hlp0,by omega,by simp,fun l hl=>Knt (hcl2 l hl) (by omega)⟩
 ·rintro v m6 (⟨s,n,hgo,hP,hlp,_⟩|⟨n,hpo2,hR6,hO6,hd6,hlp⟩)
  ·exact .inl ⟨.ready,by simp,hlp,rfl,Sl.mk rfl (by simp [hts]),s,n,hgo,hP.same (Same.put m6 (r0+11) _) hr0 (by simp) h8⟩
  ·have k:=Same.put m6 (r0+11) (L.ob .exhausted (some .ret))
   refine .inr ⟨.done,by simp,hlp,fin1 (v:=.slice none 0 0) ?_ ?_ (k.old hO6 (by simp;omega)) (by rw [k.2 _ (by simp)];exact hd6) ⟨34,Sl.mk rfl (by simp [hts])⟩⟩
   ·rw [hpo2];exact hR6.eq fun y h1 h2=>k.2 y (by simp;omega)
   ·rw [hpo2];exact Qjw _ _
end Go.Proofs.YtgmkbdmgifdfeaaGreatDoor

set_option maxRecDepth 8000
namespace Go.Proofs.YtgmkbdmgifdfeaaGreatDoor
open Go Go.Ev
def Qai (x:Stu):List Value:=[.int .i64 x.mtu,.int .u64 x.ack,.int .u64 x.retry,.int .i64 x.retries,.int .i64 x.window,.int .i64 x.inbox,.int .i64 x.sectors,.int .i64 x.room,.int .u64 x.start]
theorem Qd5 (s:Stp) (d c:Value):(Qaa s d c).length=17:=rfl
def Qbx (n0:Nat) (m:Mem) (v:Value) (ss:List Stp):Prop :=
 ∃ cells,SlOld n0 m v ss.length cells∧cells.length=ss.length*17∧∀ k s,ss[k]? = some s→s.R∧∃ d c,Qbv cells (k*17) 17=Qaa s d c∧SlOld n0 m d s.data.length (u8s s.data)∧SlOld n0 m c s.choices.length (i64s s.choices)
theorem Qbx.old {n0:Nat} {m m':Mem} {v:Value} {ss:List Stp} (h:Qbx n0 m v ss) (k:Old n0 m m'):Qbx n0 m' v ss:=by
 obtain⟨cells,h1,h2,h3⟩:=h
 refine⟨cells,h1.old k,h2,fun j s hj=>?_⟩
 obtain⟨h4,d,c,h5,h6,h7⟩:=h3 j s hj
 exact⟨h4,d,c,h5,h6.old k,h7.old k⟩
theorem _root_.Go.Ev.SlOld.up {n0 n1 n:Nat} {m:Mem} {v:Value} {cells:List Value} (h:SlOld n0 m v n cells) (k:n0≤n1):SlOld n1 m v n cells:=by
 rcases h with h|⟨b,o,c,rfl,h1,h2|⟨h2,h3⟩⟩
 ·exact .inl h
 ·exact .inr ⟨b,o,c,rfl,h1,.inl h2⟩
 ·exact .inr ⟨b,o,c,rfl,h1,.inr ⟨h2,Nat.lt_of_lt_of_le h3 k⟩⟩
theorem Qbx.up {n0 n1:Nat} {m:Mem} {v:Value} {ss:List Stp} (h:Qbx n0 m v ss) (k:n0≤n1):Qbx n1 m v ss:=by
 obtain⟨cells,h1,h2,h3⟩:=h
 refine⟨cells,h1.up k,h2,fun j s hj=>?_⟩
 obtain⟨h4,d,c,h5,h6,h7⟩:=h3 j s hj
 exact⟨h4,d,c,h5,h6.up k,h7.up k⟩
theorem Qbx.shape {n0:Nat} {m:Mem} {v:Value} {ss:List Stp} (h:Qbx n0 m v ss):∃ a c,v=.slice a ss.length c:=by
 obtain⟨cells,h1,_⟩:=h
 rcases h1 with ⟨rfl,h1,_⟩|⟨b,o,c,rfl,_⟩
 ·exact⟨none,0,by rw [h1]⟩
 ·exact⟨_,_,rfl⟩
theorem Qbx.load {n0:Nat} {m:Mem} {v:Value} {ss:List Stp} (h:Qbx n0 m v ss) (hn:n0≤m.next) {k:Nat} {s:Stp} (hk:ss[k]? = some s) :
  ∃ b o c,v=.slice (some ⟨b,o,none⟩) ss.length c∧s.R∧∃ ad dc ac cc,Qdz tb 36 m (.pointer (some ⟨b,o+k*17,none⟩))=.r (.agg ⟨Qaa s (.slice ad s.data.length dc) (.slice ac s.choices.length cc)⟩) ∧
    SlOld n0 m (.slice ad s.data.length dc) s.data.length (u8s s.data)∧SlOld n0 m (.slice ac s.choices.length cc) s.choices.length (i64s s.choices)∧(Qaa s (.slice ad s.data.length dc) (.slice ac s.choices.length cc)).all oneC=true∧n0≤m.next∧k<ss.length:=by
 obtain⟨cells,h1,h2,h3⟩:=h
 obtain⟨h4,d,c,h5,h6,h7⟩:=h3 k s hk
 have hk1:=(Kgs.1 hk).1
 obtain⟨b,o,c',h8,h9,h10,h11,h12⟩:=(h1.at hn).loadA (k:=k*17) (sz:=17) (by omega) (by omega)
 obtain⟨ad,dc,rfl⟩:=(h6.at hn).shape
 obtain⟨ac,cc,rfl⟩:=(h7.at hn).shape
 refine⟨b,o,c',h8,h4,ad,dc,ac,cc,?_,h6,h7,rfl,hn,hk1⟩
 rw [h12 Ty.ti36 Ty.g36 Ty.s36,h5]
theorem Qgh (m:Mem) (t:TypeId) (n:Nat) (z cells:List Value) (hz:n=z.length) (h1:cells.length=z.length) (h2:cells.all oneC=true) :
  ∃ m3,m3=stM (Qah m (Qcf t n z)) m.next 0 cells∧m3.next=m.next+1∧vw m3 m.next=some ⟨true,t,false,cells⟩∧∀ x,x<m.next→m3.objs.get x=m.objs.get x:=by
 subst hz
 have hA:vw (Qah m (Qcf t z.length z)) m.next=some ⟨true,t,false,z⟩:=by rw [Qcs,if_pos rfl];exact Qh0 t z
 have hS:stOk ⟨true,t,false,z⟩ 0 cells=true:=by simp [h1,h2]
 refine⟨_,rfl,by rw [Qav,Qaf],?_,fun x hx=>by rw [Qcu (by omega),Qan,if_neg (by omega)]⟩
 rw [Qau hA hS,Qvj (by simp [h1])]
 simp [h1]
def Safe (m:Mem) (p:Nat) (v:Value) (x:Nat):Prop:=x<m.next∧x≠p∧blkV v≠some x
theorem Two.safe {m m':Mem} {p:Nat} {v v':Value} {x:Nat} (h:Two m m' p v v') (s:Safe m p v x):Safe m' p v' x∧vw m' x=vw m x:=by
 obtain⟨h1,h2⟩:=h.2 x s.1 s.2.1 s.2.2
 exact⟨⟨Nat.lt_of_lt_of_le s.1 h.1,s.2.1,h2⟩,by unfold vw;rw [h1]⟩
theorem Prn.safe_new {n0 p:Nat} {m m':Mem} {v:Value} {out:List UInt8} {g:Bool} (h:Prn n0 m p v out g) (hn:m.next<m'.next):Safe m' p v m.next:=by
 obtain⟨a,hge,hlt,hty,hrow,hadr,hown,hne⟩:=h
 refine⟨hn,by omega,?_⟩
 rcases hown with ⟨rfl,_⟩|⟨b,rfl,h1,h2,h3⟩
 ·intro e;cases e
 ·intro e;have e2:b=m.next:=Kai e;omega
theorem Prn.grow {n0 p:Nat} {m m':Mem} {v:Value} {out:List UInt8} {g:Bool} (h:Prn n0 m p v out g) (k:∀ x,x<m.next→m'.objs.get x=m.objs.get x) (hn:m.next≤m'.next):Prn n0 m' p v out g:=by
 obtain⟨a,h⟩:=h
 exact⟨a,h.lift (fun x _ hx=>k x hx) hn⟩
theorem Qvp {m m':Mem} {p k0:Nat} {v v':Value} (h:Two m m' p v v') (hs:∀ x,k0≤x→x<k0+109→Safe m p v x) (hr:Qbl Qaq m k0):(∀ x,k0≤x→x<k0+109→Safe m' p v' x)∧Qbl Qaq m' k0 :=
 ⟨fun x h1 h2=>(h.safe (hs x h1 h2)).1,hr.keep fun x h1 h2=>(h.2 x (hs x h1 h2).1 (hs x h1 h2).2.1 (hs x h1 h2).2.2).1⟩
theorem Qa6 (l:List UInt8):(Qde l).length≤4*l.length+2:=by
 have:∀ l:List UInt8,(l.flatMap Qbj).length≤4*l.length:=by
  intro l
  induction l with
  |nil=>simp
  |cons b l ih =>
   have:(Qbj b).length≤4:=by unfold Qbj;repeat (split<;>try simp)
   simp only [List.flatMap_cons,Kla,Klc];omega
 have:=this l
 simp only [Qde,Klc,Kla,Kln];omega
theorem Qwc (l:List Int) (h:∀ x∈l,i64R x):(l.flatMap decI).length≤22*l.length:=by
 induction l with
 |nil=>simp
 |cons b l ih =>
  have h1:=Qfa (h b (by simp))
  have h2:=ih fun x hx=>h x (by simp [hx])
  simp only [List.flatMap_cons,Kla,Klc,decI] at h2 ⊢;omega
theorem Qac {z:Int} (h:i64R z):(decI z).length≤22:=by have:=Qfa h;simp only [decI,Klc];omega
theorem Qab {z:Int} (h:u64R z):(decU z).length≤21:=by have:=Qn2 h;simp only [decU,Klc];omega
theorem fd_le {s:Stp} (h:s.R) (f:Fd):(f.text s).length≤25+22*s.choices.length+4*s.data.length:=by
 have hm:u64R s.mask:=⟨h.mask.1,by have:=h.mask.2;omega⟩
 cases f
 case stream=>have:=Qac h.stream;simp only [Fd.text];omega
 case qc=>have:=Qac h.qc;simp only [Fd.text];omega
 case qb=>have:=Qac h.qb;simp only [Fd.text];omega
 case place=>have:=Qac h.place;simp only [Fd.text];omega
 case pos=>have:=Qac h.pos;simp only [Fd.text];omega
 case cursor=>have:=Qac h.cursor;simp only [Fd.text];omega
 case time=>have:=Qab h.time;simp only [Fd.text];omega
 case life=>have:=Qab h.life;simp only [Fd.text];omega
 case seq=>have:=Qab h.seq;simp only [Fd.text];omega
 case to=>have:=Qab h.to;simp only [Fd.text];omega
 case ticks=>have:=Qab h.ticks;simp only [Fd.text];omega
 case mask=>have:=Qab hm;simp only [Fd.text];omega
 case data=>have:=Qa6 s.data;simp only [Fd.text,Klc];omega
 case way=>simp only [Fd.text];split<;>simp<;>omega
 case choices=>have:=Qwc s.choices h.choices;simp only [Fd.text];omega
theorem Qqt (k:Nat):(fieldsOf k).length≤4:=by unfold fieldsOf;split<;>simp
theorem Qyk (k:Nat):(Qay k).length≤8:=by unfold Qay;split<;>simp
theorem Qv5 {s:Stp} (h:s.R) (l:List Fd):(l.flatMap fun f=>f.text s).length≤l.length*(25+22*s.choices.length+4*s.data.length):=by
 induction l with
 |nil=>simp
 |cons f l ih =>
  have:=fd_le h f
  simp only [List.flatMap_cons,Kla,Klc]
  rw [Nat.succ_mul];omega
def Qfe (s:Stp):Nat:=400+100*s.choices.length+20*s.data.length
theorem line_le {s:Stp} (h:s.R):(Qbo s).length≤Qfe s:=by
 have h1:=Qv5 h (fieldsOf s.kind.toNat)
 have h2:=Qqt s.kind.toNat
 have h3:=Qyk s.kind.toNat
 have h4:(fieldsOf s.kind.toNat).length*(25+22*s.choices.length+4*s.data.length)≤4*(25+22*s.choices.length+4*s.data.length):=Nat.mul_le_mul_right _ h2
 have h5:=Qfa h.node
 unfold Qbo Qfe
 simp only [Kla,Klc,Kln]
 split<;>simp only [Kln,Kla,Klc]<;>omega
def Qbg (ss:List Stp):Nat:=(ss.map Qfe).sum
theorem Qmf (ss:List Stp) (h:∀ s∈ss,s.R):(ss.flatMap Qbo).length≤Qbg ss:=by
 induction ss with
 |nil=>simp [Qbg]
 |cons s ss ih =>
  have h1:=line_le (h s (by simp))
  have h2:=ih fun x hx=>h x (by simp [hx])
  simp only [List.flatMap_cons,Kla,Qbg,List.map_cons,List.sum_cons] at h2 ⊢;omega
theorem Qhz (ss:List Stp) {k:Nat} {s:Stp} (h:ss[k]? = some s):Qbg (ss.take k)+Qfe s≤Qbg ss:=by
 have hk:=(Kgs.1 h).1
 have:ss=ss.take k++s::ss.drop (k+1):=by
  rw [← Kgs.1 h |>.2,List.getElem_cons_drop,List.take_append_drop]
 conv=>rhs;rw [this]
 simp only [Qbg,List.map_append,List.sum_append,List.map_cons,List.sum_cons];omega
theorem Ja4 {x:Stu} (h:x.R):(Qcg x).length≤300:=by
 have h1:=Qac h.sectors;have h2:=Qac h.room;have h3:=Qab h.start;have h4:=Qac h.mtu;have h5:=Qab h.ack;have h6:=Qab h.retry
 have h7:=Qac h.retries;have h8:=Qac h.window;have h9:=Qac h.inbox
 simp only [Qcg,Kla,Klc,Kln];omega
theorem Qnu {n0 p k0:Nat} {m:Mem} {rv pv:Value} {f:Fd} (hn:n0≤m.next) (hp:Qb4 m) (hp0:0<n0) (h:IsFd m k0 rv pv f) (hk:k0+109≤m.next) :
  ∃ fn caps,pv=.func (.func fn) ⟨[]⟩ ⟨caps⟩∧tb.ov.get fn=none∧∀ (s:Stp) (d c v:Value) (out:List UInt8) (g:Bool),(f=.way→s.way=1∨s.way=2)→s.R→SlOld n0 m d s.data.length (u8s s.data)→SlOld n0 m c s.choices.length (i64s s.choices)→Prn n0 m p v out g→out.length+25*s.choices.length+10*s.data.length≤800000000 →
    Qaw tb fn ([.pointer (some ⟨p,0,none⟩),.agg ⟨Qaa s d c⟩]++caps) m (retR fun r m'=>∃ v',Prn n0 m' p v' (out++f.text s) (g||f.great s)∧Old n0 m m'∧Two m m' p v v'):=by
 have hi:∀ (f:Fd) (o:Nat),(∃ cb,k0≤cb∧cb<k0+109∧rv=.func (.func 83) ⟨[]⟩ ⟨[.pointer (some ⟨cb,0,none⟩)]⟩∧pv=.func (.func 85) ⟨[]⟩ ⟨[.pointer (some ⟨cb,0,none⟩)]⟩∧vw m cb=some ⟨true,118,false,[.func (.func (adrOf f)) ⟨[]⟩ ⟨[]⟩]⟩)→Adr (adrOf f) o →
   (∀ s:Stp,∀ d c,s.R→∃ z,(Qaa s d c)[o]? = some (.int .i64 z)∧i64R z∧f.text s=decI z∧f.great s=Qam z)→∃ fn caps,pv=.func (.func fn) ⟨[]⟩ ⟨caps⟩∧tb.ov.get fn=none∧PrK f fn caps n0 p m:=by
  rintro f o ⟨cb,h1,h2,_,rfl,h3⟩ ha hf
  exact⟨_,_,rfl,Qad (by decide),Jay ha hn hp hp0 h3 (by omega) hf⟩
 have hu:∀ (f:Fd) (g o:Nat),(∃ cb,k0≤cb∧cb<k0+109∧rv=.func (.func 86) ⟨[]⟩ ⟨[.pointer (some ⟨cb,0,none⟩)]⟩∧pv=.func (.func 88) ⟨[]⟩ ⟨[.pointer (some ⟨cb,0,none⟩)]⟩∧vw m cb=some ⟨true,121,false,[.func (.func g) ⟨[]⟩ ⟨[]⟩]⟩)→Adr g o →
   (∀ s:Stp,∀ d c,s.R→∃ z,(Qaa s d c)[o]? = some (.int .u64 z)∧u64R z∧f.text s=decU z∧f.great s=false)→∃ fn caps,pv=.func (.func fn) ⟨[]⟩ ⟨caps⟩∧tb.ov.get fn=none∧PrK f fn caps n0 p m:=by
  rintro f g o ⟨cb,h1,h2,_,rfl,h3⟩ ha hf
  exact⟨_,_,rfl,Qad (by decide),Jah ha hn hp hp0 h3 (by omega) hf⟩
 by_cases hw:f=.way
 ·subst hw
  obtain⟨_,rfl⟩:=h
  refine⟨96,[],rfl,Qad (by decide),fun s d c v out g hway _ _ _ hP hb=>?_⟩
  have:=Qym hn s d c v out g (hway rfl) hP (by omega)
  simpa [Fd.great] using this
 ·suffices hs:∃ fn caps,pv=.func (.func fn) ⟨[]⟩ ⟨caps⟩∧tb.ov.get fn=none∧PrK f fn caps n0 p m by
   obtain⟨fn,caps,h1,h2,h3⟩:=hs
   exact⟨fn,caps,h1,h2,fun s d c v out g _=>h3 s d c v out g⟩
  cases f
  case way=>exact absurd rfl hw
  case data=>exact⟨92,[],h.2,Qad (by decide),Qx2 hn⟩
  case mask=>exact⟨101,[],h.2,Qad (by decide),Qxl hn hp hp0⟩
  case choices=>exact⟨103,[],h.2,Qad (by decide),Qq1 hn hp hp0⟩
  case stream=>exact hi .stream 2 h adr82 fun s d c hR=>⟨_,rfl,hR.stream,rfl,rfl⟩
  case qc=>exact hi .qc 7 h adr51 fun s d c hR=>⟨_,rfl,hR.qc,rfl,rfl⟩
  case qb=>exact hi .qb 8 h adr52 fun s d c hR=>⟨_,rfl,hR.qb,rfl,rfl⟩
  case place=>exact hi .place 10 h adr97 fun s d c hR=>⟨_,rfl,hR.place,rfl,rfl⟩
  case pos=>exact hi .pos 11 h adr98 fun s d c hR=>⟨_,rfl,hR.pos,rfl,rfl⟩
  case cursor=>exact hi .cursor 15 h adr104 fun s d c hR=>⟨_,rfl,hR.cursor,rfl,rfl⟩
  case time=>exact hu .time 89 3 h adr89 fun s d c hR=>⟨_,rfl,hR.time,rfl,rfl⟩
  case life=>exact hu .life 55 4 h adr55 fun s d c hR=>⟨_,rfl,hR.life,rfl,rfl⟩
  case seq=>exact hu .seq 54 6 h adr54 fun s d c hR=>⟨_,rfl,hR.seq,rfl,rfl⟩
  case to=>exact hu .to 56 16 h adr56 fun s d c hR=>⟨_,rfl,hR.to,rfl,rfl⟩
  case ticks=>exact hu .ticks 57 13 h adr57 fun s d c hR=>⟨_,rfl,hR.ticks,rfl,rfl⟩
end Go.Proofs.YtgmkbdmgifdfeaaGreatDoor

