/- A part of a proof: ScriptOwn. -/
import Derived.Test.YtgmkbdmgifdfeaaGreatDoorF18
set_option linter.unusedVariables false
set_option linter.unusedSimpArgs false
set_option maxRecDepth 8000
namespace Go.Proofs.YtgmkbdmgifdfeaaGreatDoor
open Go Go.Ev
theorem callsSC {f:FuncId} {fd:Func} {s:SCode} {n:Nat} {rs:List ResultVar} {args:List Value} {m:Mem} {R:OutA→Mem→Prop} (hf:Tryz.prog.funcs[f]? = some fd) (he:fd.body.map strip=some s) (hn:fd.ntmps=n) (hr:fd.results.toList=rs)
  (h:wpX tb ⟨f,.normal,none⟩ s (args++List.replicate (n-args.length) undef) [] m (endC tb rs R)):CallsA tb f args m R:=by
 cases hb:fd.body with
 |none=>rw [hb] at he;cases he
 |some c =>
  rw [hb] at he
  exact callsXC (fget hf) hb (Option.some.inj he) hn hr h
def stuCells' (x:Stu):List Value:=[.int .i64 x.mtu,.int .u64 x.ack,.int .u64 x.retry,.int .i64 x.retries,.int .i64 x.window,.int .i64 x.inbox,.int .i64 x.sectors,.int .i64 x.room,.int .u64 x.start]
def ResAt (m:Mem) (b:Nat) (x:Stu) (v:Value) (n e:Int):Prop :=
 vw m b=some ⟨true,26,false,stuCells' x⟩∧vw m (b+1)=some ⟨true,27,false,[v]⟩∧vw m (b+2)=some ⟨true,3,false,[.int .i64 n]⟩∧vw m (b+3)=some ⟨true,38,false,[.int .i64 e]⟩
theorem res_at {l:List Value} {m:Mem} {b:Nat} {x:Stu} {v:Value} {n e:Int} (h:ResAt m b x v n e) (h2:gx l 2=.pointer (some ⟨b,0,none⟩)) (h3:gx l 3=.pointer (some ⟨b+1,0,none⟩)) (h4:gx l 4=.pointer (some ⟨b+2,0,none⟩)) (h5:gx l 5=.pointer (some ⟨b+3,0,none⟩)) :
  resX tb [.cell 2 26,.cell 3 27,.cell 4 3,.cell 5 38] l m=some (.tuple ⟨[.agg ⟨stuCells' x⟩,v,.int .i64 n,.int .i64 e]⟩):=by
 obtain⟨q1,q2,q3,q4⟩:=h
 unfold resX
 rw [resA_cell h2 (loadA_all Ty.ti26 Ty.g26 q1 (by rw [Ty.s26];rfl)) (resA_cell h3 (loadA_one Ty.ti27 Ty.g27 q2 rfl) (resA_cell h4 (loadA_one Ty.ti3 Ty.g3 q3 rfl) (resA_cell h5 (loadA_one Ty.ti38 Ty.g38 q4 rfl) resA_nil)))]
theorem res_st {m:Mem} {b:Nat} {x0 x:Stu} {v0 v:Value} {n0 n e0 e:Int} (h:ResAt m b x0 v0 n0 e0) (hv:oneC v=true) :
  vw (stM m b 0 (stuCells' x)) (b+1)=some ⟨true,27,false,[v0]⟩∧vw (stM (stM m b 0 (stuCells' x)) (b+1) 0 [v]) (b+2)=some ⟨true,3,false,[.int .i64 n0]⟩∧vw (stM (stM (stM m b 0 (stuCells' x)) (b+1) 0 [v]) (b+2) 0 [.int .i64 n]) (b+3)=some ⟨true,38,false,[.int .i64 e0]⟩ ∧
   ∃ m',m'=stM (stM (stM (stM m b 0 (stuCells' x)) (b+1) 0 [v]) (b+2) 0 [.int .i64 n]) (b+3) 0 [.int .i64 e]∧ResAt m' b x v n e∧m'.next=m.next∧∀ y,¬ (b≤y∧y<b+4)→m'.objs.get y=m.objs.get y:=by
 obtain⟨q1,q2,q3,q4⟩:=h
 have s1:vw (stM m b 0 (stuCells' x)) b=some ⟨true,26,false,stuCells' x⟩:=by rw [vw_stM_eq q1 rfl];rfl
 have p2:vw (stM m b 0 (stuCells' x)) (b+1)=some ⟨true,27,false,[v0]⟩:=by rw [vw_stM_ne (by omega)];exact q2
 have s2:vw (stM (stM m b 0 (stuCells' x)) (b+1) 0 [v]) (b+1)=some ⟨true,27,false,[v]⟩:=by rw [vw_stM_eq p2 (stOk_one rfl (by simp) hv)];rfl
 have p3:vw (stM (stM m b 0 (stuCells' x)) (b+1) 0 [v]) (b+2)=some ⟨true,3,false,[.int .i64 n0]⟩:=by rw [vw_stM_ne (by omega),vw_stM_ne (by omega)];exact q3
 have s3:vw (stM (stM (stM m b 0 (stuCells' x)) (b+1) 0 [v]) (b+2) 0 [.int .i64 n]) (b+2)=some ⟨true,3,false,[.int .i64 n]⟩:=by rw [vw_stM_eq p3 (stOk_one rfl (by simp) rfl)];rfl
 have p4:vw (stM (stM (stM m b 0 (stuCells' x)) (b+1) 0 [v]) (b+2) 0 [.int .i64 n]) (b+3)=some ⟨true,38,false,[.int .i64 e0]⟩:=by rw [vw_stM_ne (by omega),vw_stM_ne (by omega),vw_stM_ne (by omega)];exact q4
 refine⟨p2,p3,p4,_,rfl,⟨?_,?_,?_,?_⟩,by simp only [stM_next],fun y hy=>?_⟩
 ·rw [vw_stM_ne (by omega),vw_stM_ne (by omega),vw_stM_ne (by omega)];exact s1
 ·rw [vw_stM_ne (by omega),vw_stM_ne (by omega)];exact s2
 ·rw [vw_stM_ne (by omega)];exact s3
 ·rw [vw_stM_eq p4 (stOk_one rfl (by simp) rfl)];rfl
 ·rw [stM_get (by omega),stM_get (by omega),stM_get (by omega),stM_get (by omega)]
def ParseR (m:Mem) (tx:List UInt8) (r:Value) (m':Mem):Prop :=
 ∃ v,r=.tuple ⟨[.agg ⟨stuCells' (parseOut tx).1⟩,v,.int .i64 (parseOut tx).2.2.1,.int .i64 (parseOut tx).2.2.2]⟩∧StepsAt m.next m' v (parseOut tx).2.1∧Old m.next m m'
def ParseO (m:Mem) (tx:List UInt8) (r:Value) (m':Mem):Prop :=
 ∃ v,r=.tuple ⟨[.agg ⟨stuCells' (parseOut tx).1⟩,v,.int .i64 (parseOut tx).2.2.1,.int .i64 (parseOut tx).2.2.2]⟩∧StepsR m.next m' v (parseOut tx).2.1∧Old m.next m m'
theorem steps_nil (n0:Nat) (m:Mem):StepsAt n0 m (.slice none 0 0) []:=⟨[],.inl ⟨rfl,rfl,rfl⟩,rfl,fun k s h=>by simp at h⟩
theorem stepsR_nil (n0:Nat) (m:Mem):StepsR n0 m (.slice none 0 0) []:=⟨steps_nil _ _,fun b cs h=>by cases h⟩
theorem cut_len:∀ tx:List UInt8,(cutLines tx).length≤tx.length+1∧∀ l∈cutLines tx,l.length≤tx.length
 | []=>by simp [cutLines]
 |b::r=>by
  obtain⟨h1,h2⟩:=cut_len r
  unfold cutLines
  split
  ·refine⟨by simp;omega,fun l hl=>?_⟩
   rcases List.mem_cons.1 hl with rfl|hl
   ·simp
   ·have:=h2 l hl;simp;omega
  ·split
   ·rename_i x y hx
    rw [hx] at h1 h2
    refine⟨by simp at h1 ⊢;omega,fun l hl=>?_⟩
    rcases List.mem_cons.1 hl with rfl|hl
    ·have:=h2 x (.head _);simp;omega
    ·have:=h2 l (.tail _ hl);simp;omega
   ·exact⟨by simp,fun l hl=>by simp at hl;subst hl;simp⟩
def Same (S:List Nat) (m m':Mem):Prop:=m'.next=m.next∧∀ x,x∉S→m'.objs.get x=m.objs.get x
theorem Same.put (m:Mem) (k:Nat) (o:AObj):Same [k] m (putObj m k o):=⟨rfl,fun x hx=>by rw [get_putObj,if_neg (by simpa using hx)]⟩
theorem Same.st (m:Mem) (k i:Nat) (l:List Value):Same [k] m (stM m k i l):=⟨stM_next,fun x hx=>stM_get (by simpa using hx)⟩
theorem Same.vw {S:List Nat} {m m':Mem} (h:Same S m m') {x:Nat} (hx:x∉S):Go.Ev.vw m' x=Go.Ev.vw m x:=by unfold Go.Ev.vw;rw [h.2 x hx]
theorem Same.old {S:List Nat} {n:Nat} {m0 m m':Mem} (h:Same S m m') (k:Old n m0 m) (hS:∀ x∈S,n≤x):Old n m0 m' :=
 ⟨by rw [h.1];exact k.1,fun x hx=>by rw [h.2 x (fun e=>by have:=hS x e;omega)];exact k.2 x hx⟩
theorem ScrAt.same {S:List Nat} {n0 sp:Nat} {m m':Mem} {s:Scr} (h:ScrAt n0 m sp s) (k:Same S m m') (hS:∀ x∈S,x≠sp∧x<n0):ScrAt n0 m' sp s:=by
 obtain⟨v,h1,h2⟩:=h
 exact⟨v,by rw [k.vw (fun e=>(hS _ e).1 rfl)];exact h1,h2.ex (by rw [k.1];exact Nat.le_refl _) fun x V hx h0 _ _=>k.2 x fun e=>by have:=(hS x e).2;omega⟩
structure PI (m0:Mem) (r0:Nat) (s:Scr) (n:Int) (m:Mem):Prop where
 res:ResAt m r0 stu0 (.slice none 0 0) 0 0
 old:Old m0.next m0 m
 nx:r0+12≤m.next
 scr:ScrAt (r0+12) m (r0+4) s
 ptr:vw m (r0+5)=some ⟨true,97,false,[.pointer (some ⟨r0+4,0,none⟩)]⟩
 cnt:vw m (r0+6)=some ⟨true,3,false,[.int .i64 n]⟩
 b1:vw m (r0+8)=some ⟨true,9,false,[.string ⟨⟨[10]⟩⟩]⟩
 b2:vw m (r0+9)=some ⟨true,3,false,[.int .i64 0]⟩
 dfr:m.objs.get (r0+10)=some (.dfr (some []))
 err:ErrAt m
theorem ResAt.eq {m m':Mem} {b:Nat} {x:Stu} {v:Value} {n e:Int} (h:ResAt m b x v n e) (k:∀ y,b≤y→y<b+4→m'.objs.get y=m.objs.get y):ResAt m' b x v n e:=by
 obtain⟨q1,q2,q3,q4⟩:=h
 have e1:∀ y,b≤y→y<b+4→vw m' y=vw m y:=fun y h1 h2=>by unfold vw;rw [k y h1 h2]
 exact⟨by rw [e1 _ (by omega) (by omega)];exact q1,by rw [e1 _ (by omega) (by omega)];exact q2,by rw [e1 _ (by omega) (by omega)];exact q3,by rw [e1 _ (by omega) (by omega)];exact q4⟩
theorem PI.same {m0 m m':Mem} {r0:Nat} {s:Scr} {n:Int} {S:List Nat} (h:PI m0 r0 s n m) (k:Same S m m') (hr:r0=m0.next) (hS:∀ x∈S,x=r0+7∨x=r0+11) (h8:8≤r0):PI m0 r0 s n m':=by
 have hn:∀ y,y≠r0+7→y≠r0+11→y∉S:=fun y h1 h2 e=>by rcases hS y e with h|h;exact h1 h;exact h2 h
 refine⟨h.res.eq fun y h1 h2=>k.2 y (hn y (by omega) (by omega)),k.old h.old (fun x hx=>by rcases hS x hx with h|h<;>omega),by rw [k.1];exact h.nx,h.scr.same k (fun x hx=>by rcases hS x hx with h|h<;>omega),?_,?_,?_,?_,?_,?_⟩
 ·rw [k.vw (hn _ (by omega) (by omega))];exact h.ptr
 ·rw [k.vw (hn _ (by omega) (by omega))];exact h.cnt
 ·rw [k.vw (hn _ (by omega) (by omega))];exact h.b1
 ·rw [k.vw (hn _ (by omega) (by omega))];exact h.b2
 ·rw [k.2 _ (hn _ (by omega) (by omega))];exact h.dfr
 ·obtain⟨g1,⟨e,t,a,g2⟩,e',t',a',g3⟩:=h.err
  exact⟨by rw [k.1];exact g1,⟨e,t,a,by rw [k.vw (hn _ (by omega) (by omega))];exact g2⟩,e',t',a',by rw [k.vw (hn _ (by omega) (by omega))];exact g3⟩
theorem PI.count {m0 m:Mem} {r0:Nat} {s:Scr} {n:Int} (h:PI m0 r0 s n m) (hr:r0=m0.next) (h8:8≤r0) (n':Int):PI m0 r0 s n' (stM m (r0+6) 0 [.int .i64 n']):=by
 have k:=Same.st m (r0+6) 0 [.int .i64 n']
 refine⟨h.res.eq fun y h1 h2=>k.2 y (by simp;omega),k.old h.old (by simp;omega),by rw [k.1];exact h.nx,h.scr.same k (by simp),?_,?_,?_,?_,?_,?_⟩
 ·rw [k.vw (by simp)];exact h.ptr
 ·rw [vw_stM_eq h.cnt (stOk_one rfl (by simp) rfl)];rfl
 ·rw [k.vw (by simp)];exact h.b1
 ·rw [k.vw (by simp)];exact h.b2
 ·rw [k.2 _ (by simp)];exact h.dfr
 ·obtain⟨g1,⟨e,t,a,g2⟩,e',t',a',g3⟩:=h.err
  exact⟨by rw [k.1];exact g1,⟨e,t,a,by rw [k.vw (by simp;omega)];exact g2⟩,e',t',a',by rw [k.vw (by simp;omega)];exact g3⟩
theorem PI.take {m0 m m':Mem} {r0:Nat} {s s':Scr} {n:Int} (h:PI m0 r0 s n m) (hr:r0=m0.next) (h8:8≤r0) (k:Ch (r0+12) [r0+4] m m') (hs:ScrAt (r0+12) m' (r0+4) s'):PI m0 r0 s' n m':=by
 refine⟨h.res.eq fun y h1 h2=>k.2 y (by omega) (by simp;omega),⟨Nat.le_trans h.old.1 k.1,fun x hx=>by rw [k.2 x (by omega) (by simp;omega)];exact h.old.2 x hx⟩,Nat.le_trans h.nx k.1,hs,?_,?_,?_,?_,?_,h.err.ch k (by omega) (by simp;omega)⟩
 ·rw [k.vw (by omega) (by simp)];exact h.ptr
 ·rw [k.vw (by omega) (by simp)];exact h.cnt
 ·rw [k.vw (by omega) (by simp)];exact h.b1
 ·rw [k.vw (by omega) (by simp)];exact h.b2
 ·rw [k.2 _ (by omega) (by simp)];exact h.dfr
theorem parseO_ok {m:Mem} {tx:List UInt8} (hE:ErrAt m) (hlen:tx.length≤9223372036854775807):CallsA tb 19 [.string ⟨⟨tx⟩⟩] m (retR (ParseO m tx)):=by
 refine callsSC Tryz.func19 e19 rfl rfl ?_
 simp only [s19,List.replicate,List.length_cons,List.length_nil,List.cons_append,List.nil_append,Nat.reduceAdd,Nat.reduceSub]
 have hrs:Tryz.f19.results.toList=[.cell 2 26,.cell 3 27,.cell 4 3,.cell 5 38]:=rfl
 rw [hrs]
 have hm8:=hE.1
 obtain⟨r0,hr0⟩:∃ r0,r0=m.next:=⟨_,rfl⟩
 have fin0:∀ {l:List Value} {m':Mem} {v:Value},ResAt m' r0 (parseOut tx).1 v (parseOut tx).2.2.1 (parseOut tx).2.2.2→StepsR m.next m' v (parseOut tx).2.1→Old m.next m m'→Sl [.string ⟨⟨tx⟩⟩,undef,.pointer (some ⟨r0,0,none⟩),.pointer (some ⟨r0+1,0,none⟩),.pointer (some ⟨r0+2,0,none⟩),.pointer (some ⟨r0+3,0,none⟩)] 34 l →
   endC tb [.cell 2 26,.cell 3 27,.cell 4 3,.cell 5 38] (retR (ParseO m tx)) (.jump .ret) l [] m':=by
  rintro l m' v h1 h2 h3 ⟨ts,hts,rfl⟩
  exact .inl ⟨rfl,_,res_at h1 rfl rfl rfl rfl,v,rfl,h2,h3⟩
 have fin1:∀ {l:List Value} {m':Mem} {v:Value},ResAt m' r0 (parseOut tx).1 v (parseOut tx).2.2.1 (parseOut tx).2.2.2→StepsR m.next m' v (parseOut tx).2.1→Old m.next m m'→m'.objs.get (r0+10)=some (.dfr (some []))→(∃ n,Sl [.string ⟨⟨tx⟩⟩,undef,.pointer (some ⟨r0,0,none⟩),.pointer (some ⟨r0+1,0,none⟩),.pointer (some ⟨r0+2,0,none⟩),.pointer (some ⟨r0+3,0,none⟩)] n l) →
   endC tb [.cell 2 26,.cell 3 27,.cell 4 3,.cell 5 38] (retR (ParseO m tx)) (.jump .ret) l [coll (r0+10)] m':=by
  rintro l m' v h1 h2 h3 h4 ⟨n,ts,hts,rfl⟩
  have k:=Same.put m' (r0+10) (.dfr none)
  refine .inr ⟨r0+10,rfl,h4,_,res_at (h1.eq fun y h1 h2=>k.2 y (by simp;omega)) rfl rfl rfl rfl,v,rfl,h2.ex (by rw [k.1];exact Nat.le_refl _) fun x V hx h0 hV hV2=>k.2 x ?_,k.old h3 (by simp;omega)⟩
  intro e
  simp only [List.mem_cons,List.not_mem_nil,or_false] at e
  subst e
  unfold vw at hV;rw [h4] at hV;cases hV
 refine xseqN (fun l ds m1=>ds=[]∧ResAt m1 r0 stu0 (.slice none 0 0) 0 0∧m1.next=r0+4∧Old m.next m m1∧Sl [.string ⟨⟨tx⟩⟩,undef,.pointer (some ⟨r0,0,none⟩),.pointer (some ⟨r0+1,0,none⟩),.pointer (some ⟨r0+2,0,none⟩),.pointer (some ⟨r0+3,0,none⟩)] 34 l) ?_ ?_
 rotate_left
 ·refine xregQ fun Q' hQ=>?_
  simp
  subst hQ
  subst hr0
  refine⟨rfl,⟨?_,?_,?_,?_⟩,rfl,?_,Sl.mk rfl rfl⟩
  ·simp [stuCells',stu0]
   rw [if_neg (by omega),if_neg (by omega)]
  ·simp
  ·simp
  ·simp
  ·exact ((((Old.refl _ _).new (Nat.le_refl _) _).new (by rw [next_newObjA];omega) _).new (by simp;omega) _).new (by simp;omega) _
 rintro l ds m1 ⟨rfl,hR1,hn1,hO1,ts,hts,rfl⟩
 refine xseq (xseq (xregQ fun Q' hQ=>?_))
 simp [hts]
 subst hQ
 refine xif (v:=decide ((1048576:Int)<(tx.length:Int))) (by simp [hts]) (fun hbig=>?_) (fun hbig=>xskip ?_)
 ·simp only [decide_eq_true_eq] at hbig
  have hpo:parseOut tx=(stu0,[],0,81):=by unfold parseOut;rw [if_pos (by omega)]
  obtain⟨p2,p3,p4,m2,e2,hR2,hn2,hg2⟩:=res_st (x:=stu0) (v:=.slice none 0 0) (n:=0) (e:=81) hR1 rfl
  obtain⟨q1,q2,q3,q4⟩:=hR1
  simp only [stuCells',stu0] at q1 p2 p3 p4 e2
  refine xsr fun Q' hQ=>?_
  simp [hts,q1,p2,p3,p4]
  subst hQ
  rw [← e2]
  refine xret (fin0 (by rw [hpo];exact hR2) (by rw [hpo];exact stepsR_nil _ _) ?_ (Sl.mk rfl (by simp [hts])))
  exact⟨by have:=hO1.1;omega,fun x hx=>by rw [hg2 x (by omega)];exact hO1.2 x hx⟩
 simp only [decide_eq_false_iff_not] at hbig
 have hpo:parseOut tx=parseGo ⟨stu0,[],false⟩ 0 (cutLines tx):=by unfold parseOut;rw [if_neg (by omega)]
 refine xseqN (fun l ds m2=>ds=[]∧ResAt m2 r0 stu0 (.slice none 0 0) 0 0∧m2.next=r0+6∧Old m.next m m2∧vw m2 (r0+4)=some ⟨true,99,false,scrCells stu0 (.slice none 0 0) false⟩∧vw m2 (r0+5)=some ⟨true,97,false,[.pointer (some ⟨r0+4,0,none⟩)]⟩ ∧
   Sl [.string ⟨⟨tx⟩⟩,undef,.pointer (some ⟨r0,0,none⟩),.pointer (some ⟨r0+1,0,none⟩),.pointer (some ⟨r0+2,0,none⟩),.pointer (some ⟨r0+3,0,none⟩),.pointer (some ⟨r0+5,0,none⟩)] 33 l) ?_ ?_
 rotate_left
 ·refine xregQ fun Q' hQ=>?_
  obtain⟨y6,ts',rfl,hts'⟩:=ln_succ (n:=33) hts
  have hne:¬ r0+4=r0+4+1:=by omega
  simp [hts',hn1]
  subst hQ
  have hv0:vw (newObjA (newObjA m1 (rowObj 99 [.int .i64 0,.int .u64 0,.int .u64 0,.int .i64 0,.int .i64 0,.int .i64 0,.int .i64 0,.int .i64 0,.int .u64 0,.slice none 0 0,.bool false] .none false)) (zeroObj 97 1 [.pointer none])) (r0+4+1)=some ⟨true,97,false,[.pointer none]⟩:=by simp [hn1]
  have hv1:vw (newObjA (newObjA m1 (rowObj 99 [.int .i64 0,.int .u64 0,.int .u64 0,.int .i64 0,.int .i64 0,.int .i64 0,.int .i64 0,.int .i64 0,.int .u64 0,.slice none 0 0,.bool false] .none false)) (zeroObj 97 1 [.pointer none])) (r0+4)=some ⟨true,99,false,scrCells stu0 (.slice none 0 0) false⟩:=by simp [hn1,scrCells,stu0]
  have hO2:Old m1.next m1 (stM (newObjA (newObjA m1 (rowObj 99 [.int .i64 0,.int .u64 0,.int .u64 0,.int .i64 0,.int .i64 0,.int .i64 0,.int .i64 0,.int .i64 0,.int .u64 0,.slice none 0 0,.bool false] .none false)) (zeroObj 97 1 [.pointer none])) (r0+4+1) 0 [.pointer (some ⟨r0+4,0,none⟩)]):=(((Old.refl _ _).new (Nat.le_refl _) _).new (by rw [next_newObjA];omega) _).st (by omega) _ _
  refine⟨rfl,?_,by rw [stM_next];simp [hn1],hO1.trans (hO2.le hO1.1),?_,?_,Sl.mk rfl (by simp [hts'])⟩
  ·obtain⟨q1,q2,q3,q4⟩:=hR1
   exact⟨by rw [hO2.vw (by omega)];exact q1,by rw [hO2.vw (by omega)];exact q2,by rw [hO2.vw (by omega)];exact q3,by rw [hO2.vw (by omega)];exact q4⟩
  ·rw [vw_stM_ne (by omega)];exact hv1
  ·rw [vw_stM_eq hv0 (stOk_one rfl (by simp) rfl)];rfl
 clear hts hR1 hn1 hO1
 rintro l ds m2 ⟨rfl,hR2,hn2,hO2,hs2,hp2,ts,hts,rfl⟩
 refine xseqN (fun l ds m3=>ds=[]∧ResAt m3 r0 stu0 (.slice none 0 0) 0 0∧m3.next=r0+7∧Old m.next m m3∧vw m3 (r0+4)=some ⟨true,99,false,scrCells stu0 (.slice none 0 0) false⟩∧vw m3 (r0+5)=some ⟨true,97,false,[.pointer (some ⟨r0+4,0,none⟩)]⟩∧vw m3 (r0+6)=some ⟨true,3,false,[.int .i64 0]⟩ ∧
   Sl [.string ⟨⟨tx⟩⟩,undef,.pointer (some ⟨r0,0,none⟩),.pointer (some ⟨r0+1,0,none⟩),.pointer (some ⟨r0+2,0,none⟩),.pointer (some ⟨r0+3,0,none⟩),.pointer (some ⟨r0+5,0,none⟩),.pointer (some ⟨r0+6,0,none⟩)] 32 l) ?_ ?_
 rotate_left
 ·refine xregQ fun Q' hQ=>?_
  obtain⟨y7,ts',rfl,hts'⟩:=ln_succ (n:=32) hts
  simp [hts',hn2]
  subst hQ
  have hv0:vw (newObjA m2 (zeroObj 3 1 [.int .i64 0])) (r0+6)=some ⟨true,3,false,[.int .i64 0]⟩:=by simp [hn2]
  have hO3:Old m2.next m2 (stM (newObjA m2 (zeroObj 3 1 [.int .i64 0])) (r0+6) 0 [.int .i64 0]):=((Old.refl _ _).new (Nat.le_refl _) _).st (by omega) _ _
  refine⟨rfl,?_,by rw [stM_next];simp [hn2],hO2.trans (hO3.le hO2.1),?_,?_,?_,Sl.mk rfl (by simp [hts'])⟩
  ·obtain⟨q1,q2,q3,q4⟩:=hR2
   exact⟨by rw [hO3.vw (by omega)];exact q1,by rw [hO3.vw (by omega)];exact q2,by rw [hO3.vw (by omega)];exact q3,by rw [hO3.vw (by omega)];exact q4⟩
  ·rw [hO3.vw (by omega)];exact hs2
  ·rw [hO3.vw (by omega)];exact hp2
  ·rw [vw_stM_eq hv0 (stOk_one rfl (by simp) rfl)];rfl
 clear hts hR2 hn2 hO2 hs2 hp2
 rintro l ds m3 ⟨rfl,hR3,hn3,hO3,hs3,hp3,hc3,ts,hts,rfl⟩
 refine xseqN (fun l ds m'=>ds=[coll (r0+10)]∧Sl [.string ⟨⟨tx⟩⟩,undef,.pointer (some ⟨r0,0,none⟩),.pointer (some ⟨r0+1,0,none⟩),.pointer (some ⟨r0+2,0,none⟩),.pointer (some ⟨r0+3,0,none⟩),.pointer (some ⟨r0+5,0,none⟩),.pointer (some ⟨r0+6,0,none⟩)] 32 l∧∃ s n,parseGo s n []=parseOut tx∧PI m r0 s n m') ?_ ?_
 ·rintro l ds m5 ⟨rfl,⟨us,hus,rfl⟩,s,n,hgo,hP⟩
  have h8:8≤r0:=by omega
  obtain⟨v,hv,hst⟩:=hP.scr
  have z10:∀ x v b,(scrCells x v b)[10]? = some (.bool b):=fun _ _ _=>rfl
  have z9:∀ x v b,(scrCells x v b)[9]? = some v:=fun _ _ _=>rfl
  have ht9:∀ x v b,takeN (scrCells x v b) 0 9=stuCells' x:=fun _ _ _=>rfl
  refine xseq (xseq (xregQ fun Q' hQ=>?_))
  simp [hus,hP.ptr,hv,z10]
  subst hQ
  cases hbg:s.begun with
  |false =>
   have hpo2:parseOut tx=(stu0,[],1,210):=by rw [← hgo];simp [parseGo,hbg]
   refine xyes (by simp [hus,hbg]) ?_
   obtain⟨p2,p3,p4,m2,e2,hR2,hn2,hg2⟩:=res_st (x:=stu0) (v:=.slice none 0 0) (n:=1) (e:=210) hP.res rfl
   obtain⟨q1,q2,q3,q4⟩:=hP.res
   simp only [stuCells',stu0] at q1 p2 p3 p4 e2
   refine xsr fun Q' hQ=>?_
   simp [hus,q1,p2,p3,p4]
   subst hQ
   rw [← e2]
   refine xret (fin1 (v:=.slice none 0 0) (by rw [hpo2];exact hR2) (by rw [hpo2];exact stepsR_nil _ _) ?_ (by rw [hg2 _ (by omega)];exact hP.dfr) ⟨34,Sl.mk rfl (by simp [hus])⟩)
   exact⟨by rw [hn2];exact hP.old.1,fun x hx=>by rw [hg2 x (by omega)];exact hP.old.2 x hx⟩
  |true =>
   have hpo2:parseOut tx=(s.setup,s.steps,0,0):=by rw [← hgo];simp [parseGo,hbg]
   refine xno (by simp [hus,hbg]) (xskip ?_)
   obtain⟨av,rfl⟩:=hst.shape
   obtain⟨p2,p3,p4,m2,e2,hR2,hn2,hg2⟩:=res_st (x:=s.setup) (v:=.slice av s.steps.length s.steps.length) (n:=0) (e:=0) hP.res rfl
   obtain⟨q1,q2,q3,q4⟩:=hP.res
   have hptr:=hP.ptr
   have c1:vw (stM m5 r0 0 (stuCells' s.setup)) (r0+5)=some ⟨true,97,false,[.pointer (some ⟨r0+4,0,none⟩)]⟩:=by rw [vw_stM_ne (by omega)];exact hptr
   have c2:vw (stM m5 r0 0 (stuCells' s.setup)) (r0+4)=some ⟨true,99,false,scrCells s.setup (.slice av s.steps.length s.steps.length) s.begun⟩:=by rw [vw_stM_ne (by omega)];exact hv
   have hveq:vEq 100 (.agg ⟨stuCells' s.setup⟩) (.agg ⟨stuCells' s.setup⟩)=true:=by
    refine vEq_a fun v hv=>?_
    simp only [stuCells',List.mem_cons,List.not_mem_nil,or_false] at hv
    rcases hv with rfl|rfl|rfl|rfl|rfl|rfl|rfl|rfl|rfl<;>exact vEq_i _ _ _
   simp only [stuCells',stu0] at q1
   simp only [stuCells'] at p2 p3 p4 e2 ht9 c1 c2 hveq
   refine xseq (xdrw 6 fun Q' hQ=>?_)
   simp [hus,hptr,hv,z9,ht9,scrl,q1,p2,p3,p4,c1,c2,hveq]
   subst hQ
   rw [← e2]
   refine xret (fin1 (v:=.slice av s.steps.length s.steps.length) (by rw [hpo2];exact hR2) ?_ ?_ (by rw [hg2 _ (by omega)];exact hP.dfr) ⟨34,Sl.mk rfl (by simp [hus])⟩)
   ·rw [hpo2]
    obtain⟨⟨cells,k1,k2,k3⟩,hri⟩:=hst
    have hmono:∀ {v:Value} {e:TypeId} {k:Nat} {cs:List Value},Own (r0+12) m5 v e k cs→Own m.next m2 v e k cs:=fun h=>(h.ex (by omega) fun x hx h0 hV=>hg2 x (by omega)).le (by omega)
    refine⟨⟨cells,hmono k1,k2,fun k s' hs'=>?_⟩,hri.ex fun b hb=>hg2 b (by have:=(own_blk k1 hb).1;omega)⟩
    obtain⟨d,c,k4,k5,k6⟩:=k3 k s' hs'
    exact⟨d,c,k4,hmono k5,hmono k6⟩
   ·exact⟨by rw [hn2];exact hP.old.1,fun x hx=>by rw [hg2 x (by omega)];exact hP.old.2 x hx⟩
 refine xsr fun Q' hQ=>?_
 simp [hts]
 refine xcall (ov_none (by decide)) (splitSeq_ok (m:=m3) ⟨⟨tx⟩⟩ ⟨⟨[10]⟩⟩) ?_ (fun ch m' h=>h.elim)
 rintro r m4 ⟨rfl,hb0,hb1,hb2,hO4,hn4⟩
 rw [hn3] at hb0 hb1 hb2 hn4 hO4
 subst hQ
 obtain⟨hcl1,hcl2⟩:=cut_len tx
 refine xblock (xrng rfl rfl (by rw [fget Tryz.func19];rfl) fun L h1 h2 h3 h4 h5 h6 h7 hok=>?_)
 rw [hn4] at h7
 simp only [hn4,hn3,Nat.add_assoc,Nat.reduceAdd] at h7 hb0 hb1 hb2 h2 ⊢
 rw [evL_tmp']
 simp [hts]
 have hL18:([.string ⟨⟨tx⟩⟩,undef,.pointer (some ⟨r0,0,none⟩),.pointer (some ⟨r0+1,0,none⟩),.pointer (some ⟨r0+2,0,none⟩),.pointer (some ⟨r0+3,0,none⟩),.pointer (some ⟨r0+5,0,none⟩),.pointer (some ⟨r0+6,0,none⟩)]++ts:List Value).length=40:=by simp [hts]
 have hO4':Old m.next m m4:=hO3.trans (hO4.le (by omega))
 have hB:∀ x,x<r0+10→(newObjA (newObjA m4 (.dfr (some []))) (L.ob .ready none)).objs.get x=m4.objs.get x:=fun x hx=>by
  rw [get_newObjA,if_neg (by rw [next_newObjA];omega),get_newObjA,if_neg (by omega)]
 have hBv:∀ x,x<r0+10→vw (newObjA (newObjA m4 (.dfr (some []))) (L.ob .ready none)) x=vw m4 x:=fun x hx=>by unfold vw;rw [hB x hx]
 have hv4:∀ x,x<r0+7→vw m4 x=vw m3 x:=fun x hx=>hO4.vw hx
 have hI0:PI m r0 ⟨stu0,[],false⟩ 0 (newObjA (newObjA m4 (.dfr (some []))) (L.ob .ready none)):=by
  obtain⟨q1,q2,q3,q4⟩:=hR3
  refine⟨⟨?_,?_,?_,?_⟩,(hO4'.new (by omega) _).new (by rw [next_newObjA];omega) _,by rw [next_newObjA,next_newObjA];omega,⟨.slice none 0 0,?_,stepsR_nil _ _⟩,?_,?_,?_,?_,?_,?_⟩
  ·rw [hBv _ (by omega),hv4 _ (by omega)];exact q1
  ·rw [hBv _ (by omega),hv4 _ (by omega)];exact q2
  ·rw [hBv _ (by omega),hv4 _ (by omega)];exact q3
  ·rw [hBv _ (by omega),hv4 _ (by omega)];exact q4
  ·rw [hBv _ (by omega),hv4 _ (by omega)];exact hs3
  ·rw [hBv _ (by omega),hv4 _ (by omega)];exact hp3
  ·rw [hBv _ (by omega),hv4 _ (by omega)];exact hc3
  ·rw [hBv _ (by omega)];exact hb1
  ·rw [hBv _ (by omega)];exact hb2
  ·rw [get_newObjA,if_neg (by rw [next_newObjA];omega),get_newObjA,if_pos (by omega)]
  ·exact (hE.old ((hO4'.new (by omega) _).new (by rw [next_newObjA];omega) _) (by omega))
 have hlp0:(newObjA (newObjA m4 (.dfr (some []))) (L.ob .ready none)).objs.get (r0+11)=some (L.ob .ready none):=by rw [get_newObjA,if_pos (by rw [next_newObjA];omega)]
 have hb00:vw (newObjA (newObjA m4 (.dfr (some []))) (L.ob .ready none)) (r0+7)=some ⟨true,9,false,[.string ⟨⟨tx⟩⟩]⟩:=by rw [hBv _ (by omega)];exact hb0
 generalize newObjA (newObjA m4 (.dfr (some []))) (L.ob .ready none)=m5 at hI0 hlp0 hb00
 clear hB hBv hv4 hO4' hO4 hb0 hb1 hb2 hR3 hO3 hs3 hp3 hc3 hn3 hn4
 have h8:8≤r0:=by omega
 refine xcall (ov_none (by decide)) (seq_ok (lp:=r0+11) (b0:=r0+7) (b1:=r0+8) (b2:=r0+9)
  (I:=fun ls m'=>∃ (s:Scr) (n:Nat),parseGo s (n:Int) ls=parseOut tx∧PI m r0 s (n:Int) m'∧m'.objs.get (r0+11)=some (L.ob .ready none)∧n+ls.length≤1048578∧s.steps.length≤n∧∀ l∈ls,l.length≤1900000)
  (Fn:=fun m'=>∃ n:Int,parseOut tx=(stu0,[],n,210)∧ResAt m' r0 stu0 (.slice none 0 0) n 210∧Old m.next m m'∧m'.objs.get (r0+10)=some (.dfr (some []))∧m'.objs.get (r0+11)=some (L.ob .done (some .ret)))
  ?_ ?_ ?_ ?_ hb00 (by omega)) ?_ (fun ch m' h=>h.elim)
 ·
  rintro l ls m6 ⟨s,n,hgo,hP,hlp,hnl,hsl,hll⟩
  refine roundsA_of hlp hok h4 (by simp [hts]) h2 (by rw [h3];simp) h5 h6 ?_
  rw [h1]
  refine xregQ fun Q' hQ=>?_
  simp [hts]
  subst hQ
  refine⟨rfl,rfl,none,hlp,?_⟩
  have hP7:=hP.same (Same.put m6 (r0+11) (L.ob .busy none)) hr0 (by simp) h8
  have hv7:vw (putObj m6 (r0+11) (L.ob .busy none)) (r0+7)=vw m6 (r0+7):=(Same.put _ _ _).vw (by simp)
  have hl7:(putObj m6 (r0+11) (L.ob .busy none)).objs.get (r0+11)=some (L.ob .busy none):=by rw [get_putObj,if_pos rfl]
  generalize putObj m6 (r0+11) (L.ob .busy none)=m7 at hP7 hv7 hl7
  refine xblock (xseq (xregQ fun Q' hQ=>?_))
  obtain⟨n1,hn1⟩:∃ n1,n1=n+1:=⟨_,rfl⟩
  simp only [List.length_cons] at hnl
  have hw1:IntKind.wrap .i64 ((n:Int)+1)=(n1:Int):=by rw [wr64 _ (by omega) (by omega)];omega
  simp [hts,hP7.cnt,hw1]
  subst hQ
  have hP8:=hP7.count hr0 h8 (n1:Int)
  have hv8:vw (stM m7 (r0+6) 0 [.int .i64 (n1:Int)]) (r0+7)=vw m6 (r0+7):=by rw [(Same.st _ _ _ _).vw (by simp)];exact hv7
  have hl8:(stM m7 (r0+6) 0 [.int .i64 (n1:Int)]).objs.get (r0+11)=some (L.ob .busy none):=by rw [(Same.st _ _ _ _).2 _ (by simp)];exact hl7
  generalize stM m7 (r0+6) 0 [.int .i64 (n1:Int)]=m8 at hP8 hv8 hl8
  refine xsr fun Q' hQ=>?_
  simp [hts,hP8.ptr]
  refine xcall (ov_none (by decide)) (take_ok (tx:=l) hP8.scr (by omega) hP8.nx (by omega) hP8.err (hll l (.head _)) (by omega)) ?_ (fun ch m' h=>h.elim)
  rintro r m9 ⟨b,rfl,hC9,⟨s',htk,rfl,hS9⟩|⟨htk,rfl⟩⟩
  ·simp [hts]
   subst hQ
   refine xno (by simp [hts]) (xskip ?_)
   have hP9:=hP8.take hr0 h8 hC9 hS9
   have k:=Same.put m9 (r0+11) (L.ob .ready none)
   have hsl':s'.steps.length≤n1:=by
    unfold takeLn at htk
    split at htk
    ·cases htk
    ·cases htk;omega
    ·split at htk
     ·cases htk
     ·cases htk;simp only;omega
    ·split at htk
     ·cases htk;simp only [List.length_append,List.length_cons,List.length_nil];omega
     ·cases htk
   refine⟨rfl,⟨.busy,none,by rw [hC9.2 _ (by omega) (by simp)];exact hl8⟩,?_,.inl ⟨rfl,s',n1,?_,hP9.same k hr0 (by simp) h8,by rw [get_putObj,if_pos rfl],by omega,hsl',fun l' hl'=>hll l' (.tail _ hl')⟩⟩
   ·rw [k.vw (by simp),hC9.vw (by omega) (by simp)];exact hv8
   ·rw [← hgo];simp only [parseGo,htk];rw [hn1];simp
  ·simp [hts]
   subst hQ
   refine xyes (by simp [hts]) ?_
   have hres9:ResAt m9 r0 stu0 (.slice none 0 0) 0 0:=hP8.res.eq fun y h1 h2=>hC9.2 y (by omega) (by simp;omega)
   have hcnt9:vw m9 (r0+6)=some ⟨true,3,false,[.int .i64 (n1:Int)]⟩:=by rw [hC9.vw (by omega) (by simp)];exact hP8.cnt
   obtain⟨p2,p3,p4,m10,e10,hR10,hn10,hg10⟩:=res_st (x:=stu0) (v:=.slice none 0 0) (n:=(n1:Int)) (e:=210) hres9 rfl
   obtain⟨q1,q2,q3,q4⟩:=hres9
   simp only [stuCells',stu0] at q1 p2 p3 p4 e10
   have c1:vw (stM m9 r0 0 [.int .i64 0,.int .u64 0,.int .u64 0,.int .i64 0,.int .i64 0,.int .i64 0,.int .i64 0,.int .i64 0,.int .u64 0]) (r0+6)=some ⟨true,3,false,[.int .i64 (n1:Int)]⟩:=by rw [vw_stM_ne (by omega)];exact hcnt9
   have c2:vw (stM (stM m9 r0 0 [.int .i64 0,.int .u64 0,.int .u64 0,.int .i64 0,.int .i64 0,.int .i64 0,.int .i64 0,.int .i64 0,.int .u64 0]) (r0+1) 0 [.slice none 0 0]) (r0+6)=some ⟨true,3,false,[.int .i64 (n1:Int)]⟩:=by rw [vw_stM_ne (by omega)];exact c1
   refine xseq (xdrw 6 fun Q' hQ=>?_)
   simp [hts,q1,p2,p3,p4,hcnt9,c1,c2]
   subst hQ
   rw [← e10]
   have k:=Same.put m10 (r0+11) (L.ob .done (some .ret))
   have hO9:Old m.next m m9:=⟨Nat.le_trans hP8.old.1 hC9.1,fun x hx=>by rw [hC9.2 x (by omega) (by simp;omega)];exact hP8.old.2 x hx⟩
   refine xret ⟨rfl,⟨.busy,none,by rw [hg10 _ (by omega),hC9.2 _ (by omega) (by simp)];exact hl8⟩,?_,.inr ⟨rfl,(n1:Int),?_,hR10.eq fun y h1 h2=>k.2 y (by simp;omega),?_,?_,by rw [get_putObj,if_pos rfl]⟩⟩
   ·rw [k.vw (by simp)]
    have:vw m10 (r0+7)=vw m9 (r0+7):=by unfold vw;rw [hg10 _ (by omega)]
    rw [this,hC9.vw (by omega) (by simp)];exact hv8
   ·rw [← hgo];simp only [parseGo,htk];rw [hn1];simp
   ·exact k.old ⟨by rw [hn10];exact hO9.1,fun x hx=>by rw [hg10 x (by omega)];exact hO9.2 x hx⟩ (by simp;omega)
   ·rw [k.2 _ (by simp),hg10 _ (by omega),hC9.2 _ (by omega) (by simp)];exact hP8.dfr
 ·rintro ls m6 y ⟨s,n,hgo,hP,hlp,hnl,hsl,hll⟩
  have k:=Same.st m6 (r0+7) 0 [.string y]
  exact⟨s,n,hgo,hP.same k hr0 (by simp) h8,by rw [k.2 _ (by simp)];exact hlp,hnl,hsl,hll⟩
 ·rintro ls m6 ⟨s,n,hgo,hP,_⟩
  exact⟨hP.b1,hP.b2⟩
 ·exact⟨⟨stu0,[],false⟩,0,hpo.symm,hI0,hlp0,by omega,by simp,fun l hl=>Nat.le_trans (hcl2 l hl) (by omega)⟩
 ·rintro v m6 (⟨s,n,hgo,hP,hlp,_⟩|⟨n,hpo2,hR6,hO6,hd6,hlp⟩)
  ·exact .inl ⟨.ready,by simp,hlp,rfl,Sl.mk rfl (by simp [hts]),s,n,hgo,hP.same (Same.put m6 (r0+11) _) hr0 (by simp) h8⟩
  ·have k:=Same.put m6 (r0+11) (L.ob .exhausted (some .ret))
   refine .inr ⟨.done,by simp,hlp,fin1 (v:=.slice none 0 0) ?_ ?_ (k.old hO6 (by simp;omega)) (by rw [k.2 _ (by simp)];exact hd6) ⟨34,Sl.mk rfl (by simp [hts])⟩⟩
   ·rw [hpo2];exact hR6.eq fun y h1 h2=>k.2 y (by simp;omega)
   ·rw [hpo2];exact stepsR_nil _ _
theorem parse_ok {m:Mem} {tx:List UInt8} (hE:ErrAt m) (hlen:tx.length≤9223372036854775807):CallsA tb 19 [.string ⟨⟨tx⟩⟩] m (retR (ParseR m tx)) :=
 (parseO_ok hE hlen).mono fun o m' h=>by
  cases o with
  |ret r=>obtain⟨v,h1,h2,h3⟩:=h;exact⟨v,h1,h2.1,h3⟩
  |pan ch=>exact h
end Go.Proofs.YtgmkbdmgifdfeaaGreatDoor

set_option maxRecDepth 8000
namespace Go.Proofs.YtgmkbdmgifdfeaaGreatDoor
open Go Go.Ev
theorem u8i {c:UInt8} {n:Nat} (hn:n<256):((c.toNat:Int)=(n:Int))↔c=UInt8.ofNat n:=by
 constructor
 ·intro h;apply UInt8.toNat_inj.1;rw [UInt8.toNat_ofNat_of_lt' (by simpa using hn)];omega
 ·intro h;rw [h,UInt8.toNat_ofNat_of_lt' (by simpa using hn)]
theorem rblank_ok (m:Mem) (c:UInt8):CallsA tb 109 [.int .u8 (c.toNat:Int)] m (retR fun r m'=>r=.bool (isBl c)∧m'=m):=by
 refine callsS Tryz.func109 e109 rfl rfl ?_
 simp only [s109,List.replicate,List.length_cons,List.length_nil,List.cons_append,List.nil_append,Nat.reduceAdd,Nat.reduceSub]
 refine xsr fun Q' hQ=>?_
 simp
 subst hQ
 refine xsr fun Q' hQ=>?_
 by_cases h1:c=32
 ·subst h1
  simp
  subst hQ
  exact xret ⟨rfl,_,resX_one _,rfl,rfl⟩
 ·have h1':¬ (c.toNat:Int)=32:=fun e=>h1 ((u8i (n:=32) (by omega)).1 e)
  by_cases h2:c=9
  ·subst h2
   simp
   subst hQ
   exact xret ⟨rfl,_,resX_one _,rfl,rfl⟩
  ·have h2':¬ (c.toNat:Int)=9:=fun e=>h2 ((u8i (n:=9) (by omega)).1 e)
   simp [h1',h2']
   subst hQ
   exact xret ⟨rfl,_,resX_one _,by simp [isBl,h1,h2,gx],rfl⟩
def hexI (c:UInt8):Int:=match hexOf c with|some x=>(x:Int)|none => -1
theorem rdigit_ok (m:Mem) (c:UInt8):CallsA tb 123 [.int .u8 (c.toNat:Int)] m (retR fun r m'=>r=.int .i64 (hexI c)∧m'=m):=by
 refine callsS Tryz.func123 e123 rfl rfl ?_
 simp only [s123,List.replicate,List.length_cons,List.length_nil,List.cons_append,List.nil_append,Nat.reduceAdd,Nat.reduceSub]
 refine xsr fun Q' hQ=>?_
 simp
 subst hQ
 refine xseq (xblock (xseq (xregQ fun Q' hQ=>?_)))
 have no2:¬ (97≤c.toNat∧c.toNat≤102)→¬ (48≤c.toNat∧c.toNat≤57)→hexI c = -1:=fun h1 h2=>by simp only [hexI,hexOf,if_neg h1,if_neg h2]
 have second:¬ (48≤c.toNat∧c.toNat≤57)→∀ {l:List Value} {ts:List Value},l=.int .u8 (c.toNat:Int)::undef::.int .i64 0::ts→ts.length=21→wpX tb ⟨123,.normal,none⟩ (.seq (.reg [⟨some 14,.move (.tmp 0),5,.no⟩,⟨some 15,.binOp .geq 5 (.tmp 14) (.const (.int .u8 97)) 5,4,.no⟩,⟨some 16,.move (.tmp 15),4,.no⟩,⟨some 17,.move (.tmp 0),5,.on 16 true⟩,⟨some 18,.binOp .leq 5 (.tmp 17) (.const (.int .u8 102)) 5,4,.on 16 true⟩,⟨some 19,.pick (.tmp 16) (.tmp 18) (.const (.bool false)),4,.no⟩,⟨some 13,.assign (.tmp 19),4,.no⟩])
   (.cond (.tmp 13) (.seq (.reg [⟨some 20,.move (.tmp 0),5,.no⟩,⟨some 21,.binOp .sub 5 (.tmp 20) (.const (.int .u8 97)) 5,5,.no⟩,⟨some 22,.convert 5 3 (.tmp 21),3,.no⟩,⟨some 23,.binOp .add 3 (.tmp 22) (.const (.int .i64 10)) 3,3,.no⟩,⟨some 2,.assign (.tmp 23),3,.no⟩]) .ret) .skip)) l [] m
   (blockA 0 (thenA (fun l ds m'=>wpX tb ⟨123,.normal,none⟩ (.seq (.reg [⟨some 2,.assign (.const (.int .i64 (-1))),3,.no⟩]) .ret) l ds m' (endX tb Tryz.f123.results.toList (retR fun r m'=>r=.int .i64 (hexI c)∧m'=m))) (endX tb Tryz.f123.results.toList (retR fun r m'=>r=.int .i64 (hexI c)∧m'=m)))):=by
  rintro hd l ts rfl hts
  have hc:=c.toNat_lt
  refine xsr fun Q' hQ=>?_
  by_cases h3:97≤c.toNat
  ·have h3':(97:Int)≤(c.toNat:Int):=by omega
   by_cases h4:c.toNat≤102
   ·have h4':(c.toNat:Int)≤102:=by omega
    simp [hts,h3',h4']
    subst hQ
    refine xyes (by simp [hts]) ?_
    refine xsr fun Q' hQ=>?_
    obtain⟨z,hz⟩:∃ z,z=c.toNat-97:=⟨_,rfl⟩
    have w1:IntKind.wrap .u8 ((c.toNat:Int)-97)=(z:Int):=by rw [wru8 _ (by omega) (by omega)];omega
    have w2:IntKind.wrap .i64 (z:Int)=(z:Int):=wr64 _ (by omega) (by omega)
    have w3:IntKind.wrap .i64 ((z:Int)+10)=(z:Int)+10:=wr64 _ (by omega) (by omega)
    simp [hts,w1,w2,w3]
    subst hQ
    refine xret ⟨rfl,_,resX_one _,?_,rfl⟩
    have:hexI c=(z:Int)+10:=by simp only [hexI,hexOf,if_neg hd,if_pos (And.intro h3 h4)];omega
    simp [hts,this]
   ·have h4':¬ (c.toNat:Int)≤102:=by omega
    simp [hts,h3',h4']
    subst hQ
    refine xno (by simp [hts]) (xskip ?_)
    show wpX tb _ _ _ _ _ _
    refine xsr fun Q' hQ=>?_
    simp [hts]
    subst hQ
    exact xret ⟨rfl,_,resX_one _,by simp [hts,no2 (fun h=>h4 h.2) hd],rfl⟩
  ·have h3':¬ (97:Int)≤(c.toNat:Int):=by omega
   simp [hts,h3']
   subst hQ
   refine xno (by simp [hts]) (xskip ?_)
   show wpX tb _ _ _ _ _ _
   refine xsr fun Q' hQ=>?_
   simp [hts]
   subst hQ
   exact xret ⟨rfl,_,resX_one _,by simp [hts,no2 (fun h=>h3 h.1) hd],rfl⟩
 by_cases h1:48≤c.toNat
 ·have h1':(48:Int)≤(c.toNat:Int):=by omega
  by_cases h2:c.toNat≤57
  ·have h2':(c.toNat:Int)≤57:=by omega
   simp [h1',h2']
   subst hQ
   refine xyes rfl ?_
   refine xsr fun Q' hQ=>?_
   obtain⟨z,hz⟩:∃ z,z=c.toNat-48:=⟨_,rfl⟩
   have w1:IntKind.wrap .u8 ((c.toNat:Int)-48)=(z:Int):=by rw [wru8 _ (by omega) (by omega)];omega
   have w2:IntKind.wrap .i64 (z:Int)=(z:Int):=wr64 _ (by omega) (by omega)
   simp [w1,w2]
   subst hQ
   refine xret ⟨rfl,_,resX_one _,?_,rfl⟩
   have:hexI c=(z:Int):=by simp only [hexI,hexOf,if_pos (And.intro h1 h2)];omega
   simp [gx,this]
  ·have h2':¬ (c.toNat:Int)≤57:=by omega
   simp [h1',h2']
   subst hQ
   refine xif (v:=false) rfl (fun h=>by cases h) (fun _=>second (fun h=>h2 h.2) rfl rfl)
 ·have h1':¬ (48:Int)≤(c.toNat:Int):=by omega
  simp [h1']
  subst hQ
  refine xif (v:=false) rfl (fun h=>by cases h) (fun _=>second (fun h=>h1 h.1) rfl rfl)
end Go.Proofs.YtgmkbdmgifdfeaaGreatDoor

set_option maxRecDepth 8000
namespace Go.Proofs.YtgmkbdmgifdfeaaGreatDoor
open Go Go.Ev
theorem b_quoN {m:Mem} (k:IntKind) (t:TypeId) (x y:Operand) (a b:Nat) (hb:0<b):binA tb m .quo t x y (.int k (a:Int)) (.int k (b:Int))=some (.int k (k.wrap ((a / b:Nat):Int))):=by
 obtain⟨c,rfl⟩:∃ c,b=c+1:=⟨b-1,by omega⟩
 have:quoI (a:Int) ((c+1:Nat):Int)=some ((a / (c+1):Nat):Int):=rfl
 simp only [binA,kEq_self,intOp,this,oB,vInt_eq,wrapF_eq]
theorem decVal_snoc (l:List UInt8) (c:UInt8):decVal (l++[c])=decVal l*10+(c.toNat-48):=by simp [decVal,List.foldl_append]
theorem rnumber_ok {m:Mem} {w:List UInt8} {b:Nat} (hl:w.length≤2000000) (hb:b≤18446744073709551615) :
  CallsA tb 112 [.string ⟨⟨w⟩⟩,.int .u64 (b:Int)] m (retR fun r m'=>m'=m∧∃ (z:Nat) (ok:Bool),r=.tuple ⟨[.int .u64 (z:Int),.bool ok]⟩∧z≤18446744073709551615∧(ok=true→numOf w b=some z)∧(ok=false→numOf w b=none)):=by
 refine callsS Tryz.func112 e112 rfl rfl ?_
 simp only [s112,List.replicate,List.length_cons,List.length_nil,List.cons_append,List.nil_append,Nat.reduceAdd,Nat.reduceSub]
 refine xsr fun Q' hQ=>?_
 simp
 subst hQ
 have no:∀ {l:List Value} {n:Nat} {x0 x1 x2 x3:Value},numOf w b=none→Sl [x0,x1,x2,x3,.int .u64 0,.bool false] n l→endX tb Tryz.f112.results.toList (retR fun r m'=>m'=m∧∃ (z:Nat) (ok:Bool),r=.tuple ⟨[.int .u64 (z:Int),.bool ok]⟩∧z≤18446744073709551615∧(ok=true→numOf w b=some z)∧(ok=false→numOf w b=none)) (.jump .ret) l [] m:=by
  rintro l n x0 x1 x2 x3 hno ⟨ts,hts,rfl⟩
  exact⟨rfl,_,resX_two _ _,rfl,0,false,rfl,Nat.zero_le _,(fun h=>absurd h (by simp)),(fun _=>hno)⟩
 refine xseqN (fun l ds m'=>ds=[]∧m'=m∧(w≠[]∧(w=[48]∨w.head? ≠ some 48))∧Sl [.string ⟨⟨w⟩⟩,.int .u64 (b:Int),undef,undef,.int .u64 0,.bool false] 49 l) ?_ ?_
 rotate_left
 ·refine xsr fun Q' hQ=>?_
  cases w with
  |nil =>
   simp
   subst hQ
   refine xyes rfl ?_
   refine xsr fun Q' hQ=>?_
   simp
   subst hQ
   exact xret (no rfl (Sl.mk (n:=49) rfl rfl))
  |cons c r =>
   obtain⟨N,hN⟩:∃ N,N=r.length:=⟨_,rfl⟩
   by_cases h1:c=48
   ·subst h1
    by_cases h2:r=[]
    ·subst h2
     simp
     subst hQ
     refine xno rfl (xskip ?_)
     exact⟨rfl,rfl,⟨by simp,.inl rfl⟩,Sl.mk rfl rfl⟩
    ·have h3:0<r.length:=List.length_pos_iff.2 h2
     have h3':(1:Int)<(r.length:Int)+1:=by omega
     simp [h3',h3]
     subst hQ
     refine xif (v:=true) (by first|rfl|simp [h3]) (fun _=>?_) (fun h=>by cases h)
     refine xsr fun Q' hQ=>?_
     simp
     subst hQ
     refine xret (no ?_ (Sl.mk (n:=49) rfl rfl))
     unfold numOf;rw [if_neg];rintro⟨_,_,h4,_⟩;simp [h2] at h4
   ·have h1':¬ (c.toNat:Int)=48:=fun e=>h1 ((u8i (n:=48) (by omega)).1 e)
    simp [h1']
    subst hQ
    refine xno rfl (xskip ?_)
    exact⟨rfl,rfl,⟨by simp,.inr (by simpa using h1)⟩,Sl.mk rfl rfl⟩
 rintro l ds m1 ⟨rfl,rfl,hw,ts,hts,rfl⟩
 refine xsr fun Q' hQ=>?_
 simp [hts]
 subst hQ
 obtain⟨y6,ts',rfl,hts'⟩:=ln_succ (n:=48) hts
 refine xseqN (fun l ds m'=>ds=[]∧m'=m1∧w.all isDig=true∧decVal w≤18446744073709551615∧Sl [.string ⟨⟨w⟩⟩,.int .u64 (b:Int),undef,undef,.int .u64 0,.bool false,.int .u64 (decVal w:Int)] 48 l) ?_ ?_
 ·rintro l ds m2 ⟨rfl,rfl,hd,hv,us,hus,rfl⟩
  refine xsr fun Q' hQ=>?_
  simp [hus]
  subst hQ
  refine xret ⟨rfl,_,resX_two _ _,rfl,decVal w,decide (decVal w≤b),?_,hv,fun h=>?_,fun h=>?_⟩
  ·simp [hus]
  ·unfold numOf;rw [if_pos ⟨hw.1,hd,hw.2,of_decide_eq_true h⟩]
  ·unfold numOf;rw [if_neg];rintro⟨_,_,_,h4⟩;exact of_decide_eq_false h h4
 refine xsr fun Q' hQ=>?_
 simp [hts']
 subst hQ
 obtain⟨y7,ts2,rfl,hts2⟩:=ln_succ (n:=47) hts'
 refine xblock (xwhile (N:=w.length) (I:=fun q l ds m2=>∃ k:Nat,q=w.length-k∧k≤w.length∧ds=[]∧m2=m1∧(w.take k).all isDig=true∧decVal (w.take k)≤18446744073709551615∧Sl [.string ⟨⟨w⟩⟩,.int .u64 (b:Int),undef,undef,.int .u64 0,.bool false,.int .u64 (decVal (w.take k):Int),.int .i64 (k:Nat)] 47 l) ?_ ?_)
 ·exact⟨0,rfl,by omega,rfl,rfl,by simp,by simp [decVal],Sl.mk rfl (by simp [hts2])⟩
 clear hts2 hts hts'
 rintro q l ds m2 ⟨k,rfl,hk,rfl,rfl,hd,hv,us,hus,rfl⟩
 obtain⟨v,hvd⟩:∃ v,v=decVal (w.take k):=⟨_,rfl⟩
 rw [← hvd] at hv ⊢
 refine xseq (xseq (xregQ fun Q' hQ=>?_))
 simp [hus]
 subst hQ
 refine xif (v:=decide ((k:Int)<(w.length:Int))) (by simp [hus]) (fun h=>xskip ?_) (fun h=>xexit ?_)
 rotate_left
 ·simp only [decide_eq_false_iff_not] at h
  obtain rfl:k=w.length:=by omega
  rw [List.take_length] at hd hvd
  refine⟨rfl,rfl,hd,by omega,Sl.mk (by rw [hvd];rfl) (by simp [hus])⟩
 simp only [decide_eq_true_eq] at h
 have hkl:k<w.length:=by omega
 obtain⟨c,hc⟩:∃ c,w[k]? = some c:=⟨_,List.getElem?_eq_getElem hkl⟩
 have htk:w.take (k+1)=w.take k++[c]:=by rw [List.take_add_one,hc];rfl
 have hwd:w=w.take k++(c::w.drop (k+1)):=by
  conv=>lhs;rw [← List.take_append_drop k w]
  rw [List.drop_eq_getElem_cons hkl,(List.getElem?_eq_some_iff.1 hc).2]
 have hc256:=c.toNat_lt
 rw [thenA_normal]
 refine xseqN (fun l ds m'=>ds=[]∧m'=m2∧isDig c=true∧v*10+(c.toNat-48)≤18446744073709551615∧Sl [.string ⟨⟨w⟩⟩,.int .u64 (b:Int),undef,undef,.int .u64 0,.bool false,.int .u64 ((v*10+(c.toNat-48):Nat):Int),.int .i64 (k:Nat)] 47 l) ?_ ?_
 ·rintro l ds m3 ⟨rfl,rfl,hdc,hvc,vs,hvs,rfl⟩
  refine xregQ fun Q' hQ=>?_
  obtain⟨k1,hk1⟩:∃ k1,k1=k+1:=⟨_,rfl⟩
  have hwk:IntKind.wrap .i64 ((k:Int)+1)=(k1:Int):=by rw [wr64 _ (by omega) (by omega)];omega
  generalize hvn:v*10+(c.toNat-48)=vn at hvc ⊢
  simp [hvs,hwk]
  subst hQ
  have hvt:decVal (w.take k1)=vn:=by rw [hk1,htk,decVal_snoc,← hvd,hvn]
  refine⟨w.length-k1,by omega,k1,rfl,by omega,rfl,rfl,?_,by omega,Sl.mk (by rw [hvt];rfl) (by simp [hvs])⟩
  rw [hk1,htk,List.all_append,hd];simp [hdc]
 refine xblock ?_
 have hnd:∀ {l:List UInt8},¬ isDig c=true→w.all isDig=false:=fun h=>by
  rw [hwd,List.all_append,List.all_cons]
  simp [h]
 refine xseqN (fun l ds m'=>ds=[]∧m'=m2∧(48≤c.toNat∧c.toNat≤57)∧Sl [.string ⟨⟨w⟩⟩,.int .u64 (b:Int),undef,undef,.int .u64 0,.bool false,.int .u64 (v:Int),.int .i64 (k:Nat)] 47 l) ?_ ?_
 rotate_left
 ·refine xsr fun Q' hQ=>?_
  have bad:¬ (48≤c.toNat∧c.toNat≤57)→numOf w b=none:=fun h=>by
   unfold numOf;rw [if_neg];rintro⟨_,h4,_⟩
   rw [hnd (l:=[]) (fun e=>h (of_decide_eq_true e))] at h4;cases h4
  by_cases h1:48≤c.toNat
  ·have h1':¬ (c.toNat:Int)<48:=by omega
   by_cases h2:c.toNat≤57
   ·have h2':¬ (57:Int)<(c.toNat:Int):=by omega
    simp [hus,hc,h1',h2']
    subst hQ
    refine xno (by simp [hus]) (xskip ?_)
    exact⟨rfl,rfl,⟨h1,h2⟩,Sl.mk rfl (by simp [hus])⟩
   ·have h2':(57:Int)<(c.toNat:Int):=by omega
    simp [hus,hc,h1',h2']
    subst hQ
    refine xyes (by simp [hus]) ?_
    refine xsr fun Q' hQ=>?_
    simp [hus]
    subst hQ
    exact xret (no (bad fun h=>h2 h.2) (Sl.mk (n:=49) rfl (by simp [hus])))
  ·have h1':(c.toNat:Int)<48:=by omega
   simp [hus,hc,h1']
   subst hQ
   refine xyes (by simp [hus]) ?_
   refine xsr fun Q' hQ=>?_
   simp [hus]
   subst hQ
   exact xret (no (bad fun h=>h1 h.1) (Sl.mk (n:=49) rfl (by simp [hus])))
 clear hus
 rintro l ds m3 ⟨rfl,rfl,⟨hc1,hc2⟩,us,hus,rfl⟩
 obtain⟨y8,us',rfl,hus'⟩:=ln_succ (n:=46) hus
 obtain⟨d,hdd⟩:∃ d,d=c.toNat-48:=⟨_,rfl⟩
 have w1:IntKind.wrap .u8 ((c.toNat:Int)-48)=(d:Int):=by rw [wru8 _ (by omega) (by omega)];omega
 have w2:IntKind.wrap .u64 (d:Int)=(d:Int):=wru64 _ (by omega) (by omega)
 refine xsr fun Q' hQ=>?_
 simp [hus',hc,w1,w2]
 subst hQ
 obtain⟨e,he⟩:∃ e,e=18446744073709551615-d:=⟨_,rfl⟩
 obtain⟨f,hf⟩:∃ f,f=e / 10:=⟨_,rfl⟩
 have w3:IntKind.wrap .u64 ((18446744073709551615:Int)-(d:Int))=(e:Int):=by rw [wru64 _ (by omega) (by omega)];omega
 have w4:∀ X Y:Operand,binA tb m3 .quo 22 X Y (.int .u64 (e:Int)) (.int .u64 10)=some (.int .u64 (f:Int)):=fun X Y=>by
  have:=b_quoN (m:=m3) .u64 22 X Y e 10 (by omega)
  rw [show ((10:Nat):Int)=10 from rfl] at this
  rw [this,wru64 _ (by omega) (by omega),hf]
 refine xseq (xseq (xregQ fun Q' hQ=>?_))
 by_cases hov:f<v
 ·have hov':(f:Int)<(v:Int):=by omega
  simp [hus',w3,w4,hov]
  subst hQ
  refine xyes (by simp [hus']) ?_
  refine xsr fun Q' hQ=>?_
  simp [hus']
  subst hQ
  refine xret (no ?_ (Sl.mk (n:=49) rfl (by simp [hus'])))
  unfold numOf;rw [if_neg];rintro⟨_,_,_,h4⟩
  have hge:v*10+(c.toNat-48)≤decVal w:=by
   rw [hwd]
   have:decVal (w.take k++(c::w.drop (k+1)))=(w.drop (k+1)).foldl (fun v c=>v*10+(c.toNat-48)) (decVal (w.take k)*10+(c.toNat-48)):=by
    simp [decVal,List.foldl_append]
   rw [this,← hvd]
   exact foldl_ge _ _
  omega
 ·have hov':¬ (f:Int)<(v:Int):=by omega
  simp [hus',w3,w4,hov]
  subst hQ
  refine xno (by simp [hus']) (xskip ?_)
  refine xregQ fun Q' hQ=>?_
  have w5:IntKind.wrap .u64 ((v:Int)*10)=(v:Int)*10:=wru64 _ (by omega) (by omega)
  have w6:IntKind.wrap .u64 ((v:Int)*10+(d:Int))=((v*10+(c.toNat-48):Nat):Int):=by rw [wru64 _ (by omega) (by omega)];omega
  simp [hus',w5,w6]
  subst hQ
  exact⟨rfl,rfl,decide_eq_true ⟨hc1,hc2⟩,by omega,Sl.mk (by simp) (by simp [hus'])⟩
end Go.Proofs.YtgmkbdmgifdfeaaGreatDoor

set_option maxRecDepth 8000
namespace Go.Proofs.YtgmkbdmgifdfeaaGreatDoor
open Go Go.Ev
def OkR (x:Option Int) (k:IntKind) (lo hi:Int) (r:Value):Prop:=∃ (z:Int) (ok:Bool),r=.tuple ⟨[.int k z,.bool ok]⟩∧lo≤z∧z≤hi∧(ok=true→x=some z)∧(ok=false→x=none)
theorem rinteger_ok {m:Mem} {w:List UInt8} (hl:w.length≤2000000) :
  CallsA tb 111 [.string ⟨⟨w⟩⟩] m (retR fun r m'=>m'=m∧OkR (intOf w) .i64 (-9223372036854775808) 9223372036854775807 r):=by
 refine callsS Tryz.func111 e111 rfl rfl ?_
 simp only [s111,List.replicate,List.length_cons,List.length_nil,List.cons_append,List.nil_append,Nat.reduceAdd,Nat.reduceSub]
 refine xsr fun Q' hQ=>?_
 simp
 subst hQ
 have wrapI:∀ z:Nat,z≤18446744073709551615 → -9223372036854775808≤IntKind.wrap .i64 (z:Int)∧IntKind.wrap .i64 (z:Int)≤9223372036854775807:=by
  intro z hz;rw [wrap_i64];split<;>omega
 refine xseqN (fun l ds m'=>ds=[]∧m'=m∧((∀ v,numOf w 2147483647=some v→intOf w=some (v:Int))∧(numOf w 2147483647=none→intOf w=none))∧Sl [.string ⟨⟨w⟩⟩,undef,.int .i64 0,.bool false] 34 l) ?_ ?_
 ·rintro l ds m1 ⟨rfl,rfl,⟨hs,hn⟩,ts,hts,rfl⟩
  refine xsr fun Q' hQ=>?_
  simp [hts]
  refine xcall (ov_none (by decide)) (rnumber_ok (b:=2147483647) hl (by omega)) ?_ (fun ch m' h=>h.elim)
  rintro r m2 ⟨rfl,z,ok,rfl,hz,h1,h2⟩
  simp [hts]
  subst hQ
  refine xsr fun Q' hQ=>?_
  simp [hts]
  subst hQ
  obtain⟨q1,q2⟩:=wrapI z hz
  refine xret ⟨rfl,_,resX_two _ _,rfl,IntKind.wrap .i64 (z:Int),ok,by simp [hts],q1,q2,(fun h=>?_),(fun h=>hn (h2 h))⟩
  have h3:=h1 h
  have:=numOf_le h3
  rw [hs _ h3,wr64 _ (by omega) (by omega)]
 refine xsr fun Q' hQ=>?_
 cases w with
 |nil =>
  simp
  subst hQ
  refine xno rfl (xskip ?_)
  refine⟨rfl,rfl,⟨fun v h=>?_,fun h=>rfl⟩,Sl.mk rfl rfl⟩
  simp [numOf] at h
 |cons c r =>
  by_cases hc:c=45
  ·subst hc
   by_cases hr:r=[]
   ·subst hr
    simp
    subst hQ
    refine xno rfl (xskip ?_)
    have hno:numOf [45] 2147483647=none:=by decide
    exact⟨rfl,rfl,⟨(fun v h=>by rw [hno] at h;cases h),fun _=>by decide⟩,Sl.mk rfl rfl⟩
   ·have h3:0<r.length:=List.length_pos_iff.2 hr
    have h3':(1:Int)<(r.length:Int)+1:=by omega
    simp [h3,h3']
    subst hQ
    refine xif (v:=true) (by first|rfl|(simp [h3];done)) (fun _=>?_) (fun h=>by cases h)
    refine xsr fun Q' hQ=>?_
    simp
    simp only [List.length_cons] at hl
    refine xcall (ov_none (by decide)) (rnumber_ok (w:=r) (b:=2147483648) (by omega) (by omega)) ?_ (fun ch m' h=>h.elim)
    rintro q m1 ⟨rfl,z,ok,rfl,hz,h1,h2⟩
    simp
    subst hQ
    refine xsr fun Q' hQ=>?_
    obtain⟨q1,q2⟩:=wrapI z hz
    obtain⟨y,hy⟩:∃ y,y=IntKind.wrap .i64 (z:Int):=⟨_,rfl⟩
    rw [← hy] at q1 q2
    have q3 : -9223372036854775808≤IntKind.wrap .i64 (-y)∧IntKind.wrap .i64 (-y)≤9223372036854775807:=by rw [wrap_i64];split<;>omega
    cases ok with
    |false =>
     simp [← hy]
     subst hQ
     refine xret ⟨rfl,_,resX_two _ _,rfl,IntKind.wrap .i64 (-y),false,by simp,q3.1,q3.2,(fun h=>absurd h (by simp)),(fun _=>by simp [intOf,h2 rfl])⟩
    |true =>
     have h4:=h1 rfl
     have hle:=numOf_le h4
     have hy2:y=(z:Int):=by rw [hy,wr64 _ (by omega) (by omega)]
     have hneg:IntKind.wrap .i64 (-(z:Int)) = -(z:Int):=wr64 _ (by omega) (by omega)
     have hzz:IntKind.wrap .i64 (z:Int)=(z:Int):=wr64 _ (by omega) (by omega)
     simp [hzz,hneg]
     subst hQ
     by_cases hz0:0<z
     ·refine xret ⟨rfl,_,resX_two _ _,rfl,-(z:Int),true,by simp [hz0],by omega,by omega,(fun h=>by simp [intOf,h4,hz0]),(fun h=>absurd h (by simp))⟩
     ·refine xret ⟨rfl,_,resX_two _ _,rfl,-(z:Int),false,by simp [hz0],by omega,by omega,(fun h=>absurd h (by simp)),(fun _=>by simp [intOf,h4,hz0])⟩
  ·have hc':¬ (c.toNat:Int)=45:=fun e=>hc ((u8i (n:=45) (by omega)).1 e)
   have hneg:=intOf_neg (w:=c::r) (by simpa using hc)
   have r1:∀ v,numOf (c::r) 2147483647=some v→intOf (c::r)=some (v:Int):=fun v h=>by rw [hneg,h];rfl
   have r2:numOf (c::r) 2147483647=none→intOf (c::r)=none:=fun h=>by rw [hneg,h];rfl
   by_cases hr:0<r.length
   ·have h3':(1:Int)<(r.length:Int)+1:=by omega
    simp [hr,hc',h3']
    subst hQ
    refine xif (v:=false) (by first|rfl|(simp;done)) (fun h=>by cases h) (fun _=>xskip ?_)
    exact⟨rfl,rfl,⟨r1,r2⟩,Sl.mk rfl rfl⟩
   ·have h3':¬ (1:Int)<(r.length:Int)+1:=by omega
    simp [hr,h3']
    subst hQ
    refine xif (v:=false) (by first|rfl|(simp;done)) (fun h=>by cases h) (fun _=>xskip ?_)
    exact⟨rfl,rfl,⟨r1,r2⟩,Sl.mk rfl rfl⟩
end Go.Proofs.YtgmkbdmgifdfeaaGreatDoor

set_option maxRecDepth 8000
namespace Go.Proofs.YtgmkbdmgifdfeaaGreatDoor
open Go Go.Ev
def qEnd:List UInt8→Option Nat
 | []=>none
 |c::r=>if c=92 then match r with
   | []=>none
   |_::r2=>(qEnd r2).map (· + 2)
  else if c=34 then some 1 else (qEnd r).map (· + 1)
theorem qEnd_nil:qEnd []=none:=by rw [qEnd.eq_def]
theorem qEnd_esc0:qEnd [92]=none:=by rw [qEnd.eq_def];rfl
theorem qEnd_esc (d:UInt8) (r:List UInt8):qEnd (92::d::r)=(qEnd r).map (· + 2):=by rw [qEnd.eq_def];rfl
theorem qEnd_q (r:List UInt8):qEnd (34::r)=some 1:=by rw [qEnd.eq_def];rfl
theorem qEnd_p {c:UInt8} (r:List UInt8) (h1:c≠92) (h2:c≠34):qEnd (c::r)=(qEnd r).map (· + 1):=by rw [qEnd.eq_def];simp only [if_neg h1,if_neg h2]
theorem qEnd_le:∀ (N:Nat) (l:List UInt8) (n:Nat),l.length≤N→qEnd l=some n→1≤n∧n≤l.length
 |N,[],n,_,h=>by rw [qEnd_nil] at h;cases h
 |0,c::r,n,hN,h=>by simp at hN
 |N+1,c::r,n,hN,h=>by
  simp only [List.length_cons] at hN ⊢
  by_cases h1:c=92
  ·subst h1
   cases r with
   |nil=>rw [qEnd_esc0] at h;cases h
   |cons d r2 =>
    rw [qEnd_esc] at h
    cases hq:qEnd r2 with
    |none=>rw [hq] at h;cases h
    |some k =>
     rw [hq] at h;obtain rfl:=Option.some.inj h
     have:=qEnd_le N r2 k (by simp at hN;omega) hq
     simp;omega
  ·by_cases h2:c=34
   ·subst h2;rw [qEnd_q] at h;obtain rfl:=Option.some.inj h;omega
   ·rw [qEnd_p _ h1 h2] at h
    cases hq:qEnd r with
    |none=>rw [hq] at h;cases h
    |some k =>
     rw [hq] at h;obtain rfl:=Option.some.inj h
     have:=qEnd_le N r k (by omega) hq
     show 1≤k+1∧k+1≤r.length+1
     omega
theorem splitGo_q:∀ (N:Nat) (l:List UInt8) (acc:List (List UInt8)) (w:List UInt8),l.length≤N →
  splitGo l acc (some w) true false=match qEnd l with
   |none=>none
   |some n=>if atBl (l.drop n) then splitGo (l.drop n) acc (some (w++l.take n)) false false else none
 |N,[],acc,w,_=>by rw [qEnd_nil];rfl
 |0,c::r,acc,w,h=>by simp at h
 |N+1,c::r,acc,w,h=>by
  simp only [List.length_cons] at h
  by_cases h1:c=92
  ·subst h1
   cases r with
   |nil=>rw [qEnd_esc0];rfl
   |cons d r2 =>
    have e1:splitGo (92::d::r2) acc (some w) true false=splitGo r2 acc (some (w++[92]++[d])) true false:=by
     simp [splitGo]
    rw [e1,splitGo_q N r2 acc _ (by simp at h;omega),qEnd_esc]
    cases qEnd r2 with
    |none=>rfl
    |some n=>simp [List.append_assoc]
  ·by_cases h2:c=34
   ·subst h2
    rw [qEnd_q]
    simp [splitGo]
   ·have e1:splitGo (c::r) acc (some w) true false=splitGo r acc (some (w++[c])) true false:=by
     simp [splitGo,h1,h2]
    rw [e1,splitGo_q N r acc _ (by omega),qEnd_p _ h1 h2]
    cases qEnd r with
    |none=>rfl
    |some n=>simp [List.append_assoc]
theorem splitGo_end (l:List UInt8) (acc:List (List UInt8)) (w:List UInt8) (h:atBl l=true):splitGo l acc (some w) false false=splitGo l (acc++[w]) none false false:=by
 cases l with
 |nil=>simp [splitGo]
 |cons c r=>have h':isBl c=true:=h;simp [splitGo,h']
def qPos (tx:List UInt8) (k:Nat):Int:=match qEnd (tx.drop k) with
 |some n=>(k:Int)+(n:Int)
 |none => -1
theorem drop_get {tx:List UInt8} {k:Nat} {c:UInt8} (h:tx[k]? = some c):tx.drop k=c::tx.drop (k+1):=by
 obtain⟨hk,he⟩:=List.getElem?_eq_some_iff.1 h
 rw [List.drop_eq_getElem_cons hk,he]
theorem qPos_out {tx:List UInt8} {k:Nat} (h:tx.length≤k):qPos tx k = -1:=by unfold qPos;rw [List.drop_eq_nil_of_le h,qEnd_nil]
theorem qPos_esc {tx:List UInt8} {k:Nat} (h:tx[k]? = some 92):qPos tx k=qPos tx (k+2):=by
 unfold qPos;rw [drop_get h]
 by_cases h2:k+1<tx.length
 ·have h3:tx[k+1]? = some tx[k+1]:=List.getElem?_eq_getElem h2
  rw [drop_get h3,qEnd_esc]
  cases qEnd (tx.drop (k+2)) with
  |none=>rfl
  |some n=>simp;omega
 ·rw [List.drop_eq_nil_of_le (by omega),List.drop_eq_nil_of_le (by omega),qEnd_nil,qEnd_esc0]
theorem qPos_q {tx:List UInt8} {k:Nat} (h:tx[k]? = some 34):qPos tx k=(k:Int)+1:=by
 unfold qPos;rw [drop_get h,qEnd_q];rfl
theorem qPos_p {tx:List UInt8} {k:Nat} {c:UInt8} (h:tx[k]? = some c) (h1:c≠92) (h2:c≠34):qPos tx k=qPos tx (k+1):=by
 unfold qPos;rw [drop_get h,qEnd_p _ h1 h2]
 cases qEnd (tx.drop (k+1)) with
 |none=>rfl
 |some n=>simp;omega
theorem rquoted_ok {m:Mem} {tx:List UInt8} {a:Nat} (hl:tx.length≤2000000) (ha:a≤2000000) :
  CallsA tb 110 [.string ⟨⟨tx⟩⟩,.int .i64 (a:Int)] m (retR fun r m'=>m'=m∧r=.int .i64 (qPos tx (a+1))):=by
 refine callsS Tryz.func110 e110 rfl rfl ?_
 simp only [s110,List.replicate,List.length_cons,List.length_nil,List.cons_append,List.nil_append,Nat.reduceAdd,Nat.reduceSub]
 refine xsr fun Q' hQ=>?_
 simp
 subst hQ
 obtain⟨b,hb⟩:∃ b,b=a+1:=⟨_,rfl⟩
 have hwb:IntKind.wrap .i64 ((a:Int)+1)=(b:Int):=by rw [wr64 _ (by omega) (by omega)];omega
 rw [← hb]
 refine xsr fun Q' hQ=>?_
 simp [hwb]
 subst hQ
 refine xseqN (fun l ds m'=>ds=[]∧m'=m∧qPos tx b = -1∧∃ x5,Sl [.string ⟨⟨tx⟩⟩,.int .i64 (a:Int),undef,undef,.int .i64 0,x5] 19 l) ?_ ?_
 ·rintro l ds m1 ⟨rfl,rfl,hq,x5,ts,hts,rfl⟩
  refine xsr fun Q' hQ=>?_
  simp [hts]
  subst hQ
  exact xret ⟨rfl,_,resX_one _,rfl,by simp [hq]⟩
 refine xblock (xwhile (N:=tx.length-b) (I:=fun q l ds m2=>∃ k:Nat,q=tx.length-k∧k≤tx.length+2000002∧ds=[]∧m2=m∧qPos tx b=qPos tx k∧Sl [.string ⟨⟨tx⟩⟩,.int .i64 (a:Int),undef,undef,.int .i64 0,.int .i64 (k:Nat)] 19 l) ?_ ?_)
 ·exact⟨b,rfl,by omega,rfl,rfl,rfl,Sl.mk rfl rfl⟩
 rintro q l ds m2 ⟨k,rfl,hk,rfl,rfl,hq,us,hus,rfl⟩
 refine xseq (xseq (xregQ fun Q' hQ=>?_))
 simp [hus]
 subst hQ
 refine xif (v:=decide ((k:Int)<(tx.length:Int))) (by simp [hus]) (fun h=>xskip ?_) (fun h=>xexit ?_)
 rotate_left
 ·simp only [decide_eq_false_iff_not] at h
  exact⟨rfl,rfl,by rw [hq,qPos_out (by omega)],_,Sl.mk rfl (by simp [hus])⟩
 simp only [decide_eq_true_eq] at h
 have hkl:k<tx.length:=by omega
 obtain⟨c,hc⟩:∃ c,tx[k]? = some c:=⟨_,List.getElem?_eq_getElem hkl⟩
 rw [thenA_normal]
 obtain⟨k1,hk1⟩:∃ k1,k1=k+1:=⟨_,rfl⟩
 have hw1:IntKind.wrap .i64 ((k:Int)+1)=(k1:Int):=by rw [wr64 _ (by omega) (by omega)];omega
 obtain⟨k2,hk2⟩:∃ k2,k2=k+2:=⟨_,rfl⟩
 have hw2:IntKind.wrap .i64 ((k:Int)+2)=(k2:Int):=by rw [wr64 _ (by omega) (by omega)];omega
 refine xblock (xseq (xregQ fun Q' hQ=>?_))
 simp [hus,hc]
 subst hQ
 refine xblock (xseq (xregQ fun Q' hQ=>?_))
 by_cases h1:c=92
 ·subst h1
  simp [hus]
  subst hQ
  refine xyes (by simp [hus]) ?_
  refine xregQ fun Q' hQ=>?_
  simp [hus,hw2]
  subst hQ
  exact⟨tx.length-k2,by omega,k2,rfl,by omega,rfl,rfl,by rw [hq,hk2,qPos_esc hc],Sl.mk rfl (by simp [hus])⟩
 ·have h1':¬ (c.toNat:Int)=92:=fun e=>h1 ((u8i (n:=92) (by omega)).1 e)
  simp [hus,h1']
  subst hQ
  refine xno (by simp [hus]) ?_
  refine xsr fun Q' hQ=>?_
  by_cases h2:c=34
  ·subst h2
   simp [hus]
   subst hQ
   refine xyes (by simp [hus]) ?_
   refine xsr fun Q' hQ=>?_
   simp [hus,hw1]
   subst hQ
   refine xret ⟨rfl,_,resX_one _,rfl,?_⟩
   rw [hq,qPos_q hc]
   simp [hus];omega
  ·have h2':¬ (c.toNat:Int)=34:=fun e=>h2 ((u8i (n:=34) (by omega)).1 e)
   simp [hus,h2']
   subst hQ
   refine xno (by simp [hus]) ?_
   refine xregQ fun Q' hQ=>?_
   simp [hus,hw1]
   subst hQ
   exact⟨tx.length-k1,by omega,k1,rfl,by omega,rfl,rfl,by rw [hq,hk1,qPos_p hc h1 h2],Sl.mk rfl (by simp [hus])⟩
end Go.Proofs.YtgmkbdmgifdfeaaGreatDoor

