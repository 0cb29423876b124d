/- A part of a proof: ScriptOwn. -/
import Derived.Test.YtgmkbdmgifdfeaaGreatDoorF17
set_option linter.unusedVariables false
set_option linter.unusedSimpArgs false
set_option maxRecDepth 8000
namespace Go.Proofs.YtgmkbdmgifdfeaaGreatDoor
open Go Go.Ev
theorem callsSD {f:FuncId} {fd:Func} {s:SCode} {n:Nat} {rs:List ResultVar} {args:List Value} {m:Mem} {d:Deferred} {R:OutA→Mem→Prop} (hf:Tryz.prog.funcs[f]? = some fd) (he:fd.body.map strip=some s) (hn:fd.ntmps=n) (hr:fd.results.toList=rs)
  (h:wpX tb ⟨f,.normal,none⟩ s (args++List.replicate (n-args.length) undef) [] m (endD tb rs d R)):CallsA tb f args m R:=by
 cases hb:fd.body with
 |none=>rw [hb] at he;cases he
 |some c =>
  rw [hb] at he
  exact callsXD (fget hf) hb (Option.some.inj he) hn hr h
theorem bneq4 {m:Mem} (x y:Operand) (a b:Bool):binA tb m .neq 4 x y (.bool a) (.bool b)=some (.bool (a != b)):=by
 have e:eqA tb m 64 4 (.bool a) (.bool b)=some (a==b):=by
  rw [eqA];simp only [Ty.ti4,oB,Ty.d4,eqBool]
 simp only [binA,eqOp,guardOk,e,oB]
 rfl
theorem wpCallX_defer {F:FC} {c:Call} {ty:TypeId} {l:List Value} {ds:List Deferred} {m:Mem} {K:Value→List Deferred→Mem→Prop} {PK:List PanicEntry→Mem→Prop}:wpCallX tb F (.defer c) ty l ds m K PK=(F.ro=none∧∃ d,deferOf (T.ofList l) c ty=some d∧K undef (d::ds) m):=_root_.id rfl
theorem deferOf_tmp {l:List Value} {i:Nat} {tys:Array TypeId} {ty:TypeId} {fn:Fn} {first:List Value} {cap:Array Value} (h:gx l i=.func fn ⟨first⟩ cap):deferOf (T.ofList l) ⟨.value (.tmp i),#[],tys⟩ ty=some { target:=.fn fn cap,args:=⟨first⟩ }:=by
 have e:ev (T.ofList l) (.tmp i)=.func fn ⟨first⟩ cap:=by rw [← h];exact evL_tmp' i
 simp only [deferOf,e]
 have:evs (T.ofList l) ([]:List Operand)=[]:=_root_.id rfl
 simp [this]
def TakeR (n0 sp:Nat) (m:Mem) (s:Scr) (tx:List UInt8) (b:Bool) (m':Mem):Prop :=
 Ch n0 [sp] m m'∧((∃ s',takeLn s tx=some s'∧b=true∧ScrAt n0 m' sp s')∨(takeLn s tx=none∧b=false))
theorem take_ok {n0 sp:Nat} {m:Mem} {s:Scr} {tx:List UInt8} (hS:ScrAt n0 m sp s) (hsp:sp<n0) (hn:n0≤m.next) (hsp8:8≤sp) (hE:ErrAt m) (hlen:tx.length≤1900000) (hst:s.steps.length≤2000000) :
  CallsA tb 40 [.pointer (some ⟨sp,0,none⟩),.string ⟨⟨tx⟩⟩] m (retR fun r m'=>∃ b,r=.bool b∧TakeR n0 sp m s tx b m'):=by
 refine callsSD (d:=okD m.next) Tryz.func40 e40 rfl rfl ?_
 simp only [s40,List.replicate,List.length_cons,List.length_nil,List.cons_append,List.nil_append,Nat.reduceAdd,Nat.reduceSub]
 refine xsr fun Q' hQ=>?_
 simp
 subst hQ
 have hO1:Old m.next m (newObjA m (zeroObj 4 1 [.bool false])):=(Old.refl _ _).new (Nat.le_refl _) _
 have hk1:vw (newObjA m (zeroObj 4 1 [.bool false])) m.next=some ⟨true,4,false,[.bool false]⟩:=by simp
 have hn1:(newObjA m (zeroObj 4 1 [.bool false])).next=m.next+1:=rfl
 generalize newObjA m (zeroObj 4 1 [.bool false])=m1 at hO1 hk1 hn1 ⊢
 refine xsr fun Q' hQ=>?_
 simp [wpCallX_defer]
 refine⟨okD m.next,deferOf_tmp (by simp),?_⟩
 subst hQ
 have hE1:ErrAt m1:=hE.old hO1 (by omega)
 have fail:∀ {l:List Value} {m':Mem} {b:Bool},gx l 4=.pointer (some ⟨m.next,0,none⟩)→vw m' m.next=some ⟨true,4,false,[.bool b]⟩→m.next<m'.next→Ch n0 [sp] m m'→takeLn s tx=none →
   endD tb [.cell 4 4] (okD m.next) (retR fun r m'=>∃ b,r=.bool b∧TakeR n0 sp m s tx b m') (.pan [wrongE]) l [okD m.next] m':=fun hg hv hl hC hno =>
  finP hg hv hl fun m2 hk=>⟨false,rfl,hC.trans (Ch.of_kp' hk (by have:=hC.1;omega) (by simp;omega)),.inr ⟨hno,rfl⟩⟩
 have done:∀ {l:List Value} {m':Mem} {b:Bool},gx l 4=.pointer (some ⟨m.next,0,none⟩)→vw m' m.next=some ⟨true,4,false,[.bool b]⟩→TakeR n0 sp m s tx b m' →
   endD tb [.cell 4 4] (okD m.next) (retR fun r m'=>∃ b,r=.bool b∧TakeR n0 sp m s tx b m') (.jump .ret) l [okD m.next] m':=fun hg hv hR=>finR hg hv ⟨_,rfl,hR⟩
 have hrs:Tryz.f40.results.toList=[.cell 4 4]:=rfl
 rw [hrs]
 refine xseqN (fun l ds m2=>ds=[okD m.next]∧Old m.next m m2∧vw m2 m.next=some ⟨true,4,false,[.bool false]⟩∧∃ ws p,splitOf tx=some ws∧m.next<p∧LineAt m2 p ws ∧
   Sl [.pointer (some ⟨sp,0,none⟩),.string ⟨⟨tx⟩⟩,undef,undef,.pointer (some ⟨m.next,0,none⟩),.pointer (some ⟨p,0,none⟩)] 106 l) ?_ ?_
 rotate_left
 ·refine xregQ fun Q' hQ=>?_
  simp
  refine xcall (ov_none (by decide)) (split_ok (tx:=tx) (by omega)) ?_ ?_
  ·rintro r m2 ⟨ws,hws,hown,hO2⟩
   obtain⟨aw,rfl⟩:=hown.shape
   have hlw:=split_len tx [] none false false ws tx.length hws (by simp) (by simp) (Nat.le_refl _)
   simp
   subst hQ
   have hO2':Old m.next m m2:=hO1.trans (hO2.le (by omega))
   refine⟨rfl,hO2'.new (by have:=hO2'.1;omega) _,?_,ws,m2.next,hws,by have:=hO2.1;omega,?_,Sl.mk rfl rfl⟩
   ·rw [vw_new,if_neg (by have:=hO2.1;omega),hO2.vw (by omega)];exact hk1
   ·refine⟨by have:=hO2.1;omega,by rw [next_newObjA];omega,?_,fun w hw=>Nat.le_trans (hlw.2 w hw) (by omega),_,by rw [vw_new,if_pos rfl];exact vwO_rowObj _ _ _,?_⟩
    ·have:=hlw.1;simp at this;omega
    ·rcases hown with ⟨h1,h2,h3⟩|⟨b,h1,h2,h3,h4⟩
     ·refine .inl ⟨?_,List.length_eq_zero_iff.1 h2⟩
      simp only [Value.slice.injEq] at h1
      obtain⟨rfl,h5,_⟩:=h1
      rw [h5]
     ·simp only [Value.slice.injEq] at h1
      obtain⟨rfl,_⟩:=h1
      exact .inr ⟨b,ws,h3,by rw [vw_new,if_neg (by omega)];exact h4,.inl ⟨0,rfl,rfl⟩⟩
  ·rintro ch m2 ⟨hws,rfl,hO2⟩
   subst hQ
   exact fail (by simp) (by rw [hO2.vw (by omega)];exact hk1) (by have:=hO2.1;omega) (Ch.of_old ((hO1.trans (hO2.le (by omega))).le hn)) (by simp [takeLn,lineOf,hws])
 rintro l ds m2 ⟨rfl,hO2,hk2,ws,p,hws,hmp,hL,ts,hts,rfl⟩
 obtain⟨al,cl,hvl⟩:=hL.len
 refine xseq (xseq (xregQ fun Q' hQ=>?_))
 simp [hts,hvl]
 subst hQ
 have hE2:ErrAt m2:=hE.old hO2 (by have:=hE.1;omega)
 have hp2:p<m2.next:=hL.2.1
 have hstill:∀ {m':Mem},Old m.next m m'→ScrAt n0 m' sp s:=by
  intro m' hO
  obtain⟨v,h1,h2⟩:=hS
  exact⟨v,by rw [hO.vw (by omega)];exact h1,h2.ex hO.1 fun x V hx _ _ _=>hO.2 x hx⟩
 have hln:=lineOf_eq hws
 cases ws with
 |nil =>
  refine xyes (by simp [hts]) ?_
  refine xsr fun Q' hQ=>?_
  simp [hts,hk2]
  subst hQ
  refine xret (done (b:=true) rfl (by rw [vw_stM_eq hk2 (stOk_one rfl (by simp) rfl)];rfl) ⟨?_,.inl ⟨s,by simp [takeLn,hln,lineWs],rfl,?_⟩⟩)
  ·exact Ch.of_old (((hO2.st (Nat.le_refl _) _ _)).le hn)
  ·exact hstill (hO2.st (Nat.le_refl _) _ _)
 |cons w ws =>
 refine xno (by simp [hts]) (xskip ?_)
 refine xsr fun Q' hQ=>?_
 simp [hts]
 refine xcall (ov_none (by decide)) (word_ok hL) ?_ (fun ch m' h=>by cases h.1)
 rintro r m3 ⟨w',hw',rfl,hL3,hK3⟩
 obtain rfl:=Option.some.inj hw'
 subst hQ
 have hO3:Old m.next m m3:=hO2.kp hK3 (Nat.le_refl _) (by simp;omega)
 have hk3:vw m3 m.next=some ⟨true,4,false,[.bool false]⟩:=by rw [hK3.vw (by omega) (by simp;omega)];exact hk2
 have hE3:ErrAt m3:=hE.old hO3 (by have:=hE.1;omega)
 simp only [List.tail_cons] at hL3
 have hp3:p<m3.next:=hL3.2.1
 clear hL hvl hE2 hw'
 obtain⟨y6,ts',rfl,hts'⟩:=ln_succ (n:=105) hts
 refine xseq (xseq (xregQ fun Q' hQ=>?_))
 simp [hts']
 subst hQ
 refine xif (v:=decide (w=worldB)) (by rw [evL_tmp'];simp [hts'];rfl) (fun hwd=>?_) (fun hwd=>xskip ?_)
 ·simp only [decide_eq_true_eq] at hwd
  subst hwd
  obtain⟨v,hv,hst2⟩:=hS
  obtain⟨av,rfl⟩:=hst2.shape
  have hv3:vw m3 sp=some ⟨true,99,false,scrCells s.setup (.slice av s.steps.length s.steps.length) s.begun⟩:=by rw [hO3.vw (by omega)];exact hv
  refine xsr fun Q' hQ=>?_
  simp [hts']
  refine xcall (ov_none (by decide)) (head_ok hv3 hsp8 (by have:=hO3.1;omega) rfl hL3 hE3) ?_ ?_
  rotate_left
  ·rintro ch m4 ⟨hno,rfl,hK4⟩
   subst hQ
   refine fail (by simp) (by rw [hK4.vw (by have:=hO3.1;omega) (by simp;omega)];exact hk3) (by have:=hO3.1;have:=hK4.1;omega) ((Ch.of_old (hO3.le hn)).trans (Ch.of_kp' hK4 (by have:=hO3.1;omega) (by simp;omega))) ?_
   have:(lineWs (worldB::ws)=none)∨(∃ x,lineWs (worldB::ws)=some (.head x)∧s.begun=true):=by
    simp only [lineWs,if_true,headOf_eq]
    cases hb:s.begun with
    |true=>cases hh:headRd ws with
     |none=>left;rfl
     |some a=>obtain⟨x,r⟩:=a;cases r with|nil=>right;exact⟨x,rfl,rfl⟩|cons _ _=>left;rfl
    |false=>rw [hb] at hno;simp at hno;left;rw [hno];rfl
   unfold takeLn
   rw [hln]
   rcases this with h|⟨x,h,hb⟩
   ·rw [h]
   ·rw [h];simp [hb]
  rintro r m4 ⟨⟨x,ws2⟩,hx,hv4,hL4,hK4⟩
  have hp4:p<m4.next:=hL4.2.1
  subst hQ
  have hbg:s.begun=false:=by cases hb:s.begun;rfl;rw [hb] at hx;simp at hx
  rw [hbg] at hx
  simp at hx
  have hk4:vw m4 m.next=some ⟨true,4,false,[.bool false]⟩:=by rw [hK4.vw (by have:=hO3.1;omega) (by simp;omega)];exact hk3
  have hC4:Ch n0 [sp] m m4:=(Ch.of_old (hO3.le hn)).trans (Ch.of_kp' hK4 (by have:=hO3.1;omega) (by simp;omega))
  obtain⟨al4,cl4,hvl4⟩:=hL4.len
  have hst4:StepsR n0 m4 (.slice av s.steps.length s.steps.length) s.steps:=(hst2.ex hO3.1 fun z V hz _ _ _=>hO3.2 z hz).ex hK4.1 fun z V hz h0 hz2 hz3=>hK4.2 z hz (by
   obtain⟨g1,g2,_,_,u,g5,_⟩:=hL3
   simp only [List.mem_cons,List.not_mem_nil,or_false]
   rintro (rfl|rfl)
   ·rw [g5] at hz2;cases hz2;cases hz3
   ·omega)
  refine xsr fun Q' hQ=>?_
  simp only at hvl4
  cases ws2 with
  |nil =>
   simp [hts',hvl4]
   refine xcall (ov_none (by decide)) (need_t _) ?_ (fun ch m' h=>h.elim)
   rintro r m5 ⟨rfl,rfl⟩
   subst hQ
   refine xsr fun Q' hQ=>?_
   simp [hts',hk4]
   subst hQ
   have hO5:Ch n0 [sp] m (stM m5 m.next 0 [.bool true]):=hC4.trans (Ch.of_kp' ((Kp.refl [m.next] m5).st (by simp) 0 [.bool true]) (by have:=hC4.1;omega) (by simp;omega))
   refine xret (done (b:=true) (by simp [hts']) (by rw [vw_stM_eq hk4 (stOk_one rfl (by simp) rfl)];rfl) ⟨hO5,.inl ⟨{ s with setup:=x,begun:=true },?_,rfl,.slice av s.steps.length s.steps.length,?_,?_⟩⟩)
   ·simp [takeLn,hln,lineWs,headOf_eq,hx,hbg]
   ·rw [vw_stM_ne (by omega)];exact hv4
   ·exact hst4.ex (by rw [stM_next];exact Nat.le_refl _) fun z V hz h0 hz2 hz3=>stM_get (fun e=>by rw [e,hk4] at hz2;cases hz2;cases hz3)
  |cons w2 ws2 =>
   have hgt:¬ (ws2.length:Int)+1=0:=by omega
   simp [hts',hvl4,hgt]
   refine xcall (ov_none (by decide)) (need_f _) (fun v m' h=>h.elim) ?_
   rintro ch m5 ⟨rfl,rfl⟩
   subst hQ
   refine fail (by simp [hts']) hk4 (by omega) hC4 ?_
   simp [takeLn,hln,lineWs,headOf_eq,hx]
 ·simp only [decide_eq_false_iff_not] at hwd
  have hlw:lineWs (w::ws)=(stepOf (w::ws)).map .step:=by simp only [lineWs,if_neg hwd]
  rw [hlw] at hln
  clear hlw
  obtain⟨v,hv,hst2⟩:=hS
  obtain⟨av,rfl⟩:=hst2.shape
  have z10:∀ x v b,(scrCells x v b)[10]? = some (.bool b):=fun _ _ _=>rfl
  have hv3:vw m3 sp=some ⟨true,99,false,scrCells s.setup (.slice av s.steps.length s.steps.length) s.begun⟩:=by rw [hO3.vw (by omega)];exact hv
  refine xseqN (fun l ds m'=>ds=[okD m.next]∧m'=m3∧s.begun=true∧Sl [.pointer (some ⟨sp,0,none⟩),.string ⟨⟨tx⟩⟩,undef,undef,.pointer (some ⟨m.next,0,none⟩),.pointer (some ⟨p,0,none⟩),.string ⟨⟨w⟩⟩] 105 l) ?_ ?_
  rotate_left
  ·refine xregQ fun Q' hQ=>?_
   cases hb:s.begun with
   |true =>
    simp [hts',hv3,z10,hb]
    refine xcall (ov_none (by decide)) (need_t _) ?_ (fun ch m' h=>h.elim)
    rintro r m5 ⟨rfl,rfl⟩
    subst hQ
    exact⟨rfl,rfl,hb,Sl.mk rfl (by simp [hts'])⟩
   |false =>
    simp [hts',hv3,z10,hb]
    refine xcall (ov_none (by decide)) (need_f _) (fun v m' h=>h.elim) ?_
    rintro ch m5 ⟨rfl,rfl⟩
    subst hQ
    refine fail (by simp [hts']) hk3 (by omega) (Ch.of_old (hO3.le hn)) ?_
    unfold takeLn
    rw [hln]
    cases stepOf (w::ws)<;>simp [hb]
  clear hts hts' hrs
  rintro l ds m4 ⟨rfl,rfl,hbg,ts,hts,rfl⟩
  have hnone:stepOf (w::ws)=none→takeLn s tx=none:=fun h=>by unfold takeLn;rw [hln,h];rfl
  refine xsr fun Q' hQ=>?_
  simp [hts]
  subst hQ
  obtain⟨m5,e5,f1,f2,f3⟩:=alloc_st' m4 36 17 (stpCells stp0 (.slice none 0 0) (.slice none 0 0)) (stpCells stp0 (.slice none 0 0) (.slice none 0 0)) rfl rfl rfl
  simp only [stpCells,stp0] at e5
  rw [← e5]
  have hO5:Old m4.next m4 m5:=⟨by omega,f3⟩
  have hO5':Old m.next m m5:=hO3.trans (hO5.le hO3.1)
  have hk5:vw m5 m.next=some ⟨true,4,false,[.bool false]⟩:=by rw [hO5.vw (by omega)];exact hk3
  have hL5:LineAt m5 p ws:=hL3.ch (Ch.of_old (S:=[]) hO5) hp3 (by simp)
  have hE5:ErrAt m5:=hE.old hO5' (by have:=hE.1;omega)
  obtain⟨xp,hxp⟩:∃ xp,xp=m4.next:=⟨_,rfl⟩
  rw [← hxp] at f2 ⊢
  have hpx:p<xp:=by omega
  have hx5:vw m5 xp=some ⟨true,36,false,stpCells { stp0 with node:=0 } (.slice none 0 0) (.slice none 0 0)⟩:=f2
  clear e5 f2 f3
  refine xseqN (fun l ds m'=>ds=[okD m.next]∧∃ (n:Nat) (w2:List UInt8) (ws2:List (List UInt8)),nodeOf (w::ws)=some ((n:Int),w2,ws2)∧Old m.next m m'∧vw m' m.next=some ⟨true,4,false,[.bool false]⟩∧LineAt m' p ws2∧xp<m'.next ∧
    vw m' xp=some ⟨true,36,false,stpCells { stp0 with node:=(n:Int) } (.slice none 0 0) (.slice none 0 0)⟩∧Sl [.pointer (some ⟨sp,0,none⟩),.string ⟨⟨tx⟩⟩,undef,undef,.pointer (some ⟨m.next,0,none⟩),.pointer (some ⟨p,0,none⟩),.string ⟨⟨w2⟩⟩,.pointer (some ⟨xp,0,none⟩)] 104 l) ?_ ?_
  rotate_left
  ·obtain⟨y7,ts',rfl,hts'⟩:=ln_succ (n:=104) hts
   by_cases h12:w=[49]∨w=[50]
   ·obtain⟨c,n,rfl,hcn,hn2,hnode⟩:∃ (c:UInt8) (n:Nat),w=[c]∧(c.toNat:Int)=48+(n:Int)∧n≤2∧nodeOf [w]=none∧∀ v vs,nodeOf (w::v::vs)=some ((n:Int),v,vs):=by
     rcases h12 with rfl|rfl
     ·exact⟨49,1,rfl,rfl,by omega,rfl,fun _ _=>rfl⟩
     ·exact⟨50,2,rfl,rfl,by omega,rfl,fun _ _=>rfl⟩
    have hc12:c=49∨c=50:=by
     rcases h12 with h|h
     ·exact .inl (List.cons.inj h).1
     ·exact .inr (List.cons.inj h).1
    refine xseqN (fun l ds m'=>ds=[okD m.next]∧m'=m5∧gx l 48=.bool true∧Sl [.pointer (some ⟨sp,0,none⟩),.string ⟨⟨tx⟩⟩,undef,undef,.pointer (some ⟨m.next,0,none⟩),.pointer (some ⟨p,0,none⟩),.string ⟨⟨[c]⟩⟩,.pointer (some ⟨xp,0,none⟩)] 104 l) ?_ ?_
    rotate_left
    ·refine xregQ fun Q' hQ=>?_
     rcases hc12 with rfl|rfl
     ·simp [hts']
      subst hQ
      exact⟨rfl,rfl,by simp [hts'],Sl.mk rfl (by simp [hts'])⟩
     ·simp [hts']
      subst hQ
      exact⟨rfl,rfl,by simp [hts'],Sl.mk rfl (by simp [hts'])⟩
    rintro l ds m6 ⟨rfl,rfl,hg,us,hus,rfl⟩
    refine xif (v:=true) (by rw [evL_tmp'];exact hg) (fun _=>?_) (fun h=>by cases h)
    refine xsr fun Q' hQ=>?_
    have hwu:IntKind.wrap .u8 ((c.toNat:Int)-48)=(n:Int):=by rw [wru8 _ (by omega) (by omega)];omega
    have hwi:IntKind.wrap .i64 (n:Int)=(n:Int):=wr64 _ (by omega) (by omega)
    simp [hus,hwu,hwi,hx5,stpl]
    subst hQ
    have hx6:vw (stM m6 xp 1 [.int .i64 (n:Int)]) xp=some ⟨true,36,false,stpCells { stp0 with node:=(n:Int) } (.slice none 0 0) (.slice none 0 0)⟩:=by rw [vw_stM_eq hx5 (stOk_one rfl (by simp [stpl]) rfl)];rfl
    have hK6:Kp [xp] m6 (stM m6 xp 1 [.int .i64 (n:Int)]):=(Kp.refl _ _).st (by simp) _ _
    have hL6:LineAt (stM m6 xp 1 [.int .i64 (n:Int)]) p ws:=hL5.kp hK6 (by simp;omega)
    have hn6:(stM m6 xp 1 [.int .i64 (n:Int)]).next=m6.next:=stM_next
    generalize stM m6 xp 1 [.int .i64 (n:Int)]=m7 at hx6 hK6 hL6 hn6
    refine xregQ fun Q' hQ=>?_
    simp [hus]
    refine xcall (ov_none (by decide)) (word_ok hL6) ?_ ?_
    ·rintro r m8 ⟨w2,hw2,rfl,hL8,hK8⟩
     subst hQ
     cases ws with
     |nil=>cases hw2
     |cons w3 ws =>
     obtain rfl:=Option.some.inj hw2
     have hO6:=hO5'.kp hK6 (Nat.le_refl _) (by simp;omega)
     refine⟨rfl,n,w3,ws,hnode.2 _ _,hO6.kp hK8 (Nat.le_refl _) (by simp;omega),?_,hL8,by have:=hK8.1;omega,?_,Sl.mk rfl (by simp [hus])⟩
     ·rw [hK8.vw (by omega) (by simp;omega),hK6.vw (by omega) (by simp;omega)];exact hk5
     ·rw [hK8.vw (by omega) (by simp;omega)];exact hx6
    ·rintro ch m8 ⟨hw2,rfl,rfl⟩
     subst hQ
     refine fail (by simp [hus]) (by rw [hK6.vw (by omega) (by simp;omega)];exact hk5) (by omega) (Ch.of_old ((hO5'.kp hK6 (Nat.le_refl _) (by simp;omega)).le hn)) (hnone ?_)
     cases ws with
     |cons w3 ws=>cases hw2
     |nil=>unfold stepOf;rw [hnode.1]
   ·rw [not_or] at h12
    refine xsr fun Q' hQ=>?_
    simp [hts',h12.1,h12.2]
    subst hQ
    refine xno (by simp [hts']) (xskip ?_)
    exact⟨rfl,0,w,ws,by simp [nodeOf,h12.1,h12.2],hO5',hk5,hL5,by omega,hx5,Sl.mk rfl (by simp [hts'])⟩
  rintro l ds m6 ⟨rfl,n,w2,ws2,hnode,hO6,hk6,hL6,hx6l,hx6,us,hus,rfl⟩
  have hE6:ErrAt m6:=hE.old hO6 (by have:=hE.1;omega)
  clear hk5 hL5 hE5 hx5 hO5 hO5' f1 hxp hts hL3 hK3 hE3 hk3 hO2 hk2 hO3 hp2 hp3
  refine xseqN (fun l ds m'=>ds=[okD m.next]∧vw m' m.next=some ⟨true,4,false,[.bool false]⟩∧Ch n0 [sp] m m'∧takeLn s tx=none∧gx l 4=.pointer (some ⟨m.next,0,none⟩)) ?_ ?_
  ·rintro l ds m8 ⟨rfl,hk8,hC8,hno,hg⟩
   refine xsr fun Q' hQ=>?_
   simp [hg,hk8]
   subst hQ
   refine xret (done (b:=false) hg (by rw [vw_stM_eq hk8 (stOk_one rfl (by simp) rfl)];rfl) ⟨?_,.inr ⟨hno,rfl⟩⟩)
   exact hC8.trans (Ch.of_kp' ((Kp.refl [m.next] m8).st (by simp) _ _) (by have:=hC8.1;omega) (by simp;omega))
  refine xsr fun Q' hQ=>?_
  simp [hus]
  refine xclosed ov_forms (by have:=hE6.1;omega) (fun hrows=>?_)
  rw [formsV_ren]
  have hO7:Old m6.next m6 (layRows m6 (formsRows.map (CRow.ren 8 m6.next))):=layRows_old _ _
  have hn7:(layRows m6 (formsRows.map (CRow.ren 8 m6.next))).next=m6.next+109:=by rw [layRows_next,List.length_map];rfl
  generalize layRows m6 (formsRows.map (CRow.ren 8 m6.next))=m7 at hrows hO7 hn7 ⊢
  generalize hk0:m6.next=k0 at hrows hO7 hn7 ⊢
  rw [hk0] at hx6l
  simp [hus]
  subst hQ
  obtain⟨tab,htab,htl,htk⟩:=tab_at hrows
  have hO7':Old m.next m m7:=hO6.trans (hO7.le (by have:=hO6.1;omega))
  have hk7:vw m7 m.next=some ⟨true,4,false,[.bool false]⟩:=by rw [hO7.vw (by omega)];exact hk6
  have hx7:vw m7 xp=some ⟨true,36,false,stpCells { stp0 with node:=(n:Int) } (.slice none 0 0) (.slice none 0 0)⟩:=by rw [hO7.vw hx6l];exact hx6
  have hL7:LineAt m7 p ws2:=hL6.ch (Ch.of_old (S:=[]) hO7) (by omega) (by simp)
  have hpk:p<k0:=by omega
  refine xblock (xwhile (N:=23) (I:=fun q l ds mk=>∃ k,q=23-k∧k≤23∧ds=[okD m.next]∧Old m7.next m7 mk∧(∀ j,j<k→¬ Mt n w2 j)∧∃ ts:List Value,ts.length=104∧l=[.pointer (some ⟨sp,0,none⟩),.string ⟨⟨tx⟩⟩,undef,undef,.pointer (some ⟨m.next,0,none⟩),.pointer (some ⟨p,0,none⟩),.string ⟨⟨w2⟩⟩,.pointer (some ⟨xp,0,none⟩)]++ts ∧
    gx ts 48=.slice (some ⟨k0+108,0,none⟩) 23 23∧gx ts 49=.int .i64 23∧gx ts 50=.int .i64 (k:Nat)) ?_ ?_)
  ·exact⟨0,rfl,by omega,rfl,.refl _ _,fun j hj=>by omega,_,by simp [hus],rfl,by simp [hus],by simp [hus],by simp [hus]⟩
  clear hus
  rintro q l ds mk ⟨k,rfl,hk,rfl,hOk,hno,us,hus,rfl,g48,g49,g50⟩
  have hOk':Old m.next m mk:=hO7'.trans (hOk.le (by omega))
  have hkk:vw mk m.next=some ⟨true,4,false,[.bool false]⟩:=by rw [hOk.vw (by omega)];exact hk7
  have hxk:vw mk xp=some ⟨true,36,false,stpCells { stp0 with node:=(n:Int) } (.slice none 0 0) (.slice none 0 0)⟩:=by rw [hOk.vw (by omega)];exact hx7
  have htabk:vw mk (k0+108)=some ⟨true,80,false,tab⟩:=by rw [hOk.vw (by omega)];exact htab
  refine xsr fun Q' hQ=>?_
  simp [hus,g48,g49,g50]
  subst hQ
  rw [thenA_normal]
  refine xseq (xif (v:=decide ((k:Int)<23)) (by simp [hus]) (fun h=>xskip ?_) (fun h=>xexit ?_))
  rotate_left
  ·simp only [decide_eq_false_iff_not] at h
   obtain rfl:k=23:=by omega
   exact⟨rfl,hkk,Ch.of_old (hOk'.le hn),hnone (step_none hnode hno),by simp⟩
  simp only [decide_eq_true_eq] at h
  have hklt:k<23:=by omega
  obtain⟨fa,fn,fc,hfs,hfs1⟩:=htk k hklt
  rw [thenA_normal]
  have hk22:k*2+2≤46:=by omega
  have g49':=g49
  refine xseqN (fun l ds m'=>ds=[okD m.next]∧Old m7.next m7 m'∧(∀ j,j<k+1→¬ Mt n w2 j)∧∃ ts:List Value,ts.length=104∧l=[.pointer (some ⟨sp,0,none⟩),.string ⟨⟨tx⟩⟩,undef,undef,.pointer (some ⟨m.next,0,none⟩),.pointer (some ⟨p,0,none⟩),.string ⟨⟨w2⟩⟩,.pointer (some ⟨xp,0,none⟩)]++ts ∧
    gx ts 48=.slice (some ⟨k0+108,0,none⟩) 23 23∧gx ts 49=.int .i64 23∧gx ts 50=.int .i64 (k:Nat)) ?_ ?_
  ·rintro l ds m8 ⟨rfl,hO8,hno8,vs,hvs,rfl,q48,q49,q50⟩
   refine xregQ fun Q' hQ=>?_
   obtain⟨k1,hk1⟩:∃ k1,k1=k+1:=⟨_,rfl⟩
   have hwk:IntKind.wrap .i64 ((k:Int)+1)=(k1:Int):=by rw [wr64 _ (by omega) (by omega)];omega
   simp [hvs,q50,hwk]
   subst hQ
   exact⟨23-k1,by omega,k1,rfl,by omega,rfl,hO8,by rw [hk1];exact hno8,_,by simp [hvs],rfl,by simp [hvs,q48],by simp [hvs,q49],by simp [hvs]⟩
  refine xblock (xseq (xregQ fun Q' hQ=>?_))
  simp [hus,g48,g50,htabk,hklt,htl,hk22,hfs]
  subst hQ
  obtain⟨m8,e8,f1,f2,f3⟩:=alloc_st' mk 80 2 [.string ⟨⟨[]⟩⟩,.slice none 0 0] [.string ⟨⟨wordOf k⟩⟩,.slice fa fn fc] rfl rfl rfl
  rw [← e8]
  have hO8:Old mk.next mk m8:=⟨by omega,f3⟩
  clear e8 f3
  obtain⟨fp,hfp⟩:∃ fp,fp=mk.next:=⟨_,rfl⟩
  rw [← hfp] at f2 ⊢
  have hO8':Old m7.next m7 m8:=hOk.trans (hO8.le hOk.1)
  have hk8:vw m8 m.next=some ⟨true,4,false,[.bool false]⟩:=by rw [hO8.vw (by have:=hOk.1;omega)];exact hkk
  have hx8:vw m8 xp=some ⟨true,36,false,stpCells { stp0 with node:=(n:Int) } (.slice none 0 0) (.slice none 0 0)⟩:=by rw [hO8.vw (by have:=hOk.1;omega)];exact hxk
  have y1:∀ d c:Value,(stpCells { stp0 with node:=(n:Int) } d c)[1]? = some (.int .i64 (n:Int)):=fun _ _=>rfl
  obtain⟨z0,us1,rfl,hus1⟩:=ln_succ (n:=103) hus
  obtain⟨z1,us2,rfl,hus2⟩:=ln_succ (n:=102) hus1
  simp at g48 g49 g50
  refine xseqN (fun l ds m'=>ds=[okD m.next]∧m'=m8∧Mt n w2 k∧Sl [.pointer (some ⟨sp,0,none⟩),.string ⟨⟨tx⟩⟩,undef,undef,.pointer (some ⟨m.next,0,none⟩),.pointer (some ⟨p,0,none⟩),.string ⟨⟨w2⟩⟩,.pointer (some ⟨xp,0,none⟩),.int .i64 (k:Nat),.pointer (some ⟨fp,0,none⟩)] 102 l) ?_ ?_
  rotate_left
  ·refine xsr fun Q' hQ=>?_
   have skip:¬ Mt n w2 k→∀ j,j<k+1→¬ Mt n w2 j:=fun h j hj=>by
    by_cases e:j=k
    ·rw [e];exact h
    ·exact hno j (by omega)
   by_cases h1:wordOf k=[]
   ·simp [hus2,f2,h1]
    subst hQ
    refine xif (v:=true) (by simp [hus2]) (fun _=>xexit ?_) (fun h=>by cases h)
    exact⟨rfl,hO8',skip (fun h=>h.1 h1),_,by simp [hus2],rfl,by simp [hus2,g48],by simp [hus2,g49],by simp [hus2,g50]⟩
   by_cases h2:wordOf k=w2
   ·have h1':¬ w2=[]:=by rw [← h2];exact h1
    by_cases hk1:k=1
    ·have hk1':(k:Int)=1:=by omega
     by_cases hn0:0<n
     ·have hn0':(0:Int)<(n:Int):=by omega
      simp [hus2,f2,h1',h2,hx8,y1,bneq4,hk1',hn0,hn0']
      subst hQ
      refine xif (v:=true) (by simp [hus2]) (fun _=>xexit ?_) (fun h=>by cases h)
      exact⟨rfl,hO8',skip (fun h=>by have:=h.2.2;simp [hk1,hn0] at this),_,by simp [hus2],rfl,by simp [hus2,g48],by simp [hus2,g49],by simp [hus2,g50]⟩
     ·have hn0':¬ (0:Int)<(n:Int):=by omega
      simp [hus2,f2,h1',h2,hx8,y1,bneq4,hk1',hn0,hn0']
      subst hQ
      refine xno (by simp [hus2]) (xskip ?_)
      exact⟨rfl,rfl,⟨h1,h2,by simp [hk1,hn0]⟩,Sl.mk (by simp [hk1']) (by simp [hus2])⟩
    ·have hk1':¬ (k:Int)=1:=by omega
     by_cases hn0:0<n
     ·have hn0':(0:Int)<(n:Int):=by omega
      simp [hus2,f2,h1',h2,hx8,y1,bneq4,hk1',hn0,hn0']
      subst hQ
      refine xno (by simp [hus2]) (xskip ?_)
      exact⟨rfl,rfl,⟨h1,h2,by simp [hk1,hn0]⟩,Sl.mk rfl (by simp [hus2])⟩
     ·have hn0':¬ (0:Int)<(n:Int):=by omega
      simp [hus2,f2,h1',h2,hx8,y1,bneq4,hk1',hn0,hn0']
      subst hQ
      refine xif (v:=true) (by simp [hus2]) (fun _=>xexit ?_) (fun h=>by cases h)
      exact⟨rfl,hO8',skip (fun h=>by have:=h.2.2;simp [hk1,hn0] at this),_,by simp [hus2],rfl,by simp [hus2,g48],by simp [hus2,g49],by simp [hus2,g50]⟩
   ·simp [hus2,f2,h1,h2]
    subst hQ
    refine xif (v:=true) (by simp [hus2]) (fun _=>xexit ?_) (fun h=>by cases h)
    exact⟨rfl,hO8',skip (fun h=>h2 h.2.1),_,by simp [hus2],rfl,by simp [hus2,g48],by simp [hus2,g49],by simp [hus2,g50]⟩
  rintro l ds m9 ⟨rfl,rfl,hM,us,hus',rfl⟩
  clear hus2 hus1 hus g48 g49 g50 g49'
  obtain⟨hk1,hstep⟩:=step_at hnode hklt hM
  refine xsr fun Q' hQ=>?_
  simp [hus',hx8,stpl]
  subst hQ
  have hx9:vw (stM m9 xp 0 [.int .i64 (k:Int)]) xp=some ⟨true,36,false,stpCells { stp0 with kind:=(k:Int),node:=(n:Int) } (.slice none 0 0) (.slice none 0 0)⟩:=by rw [vw_stM_eq hx8 (stOk_one rfl (by simp [stpl]) rfl)];rfl
  have hK9:Kp [xp] m9 (stM m9 xp 0 [.int .i64 (k:Int)]):=(Kp.refl _ _).st (by simp) _ _
  have hn9:(stM m9 xp 0 [.int .i64 (k:Int)]).next=m9.next:=stM_next
  generalize stM m9 xp 0 [.int .i64 (k:Int)]=m10 at hx9 hK9 hn9
  have hO9:Old m.next m m9:=hO7'.trans (hO8'.le (by omega))
  have hO10:Old m.next m m10:=hO9.kp hK9 (Nat.le_refl _) (by simp;omega)
  have hfp9:fp<m9.next:=by omega
  have hm79:m7.next≤m9.next:=hO8'.1
  have hk10:vw m10 m.next=some ⟨true,4,false,[.bool false]⟩:=by rw [hK9.vw (by omega) (by simp;omega)];exact hk8
  have hf10:vw m10 fp=some ⟨true,80,false,[.string ⟨⟨wordOf k⟩⟩,.slice fa fn fc]⟩:=by rw [hK9.vw hfp9 (by simp;omega)];exact f2
  have hL10:LineAt m10 p ws2:=(hL7.ch (Ch.of_old (S:=[]) hO8') (by omega) (by simp)).kp hK9 (by simp;omega)
  have hrl:formsRows.length=109:=rfl
  have hr10:RowsAt formsRows m10 k0:=hrows.keep fun x h1 h2=>by rw [hK9.2 x (by omega) (by simp;omega)];exact hO8'.2 x (by omega)
  have hE10:ErrAt m10:=hE.old hO10 (by have:=hE.1;omega)
  obtain⟨tab',e1,e2,fs',e3,e4⟩:=form_all' hrows hk1 (by omega)
  rw [htab] at e1
  obtain rfl:tab=tab':=by cases e1;rfl
  rw [hfs1] at e3
  obtain rfl:=Option.some.inj e3
  have hfn:fn=(fieldsOf k).length:=by
   rcases e4 with ⟨e5,e6⟩|⟨b,nn,cells,e5,e6,_⟩
   ·simp only [Value.slice.injEq] at e5;rw [e6];exact e5.2.1
   ·simp only [Value.slice.injEq] at e5;rw [e6];exact e5.2.1
  have hS10:StpAt m10.next m10 xp { stp0 with kind:=(k:Int),node:=(n:Int) }:=⟨by omega,Nat.le_refl _,_,_,hx9,.inl ⟨rfl,rfl,rfl⟩,.inl ⟨rfl,rfl,rfl⟩⟩
  generalize hs0:({ stp0 with kind:=(k:Int),node:=(n:Int) }:Stp)=s0 at hstep hS10
  have hs0c:s0.choices=[]:=by rw [← hs0];rfl
  clear hx9 hx8 f2 hk8 y1
  refine xseqN (fun l ds m'=>ds=[okD m.next]∧∃ s1 ws1,readFds (fieldsOf k) s0 ws2=some (s1,ws1)∧StpAt m10.next m' xp s1∧LineAt m' p ws1∧Ch m10.next [p,xp] m10 m'∧Sl [.pointer (some ⟨sp,0,none⟩),.string ⟨⟨tx⟩⟩,undef,undef,.pointer (some ⟨m.next,0,none⟩),.pointer (some ⟨p,0,none⟩),.string ⟨⟨w2⟩⟩,.pointer (some ⟨xp,0,none⟩)] 104 l) ?_ ?_
  rotate_left
  ·refine xsr fun Q' hQ=>?_
   simp [hus',hf10]
   subst hQ
   refine xblock (xwhile (N:=fn) (I:=fun q l ds mk=>∃ j s1 ws1,q=fn-j∧j≤fn∧ds=[okD m.next]∧readFds (fieldsOf k) s0 ws2=readFds ((fieldsOf k).drop j) s1 ws1∧(j=0→s1=s0)∧StpAt m10.next mk xp s1∧LineAt mk p ws1∧Ch m10.next [p,xp] m10 mk∧∃ ts:List Value,ts.length=104 ∧
     l=[.pointer (some ⟨sp,0,none⟩),.string ⟨⟨tx⟩⟩,undef,undef,.pointer (some ⟨m.next,0,none⟩),.pointer (some ⟨p,0,none⟩),.string ⟨⟨w2⟩⟩,.pointer (some ⟨xp,0,none⟩)]++ts∧gx ts 75=.slice fa fn fc∧gx ts 76=.int .i64 (fn:Nat)∧gx ts 77=.int .i64 (j:Nat)) ?_ ?_)
   ·exact⟨0,s0,ws2,rfl,by omega,rfl,by simp,fun _=>rfl,hS10,hL10,.refl _ _ _,.int .i64 (k:Nat)::.pointer (some ⟨fp,0,none⟩)::_,by simp [hus'],rfl,by simp [hus'],by simp [hus'],by simp [hus']⟩
   clear hus'
   rintro q l ds mk2 ⟨j,s1,ws1,rfl,hj,rfl,hrd,hj0,hS1,hL1,hC1,us,hus,rfl,q75,q76,q77⟩
   refine xsr fun Q' hQ=>?_
   simp [hus,q76,q77]
   subst hQ
   rw [thenA_normal]
   refine xseq (xif (v:=decide ((j:Int)<(fn:Int))) (by simp [hus]) (fun h=>xskip ?_) (fun h=>xexit ?_))
   rotate_left
   ·simp only [decide_eq_false_iff_not] at h
    obtain rfl:j=fn:=by omega
    rw [List.drop_eq_nil_of_le (by omega)] at hrd
    exact⟨rfl,s1,ws1,hrd,hS1,hL1,hC1,Sl.mk rfl (by simp [hus])⟩
   simp only [decide_eq_true_eq] at h
   have hjl:j<fn:=by omega
   rw [thenA_normal]
   obtain⟨f,hf⟩:∃ f,(fieldsOf k)[j]? = some f:=⟨_,List.getElem?_eq_getElem (by omega)⟩
   have hdr:(fieldsOf k).drop j=f::(fieldsOf k).drop (j+1):=by
    rw [List.drop_eq_getElem_cons (by omega)];congr 1;exact (List.getElem?_eq_some_iff.1 hf).2
   rw [hdr] at hrd
   simp only [readFds] at hrd
   rcases e4 with ⟨e5,e6⟩|⟨b,nn,cells,e5,e6,e7,e8,e9,e10⟩
   ·rw [e6] at hf;simp at hf
   simp only [Value.slice.injEq] at e5
   obtain⟨rfl,rfl,rfl⟩:=e5
   have hr1:RowsAt formsRows mk2 k0:=hr10.keep fun x h1 h2=>hC1.2 x (by omega) (by simp;omega)
   obtain⟨hcv,hce⟩:=e10 mk2 hr1
   obtain⟨rv,pv,c1,c2,hIs⟩:=hce j f hf
   have htk2:=takeN_two' c1 c2
   obtain⟨fa1,fb1,fc1,fd1,fe1,fg1,hrv,hpv⟩:=isFd_one hIs
   have hO2x:Old m.next m mk2:=hO10.ch hC1 (by omega) (by simp;omega)
   have hEx:ErrAt mk2:=hE.old hO2x (by have:=hE.1;omega)
   have hxm:m10.next≤mk2.next:=hC1.1
   have hj2:j*2+2≤cells.length:=by omega
   refine xseqN (fun l ds m'=>ds=[okD m.next]∧∃ s2 ws3,f.read s1 ws1=some (s2,ws3)∧StpAt m10.next m' xp s2∧LineAt m' p ws3∧Ch m10.next [p,xp] m10 m'∧∃ ts:List Value,ts.length=104 ∧
     l=[.pointer (some ⟨sp,0,none⟩),.string ⟨⟨tx⟩⟩,undef,undef,.pointer (some ⟨m.next,0,none⟩),.pointer (some ⟨p,0,none⟩),.string ⟨⟨w2⟩⟩,.pointer (some ⟨xp,0,none⟩)]++ts∧gx ts 75=.slice (some ⟨b,0,none⟩) fc fc∧gx ts 76=.int .i64 (fc:Nat)∧gx ts 77=.int .i64 (j:Nat)) ?_ ?_
   ·rintro l ds m11 ⟨rfl,s2,ws3,hr2,hS2,hL2,hC2,vs,hvs,rfl,r75,r76,r77⟩
    refine xregQ fun Q' hQ=>?_
    obtain⟨j1,hj1⟩:∃ j1,j1=j+1:=⟨_,rfl⟩
    have hwj:IntKind.wrap .i64 ((j:Int)+1)=(j1:Int):=by rw [wr64 _ (by omega) (by have:=fields5 ⟨k,hklt⟩;simp only at this;omega)];omega
    simp [hvs,r77,hwj]
    subst hQ
    exact⟨fc-j1,by omega,j1,s2,ws3,rfl,by omega,rfl,by rw [hrd,hr2,hj1],fun e=>by omega,hS2,hL2,hC2,_,by simp [hvs],rfl,by simp [hvs,r75],by simp [hvs,r76],by simp [hvs]⟩
   refine xblock (xseq (xregQ fun Q' hQ=>?_))
   obtain⟨z0,us1,rfl,hus1⟩:=ln_succ (n:=103) hus
   obtain⟨z1,us2,rfl,hus2⟩:=ln_succ (n:=102) hus1
   obtain⟨z2,us3,rfl,hus3⟩:=ln_succ (n:=101) hus2
   obtain⟨z3,us4,rfl,hus4⟩:=ln_succ (n:=100) hus3
   simp at q75 q76 q77
   rw [hrv,hpv] at htk2
   simp [hus4,q75,q77,hcv,hjl,hj2,htk2]
   subst hQ
   obtain⟨m11,e11,f1,f2,f3⟩:=alloc_st' mk2 84 2 [.nilFunc,.nilFunc] [.func fa1 fb1 fc1,.func fd1 fe1 fg1] rfl rfl rfl
   rw [← e11]
   have hO11:Old mk2.next mk2 m11:=⟨by omega,f3⟩
   clear e11
   obtain⟨np,hnp⟩:∃ np,np=mk2.next:=⟨_,rfl⟩
   rw [← hnp] at f2 ⊢
   have hS11:StpAt m10.next m11 xp s1:=by
    obtain⟨h1,h2,d,c,h3,h4,h5⟩:=hS1
    exact⟨h1,by omega,d,c,by rw [hO11.vw (by omega)];exact h3,h4.ex hO11.1 fun x hx _ _=>hO11.2 x hx,h5.ex hO11.1 fun x hx _ _=>hO11.2 x hx⟩
   have hL11:LineAt m11 p ws1:=hL1.ch (Ch.of_old (S:=[]) hO11) (by omega) (by simp)
   have hI11:IsFd m11 k0 (.func fa1 fb1 fc1) (.func fd1 fe1 fg1) f:=by
    rw [← hrv,← hpv]
    exact hIs.eq' fun z z1 z2=>hO11.vw (by omega)
   have hE11:ErrAt m11:=hEx.old hO11 (by have:=hEx.1;omega)
   have hC11:Ch m10.next [p,xp] m10 m11:=hC1.trans (Ch.of_old (hO11.le hxm))
   refine xregQ fun Q' hQ=>?_
   simp [hus4,f2]
   refine field_read hI11 hS11 hL11 hE11 (by omega) (fun hfc=>?_) ?_ ?_
   ·subst hfc;rw [hj0 (choices_first hklt hf)];exact hs0c
   ·rintro r m12 ⟨⟨s2,ws3⟩,hr2,hS12,hL12,hC12⟩
    subst hQ
    exact⟨rfl,s2,ws3,hr2,hS12,hL12,hC11.trans hC12,_,by simp [hus4],rfl,by simp [hus4,q75],by simp [hus4,q76],by simp [hus4,q77]⟩
   ·rintro ch m12 ⟨hr2,rfl,hC12⟩
    subst hQ
    have hC13:=hC11.trans hC12
    refine fail (by simp) (by rw [hC13.vw (by omega) (by simp;omega)];exact hk10) (by have:=hC13.1;omega) ((Ch.of_old (hO10.le hn)).trans (hC13.sub (by omega) (by simp;omega))) (hnone ?_)
    rw [hstep,hrd,hr2]
  rintro l ds m12 ⟨rfl,s1,ws1,hrd,hS1,hL1,hC1,us,hus,rfl⟩
  have hO12:Old m.next m m12:=hO10.ch hC1 (by omega) (by simp;omega)
  have hk12:vw m12 m.next=some ⟨true,4,false,[.bool false]⟩:=by rw [hC1.vw (by omega) (by simp;omega)];exact hk10
  obtain⟨al,cl,hvl⟩:=hL1.len
  refine xsr fun Q' hQ=>?_
  cases ws1 with
  |cons w9 ws9 =>
   have hgt:¬ (ws9.length:Int)+1=0:=by omega
   simp [hus,hvl,hgt]
   refine xcall (ov_none (by decide)) (need_f _) (fun v m' h=>h.elim) ?_
   rintro ch m5 ⟨rfl,rfl⟩
   subst hQ
   refine fail (by simp [hus]) hk12 (by have:=hC1.1;omega) (Ch.of_old (hO12.le hn)) (hnone ?_)
   rw [hstep,hrd]
  |nil =>
  simp [hus,hvl]
  refine xcall (ov_none (by decide)) (need_t _) ?_ (fun ch m' h=>h.elim)
  rintro r m13 ⟨rfl,rfl⟩
  subst hQ
  have htake:takeLn s tx=some { s with steps:=s.steps++[s1] }:=by
   unfold takeLn;rw [hln,hstep,hrd];simp [hbg]
  obtain⟨g1,g2,d,c,hx1,hd1,hc1⟩:=hS1
  obtain⟨ad,rfl⟩:=hd1.shape
  obtain⟨ac,rfl⟩:=hc1.shape
  obtain⟨⟨cells,hown,hcl,hce⟩,hri⟩:=hst2
  have hv12:vw m13 sp=some ⟨true,99,false,scrCells s.setup (.slice av s.steps.length s.steps.length) s.begun⟩:=by rw [hO12.vw (by omega)];exact hv
  have z9:∀ x v b,(scrCells x v b)[9]? = some v:=fun _ _ _=>rfl
  have ht17:takeN (stpCells s1 (.slice ad s1.data.length s1.data.length) (.slice ac s1.choices.length s1.choices.length)) 0 17=stpCells s1 (.slice ad s1.data.length s1.data.length) (.slice ac s1.choices.length s1.choices.length):=rfl
  have hone:(stpCells s1 (.slice ad s1.data.length s1.data.length) (.slice ac s1.choices.length s1.choices.length)).all oneC=true:=rfl
  have hveq:vEq 100 (.agg ⟨stpCells s1 (.slice ad s1.data.length s1.data.length) (.slice ac s1.choices.length s1.choices.length)⟩) (.agg ⟨stpCells s1 (.slice ad s1.data.length s1.data.length) (.slice ac s1.choices.length s1.choices.length)⟩)=true:=by
   refine vEq_a fun v hv=>?_
   simp only [stpCells,List.mem_cons,List.not_mem_nil,or_false] at hv
   rcases hv with rfl|rfl|rfl|rfl|rfl|rfl|rfl|rfl|rfl|rfl|rfl|rfl|rfl|rfl|rfl|rfl|rfl<;>first|exact vEq_i _ _ _|exact vEq_l _ _ _ _
  have hO13:Old m.next m (newObjA m13 (.row ⟨T.setL (stpCells s1 (.slice ad s1.data.length s1.data.length) (.slice ac s1.choices.length s1.choices.length)) 0 .lf,17,[.int .i64 0,.int .i64 0,.int .i64 0,.int .u64 0,.int .u64 0,.slice none 0 0,.int .u64 0,.int .i64 0,.int .i64 0,.int .i64 0,.int .i64 0,.int .i64 0,.int .u32 0,.int .u64 0,.slice none 0 0,.int .i64 0,.int .u64 0],36,.none,false⟩)):=hO12.new (by have:=hO12.1;omega) _
  obtain⟨v',m14,k1,k2,k3,k4,bn,k5,k6⟩:=hown.append (k:=0) (sz:=17) (new:=stpCells s1 (.slice ad s1.data.length s1.data.length) (.slice ac s1.choices.length s1.choices.length)) hO13 hn hcl (by rw [stpl]) hone
  subst k5
  have hv14:vw m14 sp=some ⟨true,99,false,scrCells s.setup (.slice av s.steps.length s.steps.length) s.begun⟩:=by
   rw [k4.vw hsp,vw_new,if_neg (by omega)];exact hv12
  have hsp17:spl [.int .i64 0,.int .i64 0,.int .i64 0,.int .u64 0,.int .u64 0,.slice none 0 0,.int .u64 0,.int .i64 0,.int .i64 0,.int .i64 0,.int .i64 0,.int .i64 0,.int .u32 0,.int .u64 0,.slice none 0 0,.int .i64 0,.int .u64 0] 0 (stpCells s1 (.slice ad s1.data.length s1.data.length) (.slice ac s1.choices.length s1.choices.length))=stpCells s1 (.slice ad s1.data.length s1.data.length) (.slice ac s1.choices.length s1.choices.length):=spl_full' rfl
  have hbv:∀ x,blkV (.slice av s.steps.length s.steps.length)=some x→x<m.next∧vw m x=some ⟨true,36,true,cells⟩:=by
   intro x hx
   rcases hown with ⟨e,_⟩|⟨b,e,q1,q2,q3⟩
   ·rw [e] at hx;cases hx
   ·rw [e] at hx;have:b=x:=Option.some.inj hx
    subst this;exact⟨q2,q3⟩
  have hxpn:m.next<xp:=by omega
  have hx14:vw m14 xp=some ⟨true,36,false,stpCells s1 (.slice ad s1.data.length s1.data.length) (.slice ac s1.choices.length s1.choices.length)⟩:=by
   rw [k3.vw (by rw [next_newObjA];omega) (fun e=>by have:=(hbv _ e).1;omega),vw_new,if_neg (by omega)];exact hx1
  have hk14:vw m14 m.next=some ⟨true,4,false,[.bool false]⟩:=by
   rw [k3.vw (by rw [next_newObjA];have:=hC1.1;omega) (fun e=>by have:=(hbv _ e).1;omega),vw_new,if_neg (by have:=hC1.1;omega)];exact hk12
  have hn14:m13.next+1≤m14.next:=by have:=k3.1;rw [next_newObjA] at this;exact this
  refine xseq (xdrw 4 fun Q' hQ=>?_)
  simp [-at_W,hus,hv12,z9,scrl,stpl,hx1,hx14,ht17,hsp17,hveq,hv14,fits_true _ s.steps.length s.steps.length 1 168 (by omega),k1]
  subst hQ
  have hv15:vw (stM m14 sp 9 [.slice (some ⟨bn,0,none⟩) (s.steps.length+1) (s.steps.length+1)]) sp=some ⟨true,99,false,scrCells s.setup (.slice (some ⟨bn,0,none⟩) (s.steps.length+1) (s.steps.length+1)) s.begun⟩:=by rw [vw_stM_eq hv14 (stOk_one rfl (by simp [scrl]) rfl)];rfl
  have hk15:vw (stM m14 sp 9 [.slice (some ⟨bn,0,none⟩) (s.steps.length+1) (s.steps.length+1)]) m.next=some ⟨true,4,false,[.bool false]⟩:=by rw [vw_stM_ne (by omega)];exact hk14
  have hg15:∀ x,x≠sp→(stM m14 sp 9 [.slice (some ⟨bn,0,none⟩) (s.steps.length+1) (s.steps.length+1)]).objs.get x=m14.objs.get x:=fun x hx=>stM_get hx
  have hn15:(stM m14 sp 9 [.slice (some ⟨bn,0,none⟩) (s.steps.length+1) (s.steps.length+1)]).next=m14.next:=stM_next
  generalize stM m14 sp 9 [.slice (some ⟨bn,0,none⟩) (s.steps.length+1) (s.steps.length+1)]=m15 at hv15 hk15 hg15 hn15
  refine xsr fun Q' hQ=>?_
  simp [hus,hk15]
  subst hQ
  have hg16:∀ x,x≠m.next→(stM m15 m.next 0 [.bool true]).objs.get x=m15.objs.get x:=fun x hx=>stM_get hx
  have hn16:(stM m15 m.next 0 [.bool true]).next=m15.next:=stM_next
  have hk16:vw (stM m15 m.next 0 [.bool true]) m.next=some ⟨true,4,false,[.bool true]⟩:=by rw [vw_stM_eq hk15 (stOk_one rfl (by simp) rfl)];rfl
  have hv16:vw (stM m15 m.next 0 [.bool true]) sp=some ⟨true,99,false,scrCells s.setup (.slice (some ⟨bn,0,none⟩) (s.steps.length+1) (s.steps.length+1)) s.begun⟩:=by rw [vw_stM_ne (by omega)];exact hv15
  generalize stM m15 m.next 0 [.bool true]=m16 at hg16 hn16 hk16 hv16
  have hstay:∀ x V,x<m13.next→vw m13 x=some V→V.ext=true→V.elem≠36→m16.objs.get x=m13.objs.get x:=by
   intro x V hx hV hV1 hV2
   have e1:x≠m.next:=fun e=>by rw [e,hk12] at hV;cases hV;cases hV1
   have e2:x≠sp:=fun e=>by rw [e,hv12] at hV;cases hV;cases hV1
   have e3:blkV (.slice av s.steps.length s.steps.length)≠some x:=fun e=>by
    obtain⟨q1,q2⟩:=hbv x e
    rw [hO12.vw q1,q2] at hV
    cases hV;exact hV2 rfl
   rw [hg16 x e1,hg15 x e2,k3.2 x (by rw [next_newObjA];omega) e3,get_newObjA,if_neg (by omega)]
  have hold:∀ {v:Value} {e:TypeId} {k:Nat} {cs:List Value},Own n0 m v e k cs→e≠36→Own n0 m16 v e k cs:=by
   intro v e k cs h he
   refine h.ex (by have:=hO12.1;omega) fun x hx _ hV=>?_
   rw [hstay x _ (by have:=hO12.1;omega) (by rw [hO12.vw hx];exact hV) rfl he]
   exact hO12.2 x hx
  have hnew:∀ {v:Value} {e:TypeId} {k:Nat} {cs:List Value},Own m10.next m13 v e k cs→e≠36→Own n0 m16 v e k cs:=fun h he=>(h.le (by have:=hO10.1;omega)).ex (by omega) fun x hx _ hV=>hstay x _ hx hV rfl he
  refine xret (done (b:=true) (by simp [hus]) hk16 ⟨⟨by have:=hO12.1;omega,fun x hx hs=>?_⟩,.inl ⟨_,htake,rfl,.slice (some ⟨bn,0,none⟩) (s.steps.length+1) (s.steps.length+1),hv16,⟨cells++stpCells s1 (.slice ad s1.data.length s1.data.length) (.slice ac s1.choices.length s1.choices.length),?_,?_,?_⟩,?_⟩⟩)
  ·rw [hg16 x (by omega),hg15 x (by simpa using hs),k4.2 x hx,get_newObjA,if_neg (by omega)]
   exact hO12.2 x (by omega)
  ·have h5:=k2.ex (m':=m16) (by omega) fun x hx h0 hV=>by
    have e1:x≠m.next:=fun e=>by rw [e,hk14] at hV;cases hV
    have e2:x≠sp:=fun e=>by rw [e,hv14] at hV;cases hV
    rw [hg16 x e1,hg15 x e2]
   simpa using h5
  ·simp [hcl,stpl];omega
  ·intro k2 s2 hs2
   simp only at hs2
   by_cases hlt:k2<s.steps.length
   ·rw [List.getElem?_append_left hlt] at hs2
    obtain⟨d',c',q1,q2,q3⟩:=hce k2 s2 hs2
    refine⟨d',c',?_,hold q2 (by decide),hold q3 (by decide)⟩
    rw [← q1];unfold takeN
    rw [List.drop_append_of_le_length (by omega),List.take_append_of_le_length (by simp;omega)]
   ·rw [List.getElem?_append_right (by omega)] at hs2
    have hk2:=(List.getElem?_eq_some_iff.1 hs2).1
    simp only [List.length_cons,List.length_nil] at hk2
    obtain rfl:k2=s.steps.length:=by omega
    simp only [Nat.sub_self,List.getElem?_cons_zero,Option.some.injEq] at hs2
    subst hs2
    refine⟨_,_,?_,hnew hd1 (by decide),hnew hc1 (by decide)⟩
    unfold takeN
    rw [← hcl,List.drop_left,List.take_of_length_le (by rw [stpl];omega)]
  ·intro b cs hb hV
   obtain rfl:bn=b:=Option.some.inj hb
   have h5:=k2.ex (m':=m16) (by omega) fun x hx h0 hV=>by
    have e1:x≠m.next:=fun e=>by rw [e,hk14] at hV;cases hV
    have e2:x≠sp:=fun e=>by rw [e,hv14] at hV;cases hV
    rw [hg16 x e1,hg15 x e2]
   obtain⟨-,-,h6⟩:=own_blk h5 (b:=bn) rfl
   rw [h6] at hV
   simp only [Option.some.injEq,Vw.mk.injEq,true_and] at hV
   subst hV
   obtain⟨r1,r2⟩:=rise_of hown hri
   have hlow:∀ k,k<s.steps.length→∃ s2 d c,takeN cells (k*17) 17=stpCells s2 d c∧(∀ x,blkV d=some x→x<m.next)∧∀ x,blkV c=some x→x<m.next:=fun k hk=>by
    obtain⟨d,c,q1,q2,q3⟩:=hce k s.steps[k] (List.getElem?_eq_getElem hk)
    exact⟨_,d,c,q1,fun x hx=>(own_blk q2 hx).2.1,fun x hx=>(own_blk q3 hx).2.1⟩
   refine⟨rise_app r1 hcl (by decide) (stpl _ _ _) rfl fun k hk d x y h1 hx hy=>?_,rise_app r2 hcl (by decide) (stpl _ _ _) rfl fun k hk d x y h1 hx hy=>?_⟩
   ·obtain⟨s2,d',c',q1,q2,q3⟩:=hlow k hk
    rw [takeN_at q1 (by decide)] at h1
    obtain rfl:d'=d:=Option.some.inj h1
    have:=(own_blk hd1 hy).1
    have:=q2 x hx
    have:=hO10.1
    omega
   ·obtain⟨s2,d',c',q1,q2,q3⟩:=hlow k hk
    rw [takeN_at q1 (by decide)] at h1
    obtain rfl:c'=d:=Option.some.inj h1
    have:=(own_blk hc1 hy).1
    have:=q3 x hx
    have:=hO10.1
    omega
end Go.Proofs.YtgmkbdmgifdfeaaGreatDoor

set_option maxRecDepth 8000
namespace Go.Proofs.YtgmkbdmgifdfeaaGreatDoor
open Go Go.Ev
theorem idx_cut:∀ tx:List UInt8,(Lib.indexByte tx 10 = -1∧cutLines tx=[tx])∨∃ i:Nat,Lib.indexByte tx 10=(i:Int)∧i<tx.length∧cutLines tx=tx.take i::cutLines (tx.drop (i+1))
 | []=>.inl ⟨rfl,rfl⟩
 |b::l=>by
  by_cases h:b=10
  ·subst h
   exact .inr ⟨0,by simp [Lib.indexByte],by simp,by simp [cutLines]⟩
  ·have hb:(b==10)=false:=by simp [h]
   rcases idx_cut l with ⟨h1,h2⟩|⟨i,h1,h2,h3⟩
   ·exact .inl ⟨by simp [Lib.indexByte,hb,h1],by simp [cutLines,h,h2]⟩
   ·refine .inr ⟨i+1,?_,by simp;omega,by simp [cutLines,h,h3]⟩
    have:¬ ((i:Int) == -1)=true:=by simp
    simp [Lib.indexByte,hb,h1]
theorem splitSeq_ok {m:Mem} (tx sep:ByteArray):CallsA tb 39 [.string tx,.string sep] m (retR fun r m'=>r=.func (.func 106) ⟨[]⟩ ⟨[.pointer (some ⟨m.next+1,0,none⟩),.pointer (some ⟨m.next,0,none⟩),.pointer (some ⟨m.next+2,0,none⟩)]⟩ ∧
  vw m' m.next=some ⟨true,9,false,[.string tx]⟩∧vw m' (m.next+1)=some ⟨true,9,false,[.string sep]⟩∧vw m' (m.next+2)=some ⟨true,3,false,[.int .i64 0]⟩∧Old m.next m m'∧m'.next=m.next+3):=by
 have h70:∀ m:Mem,CallsA tb 70 [.string tx,.string sep,.int .i64 0] m (retR fun r m'=>r=.func (.func 106) ⟨[]⟩ ⟨[.pointer (some ⟨m.next+1,0,none⟩),.pointer (some ⟨m.next,0,none⟩),.pointer (some ⟨m.next+2,0,none⟩)]⟩ ∧
   vw m' m.next=some ⟨true,9,false,[.string tx]⟩∧vw m' (m.next+1)=some ⟨true,9,false,[.string sep]⟩∧vw m' (m.next+2)=some ⟨true,3,false,[.int .i64 0]⟩∧Old m.next m m'∧m'.next=m.next+3):=by
  intro m
  refine callsS Tryz.func70 e70 rfl rfl ?_
  simp only [s70,List.replicate,List.length_cons,List.length_nil,List.cons_append,List.nil_append,Nat.reduceAdd,Nat.reduceSub]
  refine xsr fun Q' hQ=>?_
  simp
  subst hQ
  refine xsr fun Q' hQ=>?_
  simp
  subst hQ
  refine xret ⟨rfl,_,resX_one _,rfl,?_,?_,?_,?_,rfl⟩
  ·simp
   omega
  ·simp
  ·simp
  ·exact (((Old.refl _ _).new (Nat.le_refl _) _).new (by rw [next_newObjA];omega) _).new (by simp;omega) _
 refine callsS Tryz.func39 e39 rfl rfl ?_
 simp only [s39,List.replicate,List.length_cons,List.length_nil,List.cons_append,List.nil_append,Nat.reduceAdd,Nat.reduceSub]
 refine xsr fun Q' hQ=>?_
 simp
 subst hQ
 refine xsr fun Q' hQ=>?_
 simp
 refine xcall (ov_none (by decide)) (h70 m) ?_ (fun ch m' h=>h.elim)
 rintro r m1 ⟨rfl,h⟩
 subst hQ
 exact xret ⟨rfl,_,resX_one _,rfl,h⟩
theorem call_round {F:FC} {lp:Nat} {args:List Value} {m:Mem} {ds:List Deferred} {R:OutA→Mem→Prop} {K:Value→List Deferred→Mem→Prop} {PK:List PanicEntry→Mem→Prop} (h:RoundsA tb lp args m R) (k:∀ v m',R (.ret v) m'→K v ds m') (pk:∀ ch m',R (.pan ch) m'→PK ch m') :
  wpNext tb (callValue tb (.func (.yield lp) #[] #[]) args m) ds m K PK:=by
 have e:callValue tb (.func (.yield lp) #[] #[]) args m=.round lp args:=by simp only [callValue,invokeA,List.nil_append]
 rw [e]
 obtain⟨g,h1,h2⟩:=h
 refine⟨g,h1,fun c cs=>?_⟩
 obtain⟨out,m',h3,h4⟩:=h2 c cs
 refine⟨out,m',?_,h4⟩
 cases out with
 |ret v=>exact k _ _ h3
 |pan ch=>exact pk _ _ h3
theorem seq_ok {lp b0 b1 b2:Nat} {I:List (List UInt8)→Mem→Prop} {Fn:Mem→Prop}
  (hround:∀ l ls m,I (l::ls) m→RoundsA tb lp [.string ⟨⟨l⟩⟩] m (fun out m'=>vw m' b0=vw m b0∧((out=.ret (.bool true)∧I ls m')∨(out=.ret (.bool false)∧Fn m'))))
  (hst:∀ ls m y,I ls m→I ls (stM m b0 0 [.string y]))
  (hbox:∀ ls m,I ls m→vw m b1=some ⟨true,9,false,[.string ⟨⟨[10]⟩⟩]⟩∧vw m b2=some ⟨true,3,false,[.int .i64 0]⟩)
  {m:Mem} {tx:List UInt8} (h0:I (cutLines tx) m) (hb0:vw m b0=some ⟨true,9,false,[.string ⟨⟨tx⟩⟩]⟩) (hlen:tx.length≤2000000) :
  CallsA tb 106 [.func (.yield lp) #[] #[],.pointer (some ⟨b1,0,none⟩),.pointer (some ⟨b0,0,none⟩),.pointer (some ⟨b2,0,none⟩)] m (retR fun r m'=>I [] m'∨Fn m'):=by
 refine callsS Tryz.func106 e106 rfl rfl ?_
 simp only [s106,List.replicate,List.length_cons,List.length_nil,List.cons_append,List.nil_append,Nat.reduceAdd,Nat.reduceSub]
 obtain⟨hb1,hb2⟩:=hbox _ _ h0
 refine xseq (xseq (xregQ fun Q' hQ=>?_))
 simp [hb1]
 subst hQ
 refine xno rfl (xskip ?_)
 refine xseqN (fun l ds m1=>ds=[]∧∃ tx1,cutLines tx1=[tx1]∧I (cutLines tx1) m1∧vw m1 b0=some ⟨true,9,false,[.string ⟨⟨tx1⟩⟩]⟩∧Sl [.func (.yield lp) #[] #[],.pointer (some ⟨b1,0,none⟩),.pointer (some ⟨b0,0,none⟩),.pointer (some ⟨b2,0,none⟩)] 48 l) ?_ ?_
 ·rintro l ds m1 ⟨rfl,tx1,h1,h2,h3,us,hus,rfl⟩
  refine xregQ fun Q' hQ=>?_
  simp [hus,h3]
  rw [h1] at h2
  refine call_round (F:=⟨106,.normal,none⟩) (hround _ _ _ h2) ?_ ?_
  ·rintro v m2 ⟨_,⟨e,h4⟩|⟨e,h4⟩⟩
   ·subst hQ;exact⟨rfl,_,resX_nil,.inl h4⟩
   ·subst hQ;exact⟨rfl,_,resX_nil,.inr h4⟩
  ·rintro ch m2 ⟨_,⟨e,_⟩|⟨e,_⟩⟩<;>cases e
 refine xblock (xwhile (N:=tx.length) (I:=fun n l ds m1=>∃ tx1,n=tx1.length∧ds=[]∧tx1.length≤tx.length∧I (cutLines tx1) m1∧vw m1 b0=some ⟨true,9,false,[.string ⟨⟨tx1⟩⟩]⟩∧Sl [.func (.yield lp) #[] #[],.pointer (some ⟨b1,0,none⟩),.pointer (some ⟨b0,0,none⟩),.pointer (some ⟨b2,0,none⟩)] 48 l) ?_ ?_)
 ·exact⟨tx,rfl,rfl,Nat.le_refl _,h0,hb0,Sl.mk rfl rfl⟩
 clear hb0 h0 hb1 hb2
 rintro n l ds m1 ⟨tx1,rfl,rfl,hle,hI,hb0,us,hus,rfl⟩
 obtain⟨hb1,hb2⟩:=hbox _ _ hI
 refine xblock (xseq (xregQ fun Q' hQ=>?_))
 simp [hus,hb0,hb1]
 refine xover (m':=m1) (v:=.int .i64 (Lib.indexByte tx1 10)) ov_idx (by simp [idxOv]) ?_
 subst hQ
 refine xseq (xseq (xregQ fun Q' hQ=>?_))
 rcases idx_cut tx1 with ⟨h1,h2⟩|⟨i,h1,h2,h3⟩
 ·rw [h1]
  simp [hus]
  subst hQ
  refine xif (v:=true) (by simp [hus]) (fun _=>xexit ?_) (fun h=>by cases h)
  exact⟨rfl,tx1,h2,hI,hb0,Sl.mk rfl (by simp [hus])⟩
 ·rw [h1]
  have hi0:¬ (i:Int)<0:=by omega
  simp [hus,hi0]
  subst hQ
  refine xno (by simp [hus]) (xskip ?_)
  refine xsr fun Q' hQ=>?_
  have hwi:IntKind.wrap .i64 (i:Int)=(i:Int):=wr64 _ (by omega) (by omega)
  have hil:i≤tx1.length:=by omega
  simp [hus,hb0,hb2,hwi,hil]
  subst hQ
  refine xseq (xseq (xregQ fun Q' hQ=>?_))
  simp [hus]
  rw [h3] at hI
  refine call_round (F:=⟨106,.normal,none⟩) (hround _ _ _ hI) ?_ ?_
  rotate_left
  ·rintro ch m2 ⟨_,⟨e,_⟩|⟨e,_⟩⟩<;>cases e
  rintro v m2 ⟨hv0,⟨e,hI2⟩|⟨e,hF2⟩⟩
  ·cases e
   simp [hus]
   subst hQ
   refine xno (by simp [hus]) (xskip ?_)
   obtain⟨hb1',hb2'⟩:=hbox _ _ hI2
   rw [hb0] at hv0
   refine xregQ fun Q' hQ=>?_
   obtain⟨i1,hi1⟩:∃ i1,i1=i+1:=⟨_,rfl⟩
   have hwi1:IntKind.wrap .i64 ((i:Int)+1)=(i1:Int):=by rw [wr64 _ (by omega) (by omega)];omega
   have hil1:i1≤tx1.length:=by omega
   have hdl:(tx1.drop i1).take (tx1.length-i1)=tx1.drop i1:=List.take_of_length_le (by simp)
   simp [hus,hv0,hb1',hwi1,hil1,hdl]
   subst hQ
   refine⟨(tx1.drop i1).length,by simp;omega,tx1.drop i1,rfl,rfl,by simp;omega,?_,?_,Sl.mk rfl (by simp [hus])⟩
   ·rw [hi1];exact hst _ _ _ hI2
   ·rw [vw_stM_eq hv0 (stOk_one rfl (by simp) rfl)];rfl
  ·cases e
   simp [hus]
   subst hQ
   refine xyes (by simp [hus]) ?_
   exact xret ⟨rfl,_,resX_nil,.inr hF2⟩
end Go.Proofs.YtgmkbdmgifdfeaaGreatDoor

