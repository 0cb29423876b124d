/- A part of a proof: ScriptBack. -/
import Derived.Test.YtgmkbdmgifdfeaaGreatDoorD16
set_option linter.unusedVariables false
set_option linter.unusedSimpArgs false
set_option maxRecDepth 8000
namespace Go.Proofs.YtgmkbdmgifdfeaaGreatDoor
open Go Go.Ev
def Qbm (x:Stu) (v:Value) (b:Bool):List Value:=[.int .i64 x.mtu,.int .u64 x.ack,.int .u64 x.retry,.int .i64 x.retries,.int .i64 x.window,.int .i64 x.inbox,.int .i64 x.sectors,.int .i64 x.room,.int .u64 x.start,v,.bool b]
theorem scrl (x:Stu) (v:Value) (b:Bool):(Qbm x v b).length=11:=rfl
theorem Qa1.stv {m:Mem} {p k:Nat} {ws:List (List UInt8)} {V:Vw} (h:Qa1 m p ws) (hv:vw m k=some V) (h1:V.ext=false) (h2:V.elem≠132) (i:Nat) (l:List Value):Qa1 (stM m k i l) p ws:=by
 obtain⟨g1,g2,g3,g4,v,g5,g6⟩:=h
 have hp:p≠k:=fun e=>by subst e;rw [g5] at hv;cases hv;exact h2 rfl
 refine⟨g1,by rw [Qav];exact g2,g3,g4,v,by rw [Qa9 hp];exact g5,?_⟩
 rcases g6 with g6|⟨b,all,g7,g8,g9⟩
 ·exact .inl g6
 ·have hb:b≠k:=fun e=>by subst e;rw [g8] at hv;cases hv;cases h1
  exact .inr ⟨b,all,g7,by rw [Qa9 hb];exact g8,g9⟩
theorem st99 {m:Mem} {sp i:Nat} {cs:List Value} {x:Value} (h:vw m sp=some ⟨true,99,false,cs⟩) (hi:i<cs.length) (hx:oneC x=true):vw (stM m sp i [x]) sp=some ⟨true,99,false,cs.set i x⟩:=by
 rw [Qau h (Qby rfl hi hx)];rfl
def Qds (ws:List (List UInt8)):Option (Stu × List (List UInt8)) :=
 (rd1 Qbf ws).bind fun a=>(rd1 Qbf a.2).bind fun b=>(rd1 Qbt b.2).bind fun c=>(rd1 Qbf c.2).bind fun d=>(rd1 Qbt d.2).bind fun e=>(rd1 Qbt e.2).bind fun f =>
  (rd1 Qbf f.2).bind fun g=>(rd1 Qbf g.2).bind fun h=>(rd1 Qbf h.2).bind fun i=>some (⟨d.1,e.1,f.1,g.1,h.1,i.1,a.1,b.1,c.1⟩,i.2)
theorem head_ok {m:Mem} {sp p:Nat} {x:Stu} {v:Value} {bg:Bool} {ws:List (List UInt8)} (hv:vw m sp=some ⟨true,99,false,Qbm x v bg⟩) (hsp:8≤sp) (hsn:sp<m.next) (hv1:oneC v=true) (hL:Qa1 m p ws) (hE:Qcv m) :
  Qaw tb 74 [.pointer (some ⟨sp,0,none⟩),.pointer (some ⟨p,0,none⟩)] m (optR (if bg then none else Qds ws) (fun a r m'=>vw m' sp=some ⟨true,99,false,Qbm a.1 v true⟩∧Qa1 m' p a.2∧Kp [p,sp] m m') (fun m'=>Kp [p,sp] m m')):=by
 refine Qa5 Tryz.func74 e74 rfl rfl ?_
 simp only [s74,List.replicate,Klc,Kln,Kca,Kna,Nat.reduceAdd,Nat.reduceSub]
 have z10:∀ x v b,(Qbm x v b)[10]? = some (.bool b):=fun _ _ _=>rfl
 have hne:p≠sp:=fun e=>by obtain⟨_,_,_,_,w,g5,_⟩:=hL;subst e;rw [g5] at hv;cases hv
 have hp8:=hL.1
 refine xsr fun Q' hQ=>?_
 cases bg with
 |true =>
  simp [hv,z10]
  refine Qak (Qad (by decide)) (Qdn _) (fun v m' h=>h.elim) ?_
  rintro ch m4 ⟨rfl,rfl⟩
  subst hQ
  exact⟨rfl,rfl,rfl,.refl _ _⟩
 |false =>
  simp [hv,z10]
  refine Qak (Qad (by decide)) (Qen _) ?_ (fun ch m' h=>h.elim)
  rintro r m4 ⟨rfl,rfl⟩
  subst hQ
  refine xsr fun Q' hQ=>?_
  simp [hv,scrl]
  subst hQ
  have hv2:vw (stM m4 sp 10 [.bool true]) sp=some ⟨true,99,false,Qbm x v true⟩:=by rw [Qau hv (Qby rfl (by rw [scrl];omega) rfl)];rfl
  have hL2:Qa1 (stM m4 sp 10 [.bool true]) p ws:=hL.stv hv rfl (by show ¬ (99:Nat)=132;decide) _ _
  have hK2:Kp [p,sp] m4 (stM m4 sp 10 [.bool true]):=(Kp.refl _ _).st (by simp) _ _
  have hn2:sp<(stM m4 sp 10 [.bool true]).next:=by rw [Qav];exact hsn
  generalize stM m4 sp 10 [.bool true]=m5 at hv2 hL2 hK2 hn2
  have hE2:=hE.kp hK2 (by simp;omega)
  refine xsr fun Q' hQ=>?_
  simp
  subst hQ
  refine xsr fun Q' hQ=>?_
  simp
  refine Qak (Qad (by decide)) (Qez hL2 hE2) ?_ ?_
  rotate_left
  ·rintro ch m6 ⟨h1,rfl,h3⟩
   subst hQ
   exact⟨rfl,by simp [Qds,h1],rfl,hK2.trans (h3.mono (by simp))⟩
  rintro r m6 ⟨a,ha,rfl,hL3,hK3⟩
  have hK3':=hK2.trans (hK3.mono (S':=[p,sp]) (by simp))
  have hE3:=hE.kp hK3' (by simp;omega)
  refine Qak (Qad (by decide)) (Qez hL3 hE3) ?_ ?_
  rotate_left
  ·rintro ch m7 ⟨h1,rfl,h3⟩
   subst hQ
   exact⟨rfl,by simp [Qds,ha,h1],rfl,hK3'.trans (h3.mono (by simp))⟩
  rintro r m7 ⟨b,hb,rfl,hL4,hK4⟩
  have hK4':=hK3'.trans (hK4.mono (S':=[p,sp]) (by simp))
  have hE4:=hE.kp hK4' (by simp;omega)
  refine Qak (Qad (by decide)) (Qme hL4 hE4) ?_ ?_
  rotate_left
  ·rintro ch m8 ⟨h1,rfl,h3⟩
   subst hQ
   exact⟨rfl,by simp [Qds,ha,hb,h1],rfl,hK4'.trans (h3.mono (by simp))⟩
  rintro r m8 ⟨c,hc,rfl,hL5,hK5⟩
  have hK5':=hK4'.trans (hK5.mono (S':=[p,sp]) (by simp))
  have hv8:vw m8 sp=some ⟨true,99,false,Qbm x v true⟩:=by
   rw [((hK3.trans hK4).trans hK5).vw hn2 (by simp;omega)];exact hv2
  have q1:=st99 (i:=6) (x:=.int .i64 a.1) hv8 (by simp [scrl]) rfl
  have q2:=st99 (i:=7) (x:=.int .i64 b.1) q1 (by simp [scrl]) rfl
  have q3:=st99 (i:=8) (x:=.int .u64 c.1) q2 (by simp [scrl]) rfl
  simp [hv8,q1,q2,scrl]
  subst hQ
  have hn8:sp<m8.next:=by have:=hK3.1;have:=hK4.1;have:=hK5.1;omega
  have hL6:=((hL5.stv hv8 rfl (by show ¬ (99:Nat)=132;decide) 6 [.int .i64 a.1]).stv q1 rfl (by show ¬ (99:Nat)=132;decide) 7 [.int .i64 b.1]).stv q2 rfl (by show ¬ (99:Nat)=132;decide) 8 [.int .u64 c.1]
  have hK6:Kp [p,sp] m4 (stM (stM (stM m8 sp 6 [.int .i64 a.1]) sp 7 [.int .i64 b.1]) sp 8 [.int .u64 c.1]):=((hK5'.st (by simp) _ _).st (by simp) _ _).st (by simp) _ _
  have hn9:sp<(stM (stM (stM m8 sp 6 [.int .i64 a.1]) sp 7 [.int .i64 b.1]) sp 8 [.int .u64 c.1]).next:=by rw [Qav,Qav,Qav];exact hn8
  have q3':vw (stM (stM (stM m8 sp 6 [.int .i64 a.1]) sp 7 [.int .i64 b.1]) sp 8 [.int .u64 c.1]) sp=some ⟨true,99,false,Qbm { x with sectors:=a.1,room:=b.1,start:=c.1 } v true⟩:=q3
  generalize stM (stM (stM m8 sp 6 [.int .i64 a.1]) sp 7 [.int .i64 b.1]) sp 8 [.int .u64 c.1]=m9 at hL6 hK6 hn9 q3'
  clear hv8 q1 q2 q3 hn8 hK5' hL5 hL4 hL3 hE3 hE4 hv2 hL2 hK2 hn2 hE2 hK3' hK4' hK3 hK4 hK5
  generalize hx1:({ x with sectors:=a.1,room:=b.1,start:=c.1 }:Stu)=x1 at q3'
  have hE6:=hE.kp hK6 (by simp;omega)
  refine xsr fun Q' hQ=>?_
  simp
  subst hQ
  refine xsr fun Q' hQ=>?_
  simp
  refine Qak (Qad (by decide)) (Qez hL6 hE6) ?_ ?_
  rotate_left
  ·rintro ch mz ⟨h1,rfl,h3⟩
   subst hQ
   exact⟨rfl,by simp [Qds,ha,hb,hc,h1],rfl,hK6.trans (h3.mono (by simp))⟩
  rintro r m9d ⟨d,hd,rfl,hLd,hkd⟩
  have hKd:=hK6.trans (hkd.mono (S':=[p,sp]) (by simp))
  have hEd:=hE.kp hKd (by simp;omega)
  refine Qak (Qad (by decide)) (Qme hLd hEd) ?_ ?_
  rotate_left
  ·rintro ch mz ⟨h1,rfl,h3⟩
   subst hQ
   exact⟨rfl,by simp [Qds,ha,hb,hc,hd,h1],rfl,hKd.trans (h3.mono (by simp))⟩
  rintro r m9e ⟨e,he,rfl,hLe,hke⟩
  have hKe:=hKd.trans (hke.mono (S':=[p,sp]) (by simp))
  have hEe:=hE.kp hKe (by simp;omega)
  refine Qak (Qad (by decide)) (Qme hLe hEe) ?_ ?_
  rotate_left
  ·rintro ch mz ⟨h1,rfl,h3⟩
   subst hQ
   exact⟨rfl,by simp [Qds,ha,hb,hc,hd,he,h1],rfl,hKe.trans (h3.mono (by simp))⟩
  rintro r m9f ⟨f,hf,rfl,hLf,hkf⟩
  have hKf:=hKe.trans (hkf.mono (S':=[p,sp]) (by simp))
  have hEf:=hE.kp hKf (by simp;omega)
  have hw:vw m9f sp=some ⟨true,99,false,Qbm x1 v true⟩:=by
   rw [((hkd.trans hke).trans hkf).vw hn9 (by simp;omega)];exact q3'
  have q1:=st99 (i:=0) (x:=.int .i64 d.1) hw (by simp [scrl]) rfl
  have q2:=st99 (i:=1) (x:=.int .u64 e.1) q1 (by simp [scrl]) rfl
  have q3:=st99 (i:=2) (x:=.int .u64 f.1) q2 (by simp [scrl]) rfl
  simp [hw,q1,q2,scrl]
  subst hQ
  have hn:sp<m9f.next:=by have:=hkd.1;have:=hke.1;have:=hkf.1;omega
  have hLb:=((hLf.stv hw rfl (by show ¬ (99:Nat)=132;decide) 0 [.int .i64 d.1]).stv q1 rfl (by show ¬ (99:Nat)=132;decide) 1 [.int .u64 e.1]).stv q2 rfl (by show ¬ (99:Nat)=132;decide) 2 [.int .u64 f.1]
  have hKb:Kp [p,sp] m4 (stM (stM (stM m9f sp 0 [.int .i64 d.1]) sp 1 [.int .u64 e.1]) sp 2 [.int .u64 f.1]):=((hKf.st (by simp) _ _).st (by simp) _ _).st (by simp) _ _
  have hnb:sp<(stM (stM (stM m9f sp 0 [.int .i64 d.1]) sp 1 [.int .u64 e.1]) sp 2 [.int .u64 f.1]).next:=by rw [Qav,Qav,Qav];exact hn
  have qb:vw (stM (stM (stM m9f sp 0 [.int .i64 d.1]) sp 1 [.int .u64 e.1]) sp 2 [.int .u64 f.1]) sp=some ⟨true,99,false,Qbm { x1 with mtu:=d.1,ack:=e.1,retry:=f.1 } v true⟩:=q3
  generalize stM (stM (stM m9f sp 0 [.int .i64 d.1]) sp 1 [.int .u64 e.1]) sp 2 [.int .u64 f.1]=mb at hLb hKb hnb qb
  clear hw q1 q2 q3 hn hLd hLe hLf hEd hEe hEf hKd hKe hKf hkd hke hkf hL6 hK6 hn9 q3' hE6
  generalize hx2:({ x1 with mtu:=d.1,ack:=e.1,retry:=f.1 }:Stu)=x2 at qb
  have hn9:=hnb
  have q3':=qb
  have hEb:=hE.kp hKb (by simp;omega)
  refine Qal fun Q' hQ=>?_
  simp
  refine Qak (Qad (by decide)) (Qez hLb hEb) ?_ ?_
  rotate_left
  ·rintro ch mz ⟨h1,rfl,h3⟩
   subst hQ
   exact⟨rfl,by simp [Qds,ha,hb,hc,hd,he,hf,h1],rfl,hKb.trans (h3.mono (by simp))⟩
  rintro r mbg ⟨g,hg,rfl,hLg,hkg⟩
  have hKg:=hKb.trans (hkg.mono (S':=[p,sp]) (by simp))
  have hEg:=hE.kp hKg (by simp;omega)
  refine Qak (Qad (by decide)) (Qez hLg hEg) ?_ ?_
  rotate_left
  ·rintro ch mz ⟨h1,rfl,h3⟩
   subst hQ
   exact⟨rfl,by simp [Qds,ha,hb,hc,hd,he,hf,hg,h1],rfl,hKg.trans (h3.mono (by simp))⟩
  rintro r mbh ⟨h,hh,rfl,hLh,hkh⟩
  have hKh:=hKg.trans (hkh.mono (S':=[p,sp]) (by simp))
  have hEh:=hE.kp hKh (by simp;omega)
  refine Qak (Qad (by decide)) (Qez hLh hEh) ?_ ?_
  rotate_left
  ·rintro ch mz ⟨h1,rfl,h3⟩
   subst hQ
   exact⟨rfl,by simp [Qds,ha,hb,hc,hd,he,hf,hg,hh,h1],rfl,hKh.trans (h3.mono (by simp))⟩
  rintro r mbi ⟨i,hi,rfl,hLi,hki⟩
  have hKi:=hKh.trans (hki.mono (S':=[p,sp]) (by simp))
  have hEi:=hE.kp hKi (by simp;omega)
  have hw:vw mbi sp=some ⟨true,99,false,Qbm x2 v true⟩:=by
   rw [((hkg.trans hkh).trans hki).vw hn9 (by simp;omega)];exact q3'
  have q1:=st99 (i:=3) (x:=.int .i64 g.1) hw (by simp [scrl]) rfl
  have q2:=st99 (i:=4) (x:=.int .i64 h.1) q1 (by simp [scrl]) rfl
  have q3:=st99 (i:=5) (x:=.int .i64 i.1) q2 (by simp [scrl]) rfl
  simp [hw,q1,q2,scrl]
  subst hQ
  have hn:sp<mbi.next:=by have:=hkg.1;have:=hkh.1;have:=hki.1;omega
  have hLb:=((hLi.stv hw rfl (by show ¬ (99:Nat)=132;decide) 3 [.int .i64 g.1]).stv q1 rfl (by show ¬ (99:Nat)=132;decide) 4 [.int .i64 h.1]).stv q2 rfl (by show ¬ (99:Nat)=132;decide) 5 [.int .i64 i.1]
  have hKb:Kp [p,sp] m4 (stM (stM (stM mbi sp 3 [.int .i64 g.1]) sp 4 [.int .i64 h.1]) sp 5 [.int .i64 i.1]):=((hKi.st (by simp) _ _).st (by simp) _ _).st (by simp) _ _
  have hnb:sp<(stM (stM (stM mbi sp 3 [.int .i64 g.1]) sp 4 [.int .i64 h.1]) sp 5 [.int .i64 i.1]).next:=by rw [Qav,Qav,Qav];exact hn
  have qb:vw (stM (stM (stM mbi sp 3 [.int .i64 g.1]) sp 4 [.int .i64 h.1]) sp 5 [.int .i64 i.1]) sp=some ⟨true,99,false,Qbm { x2 with retries:=g.1,window:=h.1,inbox:=i.1 } v true⟩:=q3
  refine⟨rfl,_,Qdd,(⟨d.1,e.1,f.1,g.1,h.1,i.1,a.1,b.1,c.1⟩,i.2),by simp [Qds,ha,hb,hc,hd,he,hf,hg,hh,hi],?_,hLb,hKb⟩
  subst hx2;subst hx1;exact qb
end Go.Proofs.YtgmkbdmgifdfeaaGreatDoor

set_option maxRecDepth 8000
namespace Go.Proofs.YtgmkbdmgifdfeaaGreatDoor
open Go Go.Ev
theorem Jb1 {g:FuncId} {fd:Func} {s rest:SCode} {n:Nat} {rs:List ResultVar} {args:List Value} {m:Mem} {S:Mem→Prop} {rec:Option PanicEntry} {d:Option Tmp} {ty:TypeId} {a:Array Operand} {tys:Array TypeId} {os:List SOp}
  (hf:Tryz.prog.funcs[g]? = some fd) (he:fd.body.map Qa2=some s) (hs:s=.seq (.reg (⟨d,.call ⟨.builtin .recover,a,tys⟩,ty,.no⟩::os)) rest) (hn:fd.ntmps=n) (hr:fd.results.toList=rs)
  (hd:dstB d (args++List.replicate (n-args.length) undef).length=true) (hrec:∀ p,rec=some p→p.recovered=false∧p.goexit=false)
  (h:wpR tb ⟨g,.deferred,none⟩ (Qhx (fun l ds m=>wpX tb ⟨g,.deferred,none⟩ rest l ds m (endE tb rs S)) (endE tb rs S)) os (Qbu d (recV rec) (args++List.replicate (n-args.length) undef)) [] m):Go.Ev.CallsD tb g args rec m S:=by
 cases hb:fd.body with
 |none=>rw [hb] at he;cases he
 |some c =>
  rw [hb] at he
  exact callsDX (fget hf) hb ((Kai he).trans hs) hn hr hd hrec h
theorem Qws (m:Mem) (ok:Nat):Go.Ev.CallsD tb 71 [.pointer (some ⟨ok,0,none⟩)] none m (fun m'=>m'=m):=by
 refine Jb1 Tryz.func71 e71 (by rw [s71]) rfl rfl rfl (fun p h=>by cases h) ?_
 simp only [List.replicate,Klc,Kln,Kca,Kna,Nat.reduceAdd,Nat.reduceSub,recV]
 generalize hQ:Qhx (fun l ds m_1=>wpX tb { fn:=71,kind:=CallKind.deferred,ro:=none } _ l ds m_1 (endE tb Tryz.f71.results.toList fun m'=>m'=m)) (endE tb Tryz.f71.results.toList fun m'=>m'=m)=Q'
 simp
 subst hQ
 refine xsr fun Q' hQ=>?_
 simp
 subst hQ
 refine xno rfl (Qbd ?_)
 exact⟨rfl,⟨_,Qdd⟩,rfl⟩
theorem ta128 (v:Value):Qeo tb (.iface 128 v) 128 true=some (.tuple ⟨[v,.bool true]⟩):=by
 unfold Qeo
 simp [taV,Qr8]
theorem Qwr {m:Mem} {ok:Nat} {b:Bool} (hv:vw m ok=some ⟨true,4,false,[.bool b]⟩) (hl:ok<m.next):Go.Ev.CallsD tb 71 [.pointer (some ⟨ok,0,none⟩)] (some Qmm) m (fun m'=>vw m' ok=some ⟨true,4,false,[.bool false]⟩∧Kp [ok] m m'):=by
 refine Jb1 Tryz.func71 e71 (by rw [s71]) rfl rfl rfl (fun p h=>by cases h;exact⟨rfl,rfl⟩) ?_
 simp only [List.replicate,Klc,Kln,Kca,Kna,Nat.reduceAdd,Nat.reduceSub,recV]
 generalize hQ:Qhx (fun l ds m_1=>wpX tb { fn:=71,kind:=CallKind.deferred,ro:=none } _ l ds m_1 (endE tb Tryz.f71.results.toList _)) (endE tb Tryz.f71.results.toList _)=Q'
 simp [Qmm,wrongV]
 subst hQ
 refine xsr fun Q' hQ=>?_
 simp
 subst hQ
 refine xyes rfl ?_
 refine xseq (xseq (Qal fun Q' hQ=>?_))
 simp [ta128]
 subst hQ
 have hK:Kp [ok] m (stM (Qah m (Qcf 128 0 [])) m.next 0 []):=((Kp.refl _ _).new _).st' (Knr _) _ _
 have hv2:vw (stM (Qah m (Qcf 128 0 [])) m.next 0 []) ok=some ⟨true,4,false,[.bool b]⟩:=by
  rw [Qa9 (by omega),Qcs,if_neg (by omega)];exact hv
 generalize stM (Qah m (Qcf 128 0 [])) m.next 0 []=m2 at hK hv2
 refine xsr fun Q' hQ=>?_
 simp
 subst hQ
 refine xno rfl (Qbd ?_)
 refine Qal fun Q' hQ=>?_
 simp [hv2]
 subst hQ
 refine⟨rfl,⟨_,Qdd⟩,?_,hK.st (by simp) _ _⟩
 rw [Qau hv2 (Qby rfl (by simp) rfl)];rfl
end Go.Proofs.YtgmkbdmgifdfeaaGreatDoor

set_option maxRecDepth 8000
namespace Go.Proofs.YtgmkbdmgifdfeaaGreatDoor
open Go Go.Ev
theorem Qqd {l:List Value} {m:Mem}:resA tb (T.ofList l) m []=some []:=_root_.id rfl
theorem Qg0 {l:List Value} {m:Mem} {rs:List ResultVar} {vs:List Value} {i b:Nat} {t:TypeId} {v:Value} (h:gx l i=.pointer (some ⟨b,0,none⟩)) (hv:loadA tb t m b 0=some v) (hr:resA tb (T.ofList l) m rs=some vs):resA tb (T.ofList l) m (.cell i t::rs)=some (v::vs):=by
 rw [← Qnr,← Qa7] at h
 simp only [ev] at h
 unfold resA
 cases hg:(T.ofList l).get i with
 |none=>rw [hg] at h;cases h
 |some u =>
  rw [hg] at h
  simp only at h
  subst h
  simp only [hg,hv,oB,hr]
theorem Qif {m:Mem} {t:TypeId} {i:TI} {b:Nat} {V:Vw} {v:Value} (hi:ti tb t=some i) (ha:i.agg=false) (hv:vw m b=some V) (hc:V.cs[0]? = some v):loadA tb t m b 0=some v:=by
 obtain⟨r,h1,h2,h3,h4,h5,h6,_⟩:=Qc8 hv
 simp only [loadA,hi,oB,h1,ha,h6,hc]
theorem Jak {m:Mem} {t:TypeId} {i:TI} {b:Nat} {V:Vw} (hi:ti tb t=some i) (ha:i.agg=true) (hv:vw m b=some V) (hc:V.cs.length=i.inf.size):loadA tb t m b 0=some (.agg ⟨V.cs⟩):=by
 obtain⟨r,h1,h2,h3,h4,h5,h6,_⟩:=Qc8 hv
 simp only [loadA,hi,oB,h1,ha]
 rw [Qb9 h6,if_pos (by omega),← hc]
 simp [Qbv]
theorem _root_.Go.Ev.CallsD.mono' {g:FuncId} {args:List Value} {rec:Option PanicEntry} {m:Mem} {S S':Mem→Prop} (h:Go.Ev.CallsD tb g args rec m S) (k:∀ m',S m'→S' m'):Go.Ev.CallsD tb g args rec m S':=by
 obtain⟨fr,h1,h2⟩:=h
 refine⟨fr,h1,fun c cs hm hk=>?_⟩
 obtain⟨m',h3,h4⟩:=h2 c cs hm hk
 exact⟨m',k _ h3,h4⟩
def okD (ok:Nat):Deferred := { target:=.fn (.func 71) ⟨[.pointer (some ⟨ok,0,none⟩)]⟩,args:=⟨[]⟩ }
theorem inv71 (ok:Nat) (m:Mem):Qd8 tb (.func 71) [.pointer (some ⟨ok,0,none⟩)] [] m=.enter 71 [.pointer (some ⟨ok,0,none⟩)]:=by
 have hov:tb.ov.get 71=none:=Qad (by decide)
 have hf:=fget Tryz.func71
 cases hb:Tryz.f71.body with
 |none=>have:=e71;rw [hb] at this;cases this
 |some c=>simp only [Qd8,Ql4,hov,hf,hb,Kna]
theorem def_none {ok:Nat} {m:Mem} {S:Mem→Prop} (h:S m):DefA tb (okD ok) none m S :=
 ⟨_,_,_,_,rfl,inv71 ok m,(Qws m ok).mono' fun m' e=>by rw [e];exact h⟩
theorem def_some {ok:Nat} {m:Mem} {S:Mem→Prop} {b:Bool} (hv:vw m ok=some ⟨true,4,false,[.bool b]⟩) (hl:ok<m.next) (h:∀ m',vw m' ok=some ⟨true,4,false,[.bool false]⟩→Kp [ok] m m'→S m'):DefA tb (okD ok) (some Qmm) m S :=
 ⟨_,_,_,_,rfl,inv71 ok m,(Qwr hv hl).mono' fun m' e=>h m' e.1 e.2⟩
theorem finR {l:List Value} {m:Mem} {ok:Nat} {b:Bool} {R:OutA→Mem→Prop} (hg:gx l 4=.pointer (some ⟨ok,0,none⟩)) (hv:vw m ok=some ⟨true,4,false,[.bool b]⟩) (h:R (.ret (.bool b)) m):endD tb [.cell 4 4] (okD ok) R (.jump .ret) l [okD ok] m:=by
 refine⟨rfl,def_none ⟨.bool b,?_,h⟩⟩
 unfold resX;rw [Qg0 hg (Qif Ty.ti4 Ty.g4 hv rfl) Qqd]
theorem finP {l:List Value} {m:Mem} {ok:Nat} {b:Bool} {R:OutA→Mem→Prop} (hg:gx l 4=.pointer (some ⟨ok,0,none⟩)) (hv:vw m ok=some ⟨true,4,false,[.bool b]⟩) (hl:ok<m.next) (h:∀ m',Kp [ok] m m'→R (.ret (.bool false)) m'):endD tb [.cell 4 4] (okD ok) R (.pan [Qmm]) l [okD ok] m:=by
 refine⟨rfl,_,rfl,def_some hv hl fun m' h1 h2=>⟨.bool false,?_,h m' h2⟩⟩
 unfold resX;rw [Qg0 hg (Qif Ty.ti4 Ty.g4 h1 rfl) Qqd]
theorem _root_.Go.Ev.Own.ex {n0 n:Nat} {m m':Mem} {v:Value} {e:TypeId} {cells:List Value} (h:Own n0 m v e n cells) (hn:m.next≤m'.next) (k:∀ x,x<m.next→n0≤x→vw m x=some ⟨true,e,true,cells⟩→m'.objs.get x=m.objs.get x):Own n0 m' v e n cells:=by
 rcases h with h|⟨b,h1,h2,h3,h4⟩
 ·exact .inl h
 ·refine .inr ⟨b,h1,h2,by omega,?_⟩
  have:=k b h3 h2 h4
  unfold vw at h4 ⊢;rw [this];exact h4
def Qd9 (n0:Nat) (m:Mem) (v:Value) (ss:List Stp):Prop :=
 ∃ cells,Own n0 m v 36 ss.length cells∧cells.length=ss.length*17∧∀ k s,ss[k]? = some s→∃ d c,Qbv cells (k*17) 17=Qaa s d c∧Own n0 m d 5 s.data.length (u8s s.data)∧Own n0 m c 3 s.choices.length (i64s s.choices)
def Qti (n0:Nat) (m:Mem) (sp:Nat) (s:Scr):Prop:=∃ v,vw m sp=some ⟨true,99,false,Qbm s.setup v s.begun⟩∧Qd9 n0 m v s.steps
theorem Qd9.ex {n0:Nat} {m m':Mem} {v:Value} {ss:List Stp} (h:Qd9 n0 m v ss) (hn:m.next≤m'.next) (k:∀ x V,x<m.next→n0≤x→vw m x=some V→V.ext=true→m'.objs.get x=m.objs.get x):Qd9 n0 m' v ss:=by
 obtain⟨cells,h1,h2,h3⟩:=h
 refine⟨cells,h1.ex hn fun x a b c=>k x _ a b c rfl,h2,fun j s hj=>?_⟩
 obtain⟨d,c,h4,h5,h6⟩:=h3 j s hj
 exact⟨d,c,h4,h5.ex hn fun x a b c=>k x _ a b c rfl,h6.ex hn fun x a b c=>k x _ a b c rfl⟩
theorem Qd9.shape {n0:Nat} {m:Mem} {v:Value} {ss:List Stp} (h:Qd9 n0 m v ss):∃ a,v=.slice a ss.length ss.length:=by
 obtain⟨cells,h1,_⟩:=h;exact h1.shape
theorem Ch.of_kp' {n0 sp:Nat} {S:List Nat} {a b:Mem} (h:Kp S a b) (hn:n0≤a.next) (hS:∀ x∈S,x=sp∨n0≤x):Ch n0 [sp] a b :=
 ⟨h.1,fun x hx hs=>h.2 x (by omega) fun e=>by rcases hS x e with h|h;exact hs (by simp [h]);omega⟩
theorem Ch.sub {n0 n1 sp:Nat} {S:List Nat} {a b:Mem} (h:Ch n1 S a b) (hn:n0≤n1) (hS:∀ x∈S,x=sp∨n0≤x):Ch n0 [sp] a b :=
 ⟨h.1,fun x hx hs=>h.2 x (by omega) fun e=>by rcases hS x e with h|h;exact hs (by simp [h]);omega⟩
theorem _root_.Go.Ev.Old.kp {n:Nat} {S:List Nat} {a b c:Mem} (h:Old n a b) (k:Kp S b c) (hn:n≤a.next) (hS:∀ x∈S,n≤x):Old n a c :=
 ⟨Knt h.1 k.1,fun x hx=>(k.2 x (by have:=h.1;omega) fun e=>by have:=hS x e;omega).trans (h.2 x hx)⟩
theorem _root_.Go.Ev.Old.ch {n n1:Nat} {S:List Nat} {a b c:Mem} (h:Old n a b) (k:Ch n1 S b c) (hn:n≤n1) (hS:∀ x∈S,n≤x):Old n a c :=
 ⟨Knt h.1 k.1,fun x hx=>(k.2 x (by omega) fun e=>by have:=hS x e;omega).trans (h.2 x hx)⟩
end Go.Proofs.YtgmkbdmgifdfeaaGreatDoor

set_option maxRecDepth 8000
namespace Go.Proofs.YtgmkbdmgifdfeaaGreatDoor
open Go Go.Ev
theorem Qkm (m:Mem) (t:TypeId) (n:Nat) (z cells:List Value) (hz:n=z.length) (h1:cells.length=z.length) (h2:cells.all oneC=true) :
  ∃ m3,m3=stM (Qah m (Qcf t n z)) m.next 0 cells∧m3.next=m.next+1∧vw m3 m.next=some ⟨true,t,false,cells⟩∧∀ x,x<m.next→m3.objs.get x=m.objs.get x:=by
 subst hz
 have hA:vw (Qah m (Qcf t z.length z)) m.next=some ⟨true,t,false,z⟩:=by rw [Qcs,if_pos rfl];exact Qh0 t z
 have hS:stOk ⟨true,t,false,z⟩ 0 cells=true:=by simp [h1,h2]
 refine⟨_,rfl,by rw [Qav,Qaf],?_,fun x hx=>by rw [Qcu (by omega),Qan,if_neg (by omega)]⟩
 rw [Qau hA hS,Qvj (by simp [h1])]
 simp [h1]
def Qkb:List (List UInt8)→Option Ln
 | []=>some .nothing
 |w::ws=>if w=Qgt then (Qih ws).map .head else (Qe1 (w::ws)).map .step
theorem Jam {tx:List UInt8} {ws:List (List UInt8)} (h:Qgj tx=some ws):Qd1 tx=Qkb ws:=by
 unfold Qd1;rw [h];cases ws<;>rfl
theorem Qnp (ws:List (List UInt8)):Qih ws=match Qds ws with|some (x,[])=>some x|_=>none:=by
 match ws with
 | []=>rfl
 | [a] =>
   show none=_
   simp only [Qds,rd1]
   cases Qbf a<;>simp
 | [a,b] =>
   show none=_
   simp only [Qds,rd1]
   cases Qbf a<;>simp
   cases Qbf b<;>simp
 | [a,b,c] =>
   show none=_
   simp only [Qds,rd1]
   cases Qbf a<;>simp
   cases Qbf b<;>simp
   cases Qbt c<;>simp
 | [a,b,c,d] =>
   show none=_
   simp only [Qds,rd1]
   cases Qbf a<;>simp
   cases Qbf b<;>simp
   cases Qbt c<;>simp
   cases Qbf d<;>simp
 | [a,b,c,d,e] =>
   show none=_
   simp only [Qds,rd1]
   cases Qbf a<;>simp
   cases Qbf b<;>simp
   cases Qbt c<;>simp
   cases Qbf d<;>simp
   cases Qbt e<;>simp
 | [a,b,c,d,e,f] =>
   show none=_
   simp only [Qds,rd1]
   cases Qbf a<;>simp
   cases Qbf b<;>simp
   cases Qbt c<;>simp
   cases Qbf d<;>simp
   cases Qbt e<;>simp
   cases Qbt f<;>simp
 | [a,b,c,d,e,f,g] =>
   show none=_
   simp only [Qds,rd1]
   cases Qbf a<;>simp
   cases Qbf b<;>simp
   cases Qbt c<;>simp
   cases Qbf d<;>simp
   cases Qbt e<;>simp
   cases Qbt f<;>simp
   cases Qbf g<;>simp
 | [a,b,c,d,e,f,g,h] =>
   show none=_
   simp only [Qds,rd1]
   cases Qbf a<;>simp
   cases Qbf b<;>simp
   cases Qbt c<;>simp
   cases Qbf d<;>simp
   cases Qbt e<;>simp
   cases Qbt f<;>simp
   cases Qbf g<;>simp
   cases Qbf h<;>simp
 | [a,b,c,d,e,f,g,h,i] =>
   simp only [Qih,Qds,rd1]
   cases Qbf a<;>simp
   cases Qbf b<;>simp
   cases Qbt c<;>simp
   cases Qbf d<;>simp
   cases Qbt e<;>simp
   cases Qbt f<;>simp
   cases Qbf g<;>simp
   cases Qbf h<;>simp
   cases Qbf i<;>simp
 |a::b::c::d::e::f::g::h::i::j::r =>
  show none=_
  simp only [Qds,rd1]
  cases Qbf a<;>simp
  cases Qbf b<;>simp
  cases Qbt c<;>simp
  cases Qbf d<;>simp
  cases Qbt e<;>simp
  cases Qbt f<;>simp
  cases Qbf g<;>simp
  cases Qbf h<;>simp
  cases Qbf i<;>simp
theorem Qwq {l:List Value} {j:Nat} {x y:Value} (h1:l[2*j]? = some x) (h2:l[2*j+1]? = some y):Qbv l (j*2) 2=[x,y]:=by
 rw [show j*2=2*j from by omega]
 apply List.ext_getElem?
 intro i
 match i with
 |0=>rw [Qfs (by omega)];simpa using h1
 |1=>rw [Qfs (by omega)];simpa using h2
 |i+2 =>
  have hl:2*j+2≤l.length:=by have:=(Kgs.1 h2).1;omega
  rw [List.getElem?_eq_none (by rw [Qh1 hl];omega),List.getElem?_eq_none (by simp)]
theorem Qvq {rows:List CRow} {m m':Mem} {k0 z:Nat} (h:Qbl rows m k0) (h':Qbl rows m' k0) (h1:k0≤z) (h2:z<k0+rows.length):vw m' z=vw m z:=by
 have hj:rows[z-k0]? = some (rows[z-k0]'(by omega)):=Kge _
 have e1:=h _ _ hj
 have e2:=h' _ _ hj
 rw [show k0+(z-k0)=z from by omega] at e1 e2
 rw [e1,e2]
theorem IsFd.eq' {m m':Mem} {k0:Nat} {rv pv:Value} {f:Fd} (h:IsFd m k0 rv pv f) (k:∀ z,k0≤z→z<k0+109→vw m' z=vw m z):IsFd m' k0 rv pv f:=by
 cases f<;>first
  |exact h
  | (obtain⟨cb,h1,h2,h3,h4,h5⟩:=h;exact⟨cb,h1,h2,h3,h4,by rw [k cb h1 h2];exact h5⟩)
theorem Ja9 {m:Mem} {k0:Nat} (h:Qbl Qaq m k0) {kind:Nat} (h1:1≤kind) (h2:kind≤22):∃ tab,vw m (k0+108)=some ⟨true,80,false,tab⟩∧tab[2*kind]? = some (.string ⟨⟨Qay kind⟩⟩)∧∃ fs,tab[2*kind+1]? = some fs ∧
  ((fs=.slice none 0 0∧fieldsOf kind=[])∨∃ b n cells,fs=.slice (some ⟨b,0,none⟩) n n∧(fieldsOf kind).length=n∧k0≤b∧b<k0+109∧cells.length=2*n∧∀ m',Qbl Qaq m' k0→vw m' b=some ⟨true,84,false,cells⟩∧∀ j f,(fieldsOf kind)[j]? = some f→∃ rv pv,cells[2*j]? = some rv∧cells[2*j+1]? = some pv∧IsFd m' k0 rv pv f):=by
 obtain⟨tab,g1,g2,fs,g3,g4⟩:=Ja8 h h1 h2
 refine⟨tab,g1,g2,fs,g3,g4.imp id ?_⟩
 rintro⟨b,n,cells,e1,e2,e3,e4,e5,e6,e7⟩
 refine⟨b,n,cells,e1,e2,e3,e4,e6,fun m' h'=>⟨by rw [Qvq h h' e3 e4];exact e5,fun j f hj=>?_⟩⟩
 obtain⟨rv,pv,i1,i2,i3⟩:=e7 j f hj
 exact⟨rv,pv,i1,i2,i3.eq' fun z z1 z2=>Qvq h h' z1 z2⟩
theorem tab_at {m:Mem} {k0:Nat} (h:Qbl Qaq m k0):∃ tab,vw m (k0+108)=some ⟨true,80,false,tab⟩∧tab.length=46∧∀ k,k<23→∃ a n c,Qbv tab (k*2) 2=[.string ⟨⟨Qay k⟩⟩,.slice a n c]∧tab[2*k+1]? = some (.slice a n c):=by
 refine⟨_,h 108 _ rfl,rfl,fun k hk=>?_⟩
 match k,hk with
 |0,_=>exact⟨_,_,_,rfl,rfl⟩
 |1,_=>exact⟨_,_,_,rfl,rfl⟩
 |2,_=>exact⟨_,_,_,rfl,rfl⟩
 |3,_=>exact⟨_,_,_,rfl,rfl⟩
 |4,_=>exact⟨_,_,_,rfl,rfl⟩
 |5,_=>exact⟨_,_,_,rfl,rfl⟩
 |6,_=>exact⟨_,_,_,rfl,rfl⟩
 |7,_=>exact⟨_,_,_,rfl,rfl⟩
 |8,_=>exact⟨_,_,_,rfl,rfl⟩
 |9,_=>exact⟨_,_,_,rfl,rfl⟩
 |10,_=>exact⟨_,_,_,rfl,rfl⟩
 |11,_=>exact⟨_,_,_,rfl,rfl⟩
 |12,_=>exact⟨_,_,_,rfl,rfl⟩
 |13,_=>exact⟨_,_,_,rfl,rfl⟩
 |14,_=>exact⟨_,_,_,rfl,rfl⟩
 |15,_=>exact⟨_,_,_,rfl,rfl⟩
 |16,_=>exact⟨_,_,_,rfl,rfl⟩
 |17,_=>exact⟨_,_,_,rfl,rfl⟩
 |18,_=>exact⟨_,_,_,rfl,rfl⟩
 |19,_=>exact⟨_,_,_,rfl,rfl⟩
 |20,_=>exact⟨_,_,_,rfl,rfl⟩
 |21,_=>exact⟨_,_,_,rfl,rfl⟩
 |22,_=>exact⟨_,_,_,rfl,rfl⟩
 |k+23,h=>omega
theorem kind_at':∀ k:Fin 23,1≤k.val→Qlm (Qay k.val)=some k.val:=by decide +kernel
theorem word_ne:∀ k:Fin 23,1≤k.val→Qay k.val≠[]:=by decide +kernel
def Mt (n:Nat) (w:List UInt8) (j:Nat):Prop:=Qay j≠[]∧Qay j=w∧(decide (j≠1)=decide (0<n))
instance (n:Nat) (w:List UInt8) (j:Nat):Decidable (Mt n w j):=by unfold Mt;exact inferInstance
theorem Qy4 {l:List (List UInt8)} {n:Nat} {w:List UInt8} {ws:List (List UInt8)} (h:Qfx l=some ((n:Int),w,ws)) (hn:∀ j,j<23→¬ Mt n w j):Qe1 l=none:=by
 unfold Qe1
 rw [h]
 simp only
 cases hk:Qlm w with
 |none=>rfl
 |some k =>
  simp only
  rw [if_neg]
  intro hc
  unfold Qlm at hk
  have h1:=List.mem_of_find?_eq_some hk
  have h2:=List.find?_some hk
  simp only [List.mem_range] at h1
  simp only [Kba,decide_eq_true_eq,beq_iff_eq] at h2
  refine hn k h1 ⟨word_ne ⟨k,h1⟩ h2.1,h2.2,?_⟩
  have e1:(k != 1)=decide (k≠1):=by simp [bne,Bool.beq_eq_decide_eq]
  have e2:decide (0<(n:Int))=decide (0<n):=by simp
  rw [← e1,hc,e2]
theorem step_at {l:List (List UInt8)} {n k:Nat} {w:List UInt8} {ws:List (List UInt8)} (h:Qfx l=some ((n:Int),w,ws)) (hk:k<23) (hm:Mt n w k):1≤k∧Qe1 l=match Qeq (fieldsOf k) { stp0 with kind:=k,node:=n } ws with|some (s,[])=>some s|_=>none:=by
 obtain⟨h1,rfl,h3⟩:=hm
 have hk1:1≤k:=by
  cases k with
  |zero=>exact absurd rfl h1
  |succ k=>omega
 refine⟨hk1,?_⟩
 unfold Qe1
 rw [h]
 simp only [kind_at' ⟨k,hk⟩ hk1]
 have e1:(k != 1)=decide (k≠1):=by simp [bne,Bool.beq_eq_decide_eq]
 have e2:decide (0<(n:Int))=decide (0<n):=by simp
 rw [if_pos (by rw [e1,e2,h3])]
 rfl
theorem Qos:∀ k:Fin 23,∀ j:Fin 5,(match (fieldsOf k.val)[j.val]? with|some .choices=>decide (j.val=0)|_=>true)=true:=by decide +kernel
theorem Jbb:∀ k:Fin 23,(fieldsOf k.val).length≤4:=by decide +kernel
theorem Qq2 {k j:Nat} (hk:k<23) (h:(fieldsOf k)[j]? = some .choices):j=0:=by
 have hj:=(Kgs.1 h).1
 have h4:=Jbb ⟨k,hk⟩
 have:=Qos ⟨k,hk⟩ ⟨j,by simp only at h4;omega⟩
 simp only [h,decide_eq_true_eq] at this
 exact this
theorem isFd_one {m:Mem} {k0:Nat} {rv pv:Value} {f:Fd} (h:IsFd m k0 rv pv f):∃ a b c d e g,rv=.func a b c∧pv=.func d e g:=by
 cases f<;>first
  | (obtain⟨rfl,rfl⟩:=h;exact⟨_,_,_,_,_,_,rfl,rfl⟩)
  | (obtain⟨cb,h1,h2,rfl,rfl,h5⟩:=h;exact⟨_,_,_,_,_,_,rfl,rfl⟩)
theorem Qy9 {Z l:List Value} (h:Z.length=l.length):spl Z 0 l=l:=by
 rw [Qvj (by omega)];simp [← h]
theorem Qxu (k:Nat):renV 8 k Qpk=.slice (some ⟨k+108,0,none⟩) 23 23:=by
 simp [Qpk,renV,renA]
end Go.Proofs.YtgmkbdmgifdfeaaGreatDoor

