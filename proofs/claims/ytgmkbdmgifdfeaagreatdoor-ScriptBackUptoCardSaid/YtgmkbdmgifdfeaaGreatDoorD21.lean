/- A part of a proof: ScriptBack. -/
import Derived.Test.YtgmkbdmgifdfeaaGreatDoorD20
set_option linter.unusedVariables false
set_option linter.unusedSimpArgs false
set_option maxRecDepth 8000
namespace Go.Proofs.YtgmkbdmgifdfeaaGreatDoor
open Go Go.Ev
def OwnB (n0:Nat) (m:Mem) (v:Value) (e:TypeId) (n:Nat) (cells:List Value):Prop :=
 Own n0 m v e n cells∨∃ b,v=.slice (some ⟨b,0,none⟩) n n∧n0≤b∧b<m.next∧vw m b=some ⟨true,e,false,cells⟩
theorem OwnB.shape {n0 n:Nat} {m:Mem} {v:Value} {e:TypeId} {cells:List Value} (h:OwnB n0 m v e n cells):∃ a,v=.slice a n n:=by
 rcases h with h|⟨b,rfl,_⟩
 ·exact h.shape
 ·exact⟨_,rfl⟩
theorem OwnB.at {n0 n:Nat} {m:Mem} {v:Value} {e:TypeId} {cells:List Value} (h:OwnB n0 m v e n cells):SlAt m v n cells:=by
 rcases h with h|⟨b,rfl,h1,h2,h3⟩
 ·exact h.at
 ·refine .inr ⟨b,0,n,rfl,Knr _,.inr ⟨?_,h2⟩⟩
  have:=rd_vw h3 (o:=0) (k:=cells.length) (by simp)
  rw [this];simp [Qbv]
theorem OwnB.append {n0 n k sz:Nat} {m:Mem} {v:Value} {e:TypeId} {cells new:List Value} {m1:Mem} (h:OwnB n0 m v e n cells) (hm:Old m.next m m1) (hle:n0≤m.next) (hc:cells.length=n*sz) (hn:new.length=(k+1)*sz) (ho:new.all oneC=true) :
  ∃ v' m',Qbq m1 e sz v (k+1) new=some (v',m')∧Own n0 m' v' e (n+(k+1)) (cells++new)∧Keep (blkV v) m1 m'∧Old n0 m1 m'∧(∃ b,v'=.slice (some ⟨b,0,none⟩) (n+(k+1)) (n+(k+1))∧m1.next≤b):=by
 rcases h with h|⟨b,rfl,h1,h2,h3⟩
 ·exact h.append hm hle hc hn ho
 have h0:=hm.1
 have h4:vw m1 b=some ⟨true,e,false,cells⟩:=by rw [hm.vw h2];exact h3
 have e1:=at_W (m:=m1) e sz b 0 none n n (k+1) new
 rw [h4,Qrb,if_neg (by omega),if_pos ⟨rfl,.inr (by simp [hc])⟩] at e1
 refine⟨_,_,e1,.inr ⟨m1.next,rfl,by omega,by rw [Qg7];omega,?_⟩,⟨(Qi1 none _ _).1,fun x hx _=>(Qi1 none _ _).2 x hx (by intro e;cases e)⟩,(Old.refl _ _).grow (by omega) _ _,⟨_,rfl,Knr _⟩⟩
 rw [Ql8,if_pos rfl]
 simp only
 rw [← hc,Qis]
theorem b_quo (m:Mem) (t:TypeId) (x y:Operand) (k:IntKind) (a b:Nat) (hb:0<b):binA tb m .quo t x y (.int k (a:Int)) (.int k (b:Int))=some (.int k (k.wrap ((a / b:Nat):Int))):=by
 obtain⟨b,rfl⟩:∃ c,b=c+1:=⟨b-1,by omega⟩
 simp only [binA,Qc1,Qig]
 show oB (quoI (.ofNat a) (.ofNat (b+1))) _=_
 simp only [quoI,oB,Qa3,Qdb];rfl
theorem b_rem (m:Mem) (t:TypeId) (x y:Operand) (k:IntKind) (a b:Nat) (hb:0<b):binA tb m .rem t x y (.int k (a:Int)) (.int k (b:Int))=some (.int k ((a%b:Nat):Int)):=by
 obtain⟨b,rfl⟩:∃ c,b=c+1:=⟨b-1,by omega⟩
 simp only [binA,Qc1,Qig]
 show oI k (remI (.ofNat a) (.ofNat (b+1)))=_
 simp only [remI,oI,Qa3];rfl
theorem c29_9 {m:Mem} {v:Value} {bs:List UInt8} (h:SlAt m v bs.length (u8s bs)):Qff tb m 29 9 v=.r (.string ⟨⟨bs⟩⟩):=by
 rcases h with ⟨rfl,h1,h2⟩|⟨b,o,c,rfl,h1,h2|⟨h2,h3⟩⟩
 ·obtain rfl:bs=[]:=List.length_eq_zero_iff.1 h1
  simp [Qff,Qkh]
 ·obtain rfl:bs=[]:=by have:=congrArg List.length h2;simpa using this
  simp [Qff,Qil]
 ·simp only [Qff,Ty.ti29,Ty.ti9,Qil,Ty.d29,Ty.d9,Ty.ti5,Ty.d5]
  cases hl:bs with
  |nil=>rfl
  |cons x l =>
   simp only [Klc]
   obtain⟨e1,e2⟩:=Qub h2
   obtain⟨r,g1,g2,g3⟩:=e2 (by rw [Qfl,hl];simp)
   rw [Qfl,hl] at g2
   simp only [Klc] at g2
   have:Qfd m b o (l.length+1)=some ⟨⟨x::l⟩⟩:=by
    unfold Qfd
    rw [g1];simp only [oB]
    rw [g2];simp only
    rw [Qlg]
   simp only [this]
theorem Qdw {α : Type} {l:List α} {n:Nat} (h:l.length=n+1):∃ x t,l=x::t∧t.length=n:=by
 cases l with
 |nil=>cases h
 |cons x t=>exact⟨x,t,rfl,by simpa using h⟩
theorem Qkl {F:FC} {Q:Qda} {d:Option Tmp} {op:Op} {ty:TypeId} {os:List SOp} {l:List Value} {ds:List Deferred} {m mm:Mem} {e:TypeId} {sz n:Nat} {v:Value} {new:List Value} {P:Value→Mem→Prop} (h:∃ v' m',Qbq mm e sz v n new=some (v',m')∧P v' m')
  (k:∀ v' m',P v' m'→wpR tb F Q os (Qbu d v' l) ds m'):wpS tb F Q d op ty os (oE (Qbq mm e sz v n new)) l ds m:=by
 obtain⟨v',m',h1,h2⟩:=h
 rw [h1];exact k v' m' h2
def bytesV (l:List UInt8):List Value:=l.map fun b=>.int .u8 (b.toNat:Int)
theorem Qzn {m:Mem} {v:Value} {bs:List UInt8} (hv:SlAt m v bs.length (u8s bs)) (hb:bs.length≤100000000) :
  Qaw tb 68 [v] m (retR fun r m'=>r=.string ⟨⟨Qde bs⟩⟩∧Old m.next m m'):=by
 obtain⟨av,cv,rfl⟩:=hv.shape
 refine Qa5 Tryz.func68 e68 rfl rfl ?_
 simp only [s68,List.replicate,Klc,Kln,Kca,Kna,Nat.reduceAdd,Nat.reduceSub]
 refine xsr fun Q' hQ=>?_
 simp
 subst hQ
 refine Qb0 (PS:=fun l' ds' m1=>ds'=[]∧Old m.next m m1∧∃ w,OwnB m.next m1 w 5 1 (u8s [34])∧Sl [.slice av bs.length cv,undef,.string ⟨⟨[]⟩⟩,w] 61 l') ?_ ?_
 ·refine Qal fun Q' hQ=>?_
  simp
  subst hQ
  refine⟨rfl,rfl,(Old.refl _ _).new (Knr _) _,_,.inr ⟨m.next,rfl,Knr _,by rw [Qaf];omega,?_⟩,Sl.mk rfl rfl⟩
  simp [u8s,Qq6,fNat]
 rintro l ds m1 ⟨rfl,hO1,w1,hw1,⟨ts,hts,rfl⟩⟩
 have hfl:∀ l:List UInt8,(l.flatMap Qbj).length≤4*l.length:=by
  intro l
  induction l with
  |nil=>simp
  |cons b l ih =>
   have:(Qbj b).length≤4:=by unfold Qbj;repeat (split<;>try simp)
   simp only [List.flatMap_cons,Kla,Klc];omega
 obtain⟨x4,ts4,rfl,hts4⟩:=Qdw hts
 obtain⟨x5,ts5,rfl,hts5⟩:=Qdw hts4
 refine Qb0 (PS:=fun l' ds' m'=>ds'=[]∧Old m.next m m'∧∃ w,OwnB m.next m' w 5 (34::bs.flatMap Qbj).length (u8s (34::bs.flatMap Qbj))∧Sl [.slice av bs.length cv,undef,.string ⟨⟨[]⟩⟩,w] 61 l') ?_ ?_
 ·refine xsr fun Q' hQ=>?_
  simp [hts5]
  subst hQ
  refine Qax (Qem (N:=bs.length) (I:=fun n l ds m'=>∃ k w y5,n=bs.length-k∧k≤bs.length∧ds=[]∧Old m.next m m'∧OwnB m.next m' w 5 (34::(bs.take k).flatMap Qbj).length (u8s (34::(bs.take k).flatMap Qbj)) ∧
   Sl [.slice av bs.length cv,undef,.string ⟨⟨[]⟩⟩,w,.int .i64 (k:Nat),y5] 59 l) ?_ ?_)
  ·exact⟨0,w1,_,by simp,by omega,rfl,hO1,by simpa using hw1,Sl.mk rfl (by simp [hts5])⟩
  clear hw1 hO1 hts
  rintro n l ds m2 ⟨k,w,y5,rfl,hk,rfl,hO,hw,⟨ts,hts,rfl⟩⟩
  refine xseq (xseq (Qal fun Q' hQ=>?_))
  simp [hts]
  subst hQ
  refine xif (v:=decide ((k:Int)<(bs.length:Int))) (by simp [hts]) (fun h=>Qbd ?_) (fun h=>Qdy ?_)
  ·simp only [decide_eq_true_eq] at h
   have hkl:k<bs.length:=by omega
   have hvm:=hv.old hO
   have q:(u8s bs)[k]? = some (.int .u8 (bs[k].toNat:Int)):=by rw [Qyt,Kge hkl];rfl
   obtain⟨b2,o,c2,h1,h5,h6,h2,h3⟩:=hvm.load q
   simp only [Value.slice.injEq] at h1
   obtain⟨rfl,-,rfl⟩:=h1
   have ql:=h3 (t:=5) (s:=none) Ty.ti5 Ty.g5
   have htk:bs.take (k+1)=bs.take k++[bs[k]]:=by rw [List.take_add_one,Kge hkl];rfl
   have hnl:bs[k].toNat<256:=bs[k].toNat_lt
   generalize hc:bs[k]=c at ql htk hnl
   have hfk:=hfl (bs.take k)
   rw [List.length_take] at hfk
   refine Qb0 (PS:=fun l' ds' m'=>ds'=[]∧Old m.next m m'∧∃ w,OwnB m.next m' w 5 (34::(bs.take (k+1)).flatMap Qbj).length (u8s (34::(bs.take (k+1)).flatMap Qbj)) ∧
    Sl [.slice (some ⟨b2,o,none⟩) bs.length cv,undef,.string ⟨⟨[]⟩⟩,w,.int .i64 (k:Nat),.int .u8 (c.toNat:Int)] 59 l') ?_ ?_
   ·refine Qax (xseq (Qal fun Q' hQ=>?_))
    simp [hts,ql,h,hkl]
    subst hQ
    refine Qax (xseq (Qal fun Q' hQ=>?_))
    have e34:c=34↔c.toNat=34:=by rw [← UInt8.toNat_inj];rfl
    have e92:c=92↔c.toNat=92:=by rw [← UInt8.toNat_inj];rfl
    have e10:c=10↔c.toNat=10:=by rw [← UInt8.toNat_inj];rfl
    have e9:c=9↔c.toNat=9:=by rw [← UInt8.toNat_inj];rfl
    have happ:∀ (ob:AObj) (x:UInt8) (new:List UInt8),Qbj c=x::new→∃ v' m',Qbq (Qah m2 ob) 5 1 w (new.length+1) (bytesV (x::new))=some (v',m')∧Old m.next m m'∧OwnB m.next m' v' 5 (34::(bs.take (k+1)).flatMap Qbj).length (u8s (34::(bs.take (k+1)).flatMap Qbj)):=by
     intro ob x new hq
     obtain⟨v',m',a1,a2,a3,a4,_⟩:=hw.append (k:=new.length) (sz:=1) (new:=u8s (x::new)) ((Old.refl _ m2).new (Knr _) ob) hO.1 (by simp) (by simp) (by simp)
     refine⟨v',m',by rw [← a1,Qfr];rfl,hO.trans (((Old.refl _ _).new hO.1 _).trans a4),.inl ?_⟩
     have e1:u8s (34::(bs.take (k+1)).flatMap Qbj)=u8s (34::(bs.take k).flatMap Qbj)++u8s (x::new):=by rw [htk];simp [Qfr,hq]
     have e2:(34::(bs.take (k+1)).flatMap Qbj).length=(34::(bs.take k).flatMap Qbj).length+(new.length+1):=by rw [htk];simp [hq];omega
     rw [e1,e2];exact a2
    obtain⟨aw,hwe⟩:=hw.shape
    subst hwe
    have hfit:∀ j,j≤4→Qdx (.slice aw (34::(bs.take k).flatMap Qbj).length (34::(bs.take k).flatMap Qbj).length) j 1=true:=fun j hj=>Qce _ _ _ _ _ (by simp only [Klc];omega)
    generalize hL:(34::(bs.take k).flatMap Qbj).length=L at *
    by_cases h34:c.toNat=34∨c.toNat=92
    ·have hq:Qbj c=[92,c]:=by unfold Qbj;rw [if_pos];rwa [e34,e92]
     have hi:((c.toNat:Int)=34)=True∨(((c.toNat:Int)=34)=False∧((c.toNat:Int)=92)=True):=by
      rcases h34 with h|h
      ·exact .inl (eq_true (by omega))
      ·exact .inr ⟨eq_false (by omega),eq_true (by omega)⟩
     rcases hi with hi|⟨hi,hj⟩
     all_goals
      first
       |simp [hts,hi,hj]
       |simp [hts,hi]
      subst hQ
      refine xyes (by simp [hts]) ?_
      refine Qal fun Q' hQ=>?_
      simp [hts,hfit]
      refine Qkl (happ _ 92 [c] hq) fun v' m' hP=>?_
      simp [hts]
      subst hQ
      exact⟨rfl,rfl,hP.1,v',hP.2,Sl.mk rfl (by simp [hts])⟩
    have hn1:¬ (c.toNat:Int)=34:=fun e=>h34 (.inl (by omega))
    have hn2:¬ (c.toNat:Int)=92:=fun e=>h34 (.inr (by omega))
    have hq0:¬ (c=34∨c=92):=by rwa [e34,e92]
    simp [hts,hn1,hn2]
    subst hQ
    refine xno (by simp [hts]) ?_
    refine xsr fun Q' hQ=>?_
    simp [hts]
    subst hQ
    refine xif (v:=decide ((c.toNat:Int)=10)) (by simp [hts]) (fun h10=>?_) (fun h10=>?_)
    ·simp only [decide_eq_true_eq] at h10
     have hq:Qbj c=[92,110]:=by unfold Qbj;rw [if_neg hq0,if_neg (by omega),if_pos (e10.2 (by omega))]
     refine Qal fun Q' hQ=>?_
     simp [hts,hfit]
     refine Qkl (happ _ 92 [110] hq) fun v' m' hP=>?_
     simp [hts]
     subst hQ
     exact⟨rfl,rfl,hP.1,v',hP.2,Sl.mk rfl (by simp [hts])⟩
    simp only [decide_eq_false_iff_not] at h10
    refine xsr fun Q' hQ=>?_
    simp [hts]
    subst hQ
    refine xif (v:=decide ((c.toNat:Int)=9)) (by simp [hts]) (fun h9=>?_) (fun h9=>?_)
    ·simp only [decide_eq_true_eq] at h9
     have hq:Qbj c=[92,116]:=by unfold Qbj;rw [if_neg hq0,if_neg (by omega),if_neg (fun e=>h10 (by have:=e10.1 e;omega)),if_pos (e9.2 (by omega))]
     refine Qal fun Q' hQ=>?_
     simp [hts,hfit]
     refine Qkl (happ _ 92 [116] hq) fun v' m' hP=>?_
     simp [hts]
     subst hQ
     exact⟨rfl,rfl,hP.1,v',hP.2,Sl.mk rfl (by simp [hts])⟩
    simp only [decide_eq_false_iff_not] at h9
    refine xsr fun Q' hQ=>?_
    by_cases h32:32≤c.toNat∧c.toNat≤126
    ·have hq:Qbj c=[c]:=by unfold Qbj;rw [if_neg hq0,if_pos h32]
     have h32a:¬ (c.toNat:Int)<32:=by omega
     have h32b:¬ (126:Int)<(c.toNat:Int):=by omega
     simp [hts,h32a,h32b]
     subst hQ
     refine xno (by simp [hts]) ?_
     refine Qal fun Q' hQ=>?_
     simp [hts,hfit]
     refine Qkl (happ _ c [] hq) fun v' m' hP=>?_
     simp [hts]
     subst hQ
     exact⟨rfl,rfl,hP.1,v',hP.2,Sl.mk rfl (by simp [hts])⟩
    have hq:Qbj c=[92,120,hexD (c.toNat / 16),hexD (c.toNat%16)]:=by unfold Qbj;rw [if_neg hq0,if_neg h32,if_neg (fun e=>h10 (by have:=e10.1 e;omega)),if_neg (fun e=>h9 (by have:=e9.1 e;omega))]
    have hi:((c.toNat:Int)<32)=True∨(((c.toNat:Int)<32)=False∧((126:Int)<(c.toNat:Int))=True):=by
     by_cases e:c.toNat<32
     ·exact .inl (eq_true (by omega))
     ·exact .inr ⟨eq_false (by omega),eq_true (by omega)⟩
    have i1:=hexB (c.toNat / 16) (by omega)
    have i2:=hexB (c.toNat%16) (by omega)
    have s1:∀ (x y:Operand) (t:TypeId) (m:Mem),binA tb m .quo t x y (.int .u8 (c.toNat:Int)) (.int .u8 16)=some (.int .u8 ((c.toNat / 16:Nat):Int)):=fun x y t m=>by
     rw [show (16:Int)=((16:Nat):Int) from rfl,b_quo _ _ _ _ _ _ _ (by decide),wru8 _ (by omega) (by omega)]
    have s2:∀ (x y:Operand) (t:TypeId) (m:Mem),binA tb m .rem t x y (.int .u8 (c.toNat:Int)) (.int .u8 16)=some (.int .u8 ((c.toNat%16:Nat):Int)):=fun x y t m=>by
     rw [show (16:Int)=((16:Nat):Int) from rfl,b_rem _ _ _ _ _ _ _ (by decide)]
    rcases hi with hi|⟨hi,hj⟩
    all_goals
     first
      |simp [hts,hi,hj]
      |simp [hts,hi]
     subst hQ
     refine xyes (by simp [hts]) ?_
     refine xdrw 3 fun Q' hQ=>?_
     obtain⟨v',m',a1,hP⟩:=happ (.row ⟨T.setL [.int .u8 ((hexD (c.toNat%16)).toNat:Int)] 3 (T.setL [.int .u8 ((hexD (c.toNat / 16)).toNat:Int)] 2 (T.setL [.int .u8 120] 1 (T.setL [.int .u8 92] 0 .lf))),4,[.int .u8 0],5,.none,false⟩) 92 [120,hexD (c.toNat / 16),hexD (c.toNat%16)] hq
     have a1':Qbq (Qah m2 (.row ⟨T.setL [.int .u8 ((hexD (c.toNat%16)).toNat:Int)] 3 (T.setL [.int .u8 ((hexD (c.toNat / 16)).toNat:Int)] 2 (T.setL [.int .u8 120] 1 (T.setL [.int .u8 92] 0 .lf))),4,[.int .u8 0],5,.none,false⟩)) 5 1 (.slice aw L L) 4 [.int .u8 92,.int .u8 120,.int .u8 ((hexD (c.toNat / 16)).toNat:Int),.int .u8 ((hexD (c.toNat%16)).toNat:Int)]=some (v',m'):=a1
     simp (maxDischargeDepth:=8) [hts,hfit,s1,s2,i1,i2,a1',-Int.natCast_ediv,-Int.natCast_emod]
     subst hQ
     exact⟨rfl,rfl,hP.1,v',hP.2,Sl.mk rfl (by simp [hts])⟩
   ·rintro l ds m3 ⟨rfl,hO3,w3,hw3,⟨ts,hts,rfl⟩⟩
    refine Qal fun Q' hQ=>?_
    simp [hts]
    rw [wr64 _ (by omega) (by omega)]
    subst hQ
    exact⟨bs.length-(k+1),by omega,k+1,w3,_,rfl,by omega,rfl,hO3,hw3,Sl.mk rfl (by simp [hts])⟩
  ·simp only [decide_eq_false_iff_not] at h
   obtain rfl:k=bs.length:=by omega
   rw [List.take_length] at hw
   exact⟨rfl,rfl,hO,w,hw,Sl.mk rfl (by simp [hts])⟩
 clear hw1 hO1
 rintro l ds m2 ⟨rfl,hO,w,hw,⟨ts,hts,rfl⟩⟩
 have hfk:=hfl bs
 obtain⟨aw,rfl⟩:=hw.shape
 refine Qb0 (PS:=fun l' ds' m'=>ds'=[]∧Old m.next m m'∧∃ w,OwnB m.next m' w 5 (Qde bs).length (u8s (Qde bs))∧Sl [.slice av bs.length cv,undef,.string ⟨⟨[]⟩⟩,w] 61 l') ?_ ?_
 ·have happ:∀ (ob:AObj),∃ v' m',Qbq (Qah m2 ob) 5 1 (.slice aw (34::bs.flatMap Qbj).length (34::bs.flatMap Qbj).length) 1 (bytesV [34])=some (v',m')∧Old m.next m m'∧OwnB m.next m' v' 5 (Qde bs).length (u8s (Qde bs)):=by
   intro ob
   obtain⟨v',m',a1,a2,a3,a4,_⟩:=hw.append (k:=0) (sz:=1) (new:=u8s [34]) ((Old.refl _ m2).new (Knr _) ob) hO.1 (by simp) (by simp) (by simp)
   refine⟨v',m',by rw [← a1,Qfr];rfl,hO.trans (((Old.refl _ _).new hO.1 _).trans a4),.inl ?_⟩
   have e1:u8s (Qde bs)=u8s (34::bs.flatMap Qbj)++u8s [34]:=by simp [Qfr,Qde]
   have e2:(Qde bs).length=(34::bs.flatMap Qbj).length+(0+1):=by simp [Qde]
   rw [e1,e2];exact a2
  have hfit:Qdx (.slice aw (34::bs.flatMap Qbj).length (34::bs.flatMap Qbj).length) 1 1=true:=Qce _ _ _ _ _ (by simp only [Klc];omega)
  generalize hL:(34::bs.flatMap Qbj).length=L at *
  refine Qal fun Q' hQ=>?_
  simp [hts,hfit]
  refine Qkl (happ _) fun v' m' hP=>?_
  simp [hts]
  subst hQ
  exact⟨rfl,rfl,hP.1,v',hP.2,Sl.mk rfl (by simp [hts])⟩
 rintro l ds m3 ⟨rfl,hO3,w3,hw3,⟨ts3,hts3,rfl⟩⟩
 refine xsr fun Q' hQ=>?_
 simp [hts3,c29_9 hw3.at]
 subst hQ
 exact xret ⟨rfl,_,Qat _,by simp [gx],hO3⟩
end Go.Proofs.YtgmkbdmgifdfeaaGreatDoor

set_option maxRecDepth 8000
namespace Go.Proofs.YtgmkbdmgifdfeaaGreatDoor
open Go Go.Ev
theorem Qj2 {l:List Value} {m:Mem} {i j b:Nat} {t:TypeId} {v:Value} (h:gx l i=.pointer (some ⟨b,0,none⟩)) (hv:loadA tb t m b 0=some v):resX tb [.cell i t,.tmp j] l m=some (.tuple ⟨[v,gx l j]⟩):=by
 have h1:=Qa7 l i
 have h2:=Qa7 l j
 rw [Qnr] at h1 h2
 simp only [ev] at h1 h2
 have h3:(T.ofList l).get i=some (.pointer (some ⟨b,0,none⟩)):=by
  cases hg:(T.ofList l).get i with
  |none=>rw [hg,h] at h1;cases h1
  |some x=>rw [hg,h] at h1;rw [show x=_ from h1]
 simp only [resX,resA,h3,oB,hv,h2]
theorem Qsg {m:Mem} {b:Nat} {t:TypeId} {i:TI} {w:Bool} {e:TypeId} {x:Bool} {cs:List Value} (hi:ti tb t=some i) (ha:i.agg=true) (hs:i.inf.size=cs.length) (hv:vw m b=some ⟨w,e,x,cs⟩):loadA tb t m b 0=some (.agg ⟨cs⟩):=by
 obtain⟨r,h1,h2,h3,h4,h5,h6,_⟩:=Qc8 hv
 simp only [loadA,hi,oB,h1,ha]
 rw [Qb9 h6,if_pos (by right;simp only;omega),hs]
 simp [Qbv]
def Qsu:Nat→List UInt8
 |1=>[110]|2=>[105,105,105]|3=>[105]|4=>[105]|5=>[105]|6=>[105,110,110,116]|7=>[105,110]|8=>[]
 |9=>[119,105]|10=>[119,105]|11=>[119,105]|12=>[119,105,105,109]|13=>[105]|14=>[99]|15=>[]
 |16=>[105]|17=>[105]|18=>[105,110]|19=>[105]|20=>[105]|21=>[105]|22=>[105,110,110]
 |_=>[]
def Qaj (k:Nat):List Value:=[.string ⟨⟨Qay k⟩⟩,.bool (!decide (k=1)),.int .i64 (k:Int),.string ⟨⟨Qsu k⟩⟩]
theorem rc_len (k:Nat):(Qaj k).length=4:=rfl
theorem rc_one (k:Nat):(Qaj k).all oneC=true:=rfl
def rcs:List Value:=match Qfu with|r::_=>r.cells | []=>[]
theorem rcs_len:rcs.length=88:=rfl
theorem rcs_row:∀ i,i<22→Qbv rcs (i*4) 4=Qaj (i+1)
 |0,_=>rfl|1,_=>rfl|2,_=>rfl|3,_=>rfl|4,_=>rfl|5,_=>rfl|6,_=>rfl|7,_=>rfl|8,_=>rfl|9,_=>rfl|10,_=>rfl
 |11,_=>rfl|12,_=>rfl|13,_=>rfl|14,_=>rfl|15,_=>rfl|16,_=>rfl|17,_=>rfl|18,_=>rfl|19,_=>rfl|20,_=>rfl|21,_=>rfl
 |i+22,h=>absurd h (by omega)
theorem rows_vw {m:Mem} {k0:Nat} (h:Qbl Qfu m k0):vw m k0=some ⟨true,88,false,rcs⟩:=by
 have:=h 0 _ rfl
 rw [Nat.add_zero] at this
 rw [this];rfl
def rowV (z:Int):List Value:=if 1≤z∧z≤22 then Qaj z.toNat else [.string ⟨⟨[]⟩⟩,.bool false,.int .i64 0,.string ⟨⟨[]⟩⟩]
theorem row_ok {m:Mem} {z:Int} (hm:8≤m.next):Qaw tb 34 [.int .i64 z] m (retR fun r m'=>r=.tuple ⟨[.agg ⟨rowV z⟩,.bool (decide (1≤z∧z≤22))]⟩∧Old m.next m m'):=by
 refine Qa5 Tryz.func34 e34 rfl rfl ?_
 simp only [s34,List.replicate,Klc,Kln,Kca,Kna,Nat.reduceAdd,Nat.reduceSub]
 refine Qb0 (PS:=fun l' ds' m'=>ds'=[]∧Sl [.int .i64 z,undef,.pointer (some ⟨m.next,0,none⟩),.bool false] 21 l'∧Old m.next m m'∧m'.next=m.next+1∧vw m' m.next=some ⟨true,88,false,[.string ⟨⟨[]⟩⟩,.bool false,.int .i64 0,.string ⟨⟨[]⟩⟩]⟩) ?_ ?_
 ·refine Qal fun Q' hQ=>?_
  simp
  subst hQ
  exact⟨rfl,rfl,Sl.mk rfl rfl,(Old.refl _ _).new (Knr _) _,by rw [Qaf],by rw [Qcs,if_pos rfl];exact Qh0 88 [.string ⟨⟨[]⟩⟩,.bool false,.int .i64 0,.string ⟨⟨[]⟩⟩]⟩
 rintro l ds m1 ⟨rfl,⟨ts,hts,rfl⟩,hO1,hn1,hv1⟩
 refine Qb0 (PS:=fun l' ds' m'=>ds'=[]∧∃ k0,k0=m1.next∧Sl [.int .i64 z,undef,.pointer (some ⟨m.next,0,none⟩),.bool false,.slice (some ⟨k0,0,none⟩) 22 22] 20 l'∧Old m.next m m'∧vw m' m.next=some ⟨true,88,false,[.string ⟨⟨[]⟩⟩,.bool false,.int .i64 0,.string ⟨⟨[]⟩⟩]⟩∧vw m' k0=some ⟨true,88,false,rcs⟩) ?_ ?_
 ·obtain⟨x4,ts4,rfl,hts4⟩:=Qdw hts
  refine Qal fun Q' hQ=>?_
  simp [hts4]
  refine Qto ov_rrows (by omega) (fun hrows=>?_)
  subst hQ
  have hL:=Qjl m1 (Qfu.map (CRow.ren 8 m1.next))
  exact⟨rfl,rfl,m1.next,rfl,Sl.mk rfl (by simp [hts4]),hO1.trans (hL.le (by omega)),by rw [hL.vw (by omega)];exact hv1,rows_vw hrows⟩
 rintro l ds m2 ⟨rfl,k0,hk0,⟨ts2,hts2,rfl⟩,hO2,hv2,hr2⟩
 obtain⟨x5,ts5,rfl,hts5⟩:=Qdw hts2
 have hne:¬ k0=m.next:=by omega
 refine Qtn (PS:=fun l' ds' m'=>ds'=[]∧m'=m2∧Sl [.int .i64 z,undef,.pointer (some ⟨m.next,0,none⟩),.bool false] 21 l'∧¬ (1≤z∧z≤22))
  (PR:=fun l' ds' m'=>ds'=[]∧Old m.next m m'∧(1≤z∧z≤22)∧gx l' 2=.pointer (some ⟨m.next,0,none⟩)∧gx l' 3=.bool true∧vw m' m.next=some ⟨true,88,false,Qaj z.toNat⟩) ?_ ?_ ?_
 ·refine xsr fun Q' hQ=>?_
  simp [hts5]
  subst hQ
  refine Qax (Qem (N:=22) (I:=fun n l ds m'=>∃ i,n=22-i∧i≤22∧ds=[]∧m'=m2∧Sl [.int .i64 z,undef,.pointer (some ⟨m.next,0,none⟩),.bool false,.slice (some ⟨k0,0,none⟩) 22 22,.int .i64 (i:Nat)] 19 l∧¬ (1≤z∧z≤(i:Int))) ?_ ?_)
  ·exact⟨0,rfl,by omega,rfl,rfl,Sl.mk rfl (by simp [hts5]),by omega⟩
  rintro n l ds m' ⟨i,rfl,hi,rfl,rfl,⟨ts,hts,rfl⟩,hno⟩
  refine xseq (xseq (Qal fun Q' hQ=>?_))
  simp [hts]
  subst hQ
  refine xif (v:=decide ((i:Int)<22)) (by simp [hts]) (fun h=>Qbd ?_) (fun h=>Qdy ?_)
  ·simp only [decide_eq_true_eq] at h
   have hi2:i<22:=by omega
   have hrow:=rcs_row i hi2
   have hc2:rcs[i*4+2]? = some (.int .i64 ((i+1:Nat):Int)):=by
    have:=Qfs (l:=rcs) (o:=i*4) (n:=4) (k:=2) (by omega)
    rw [hrow] at this;rw [← this];rfl
   have hlen:i*4+4≤88:=by omega
   refine xseq (Qax (xseq (Qal fun Q' hQ=>?_)))
   simp [hts,hr2,hi2,hc2]
   subst hQ
   refine xif (v:=decide ((i:Int)+1=z)) (by simp [hts]) (fun h1=>?_) (fun h1=>Qbd ?_)
   ·simp only [decide_eq_true_eq] at h1
    have hz:z.toNat=i+1:=by omega
    have hs:stOk ⟨true,88,false,[.string ⟨⟨[]⟩⟩,.bool false,.int .i64 0,.string ⟨⟨[]⟩⟩]⟩ 0 (Qaj (i+1))=true:=by simp [Qaj]
    refine xsr fun Q' hQ=>?_
    simp [hts,hr2,hi2,hrow,rcs_len,hlen,hv2,rc_len,rc_one]
    subst hQ
    refine xret (.inr ⟨rfl,rfl,hO2.st (Knr _) _ _,by omega,rfl,by simp [gx],?_⟩)
    have:=Qau hv2 hs
    rw [hz]
    exact this
   ·simp only [decide_eq_false_iff_not] at h1
    refine Qal fun Q' hQ=>?_
    simp [hts]
    rw [wr64 _ (by omega) (by omega)]
    subst hQ
    exact⟨22-(i+1),by omega,i+1,rfl,by omega,rfl,rfl,Sl.mk rfl (by simp [hts]),by omega⟩
  ·simp only [decide_eq_false_iff_not] at h
   obtain rfl:i=22:=by omega
   exact .inl ⟨rfl,rfl,rfl,Sl.mk rfl (by simp [hts]),by omega⟩
 ·rintro l ds m3 ⟨rfl,rfl,⟨ts,hts,rfl⟩,hno⟩
  have hs:stOk ⟨true,88,false,[.string ⟨⟨[]⟩⟩,.bool false,.int .i64 0,.string ⟨⟨[]⟩⟩]⟩ 0 [.string ⟨⟨[]⟩⟩,.bool false,.int .i64 0,.string ⟨⟨[]⟩⟩]=true:=by simp
  refine xsr fun Q' hQ=>?_
  simp [hts,hv2]
  subst hQ
  refine xret ⟨rfl,_,Qj2 (b:=m.next) (v:=.agg ⟨[.string ⟨⟨[]⟩⟩,.bool false,.int .i64 0,.string ⟨⟨[]⟩⟩]⟩) rfl (Qsg Ty.ti88 Ty.g88 (by rw [Ty.s88];rfl) (Qau hv2 hs)),?_,hO2.st (Knr _) _ _⟩
  simp [gx,rowV,hno]
 ·rintro l ds m3 ⟨rfl,hO3,hz,g2,g3,hv3⟩
  refine⟨rfl,_,Qj2 g2 (Qsg Ty.ti88 Ty.g88 (by rw [Ty.s88];rfl) hv3),?_,hO3⟩
  rw [g3,rowV,if_pos hz]
  simp [hz]
end Go.Proofs.YtgmkbdmgifdfeaaGreatDoor

set_option maxRecDepth 8000
namespace Go.Proofs.YtgmkbdmgifdfeaaGreatDoor
open Go Go.Ev
theorem Qxk {w:List UInt8} {v:Int} (h:Qhu w=some v):0≤v∧v≤4294967295:=by
 unfold Qhu Qel at h
 split at h
 ·rename_i hh
  have e:((Qjb w:Nat):Int)=v:=Kai h
  have:=hh.2.2.2
  omega
 ·cases h
end Go.Proofs.YtgmkbdmgifdfeaaGreatDoor

set_option maxRecDepth 8000
namespace Go.Proofs.YtgmkbdmgifdfeaaGreatDoor
open Go Go.Ev
def Qtk (ws:List (List UInt8)) (m:Mem) (r:Value) (m':Mem):Prop :=
 ∃ x ok,r=.tuple ⟨[.agg ⟨Qa4 x⟩,.bool ok]⟩∧Old m.next m m'∧(ok=true→Qih ws=some x)∧(ok=false→Qih ws=none)
end Go.Proofs.YtgmkbdmgifdfeaaGreatDoor

set_option maxRecDepth 8000
namespace Go.Proofs.YtgmkbdmgifdfeaaGreatDoor
open Go Go.Ev
theorem Jaq {w:List UInt8} {k:Nat} (h:Qlm w=some k):1≤k∧k≤22∧Qay k=w:=by
 unfold Qlm at h
 have h1:=List.find?_some h
 have h2:=List.mem_of_find?_eq_some h
 simp at h1 h2
 exact⟨h1.1,by omega,h1.2⟩
theorem vEq_t2' (d:Nat) (a b:Value) (ha:vEq d a a=true) (hb:vEq d b b=true):vEq (d+1) (.tuple ⟨[a,b]⟩) (.tuple ⟨[a,b]⟩)=true:=by simp [vEq,ha,hb]
def oneCells (b1 b2:Bool) (x:Stu) (s:Stp) (d c:Value):List Value:=.bool b1::.bool b2::(Qa4 x++Qaa s d c)
def OneR (tx:List UInt8) (m:Mem) (r:Value) (m':Mem):Prop :=
 ∃ b1 b2 x s ad nd ac nc ok,r=.tuple ⟨[.agg ⟨oneCells b1 b2 x s (.slice ad nd nd) (.slice ac nc nc)⟩,.bool ok]⟩∧Old m.next m m'∧(ok=false→Qd1 tx=none) ∧
   (ok=true→(b1=false∧Qd1 tx=some .nothing)∨(b1=true∧b2=true∧Qd1 tx=some (.head x)) ∨
    (b1=true∧b2=false∧Qd1 tx=some (.step s)∧Own m.next m' (.slice ad nd nd) 5 s.data.length (u8s s.data)∧Own m.next m' (.slice ac nc nc) 3 s.choices.length (i64s s.choices)))
end Go.Proofs.YtgmkbdmgifdfeaaGreatDoor

