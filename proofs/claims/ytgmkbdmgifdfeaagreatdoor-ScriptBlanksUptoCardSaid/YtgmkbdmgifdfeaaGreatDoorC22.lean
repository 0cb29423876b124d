/- A part of a proof: ScriptBlanks. -/
import Derived.Test.YtgmkbdmgifdfeaaGreatDoorC21
set_option linter.unusedVariables false
set_option linter.unusedSimpArgs false
set_option maxRecDepth 8000
namespace Go.Proofs.YtgmkbdmgifdfeaaGreatDoor
open Go Go.Ev
theorem stu_get (x:Stu):(Qbb x)[0]? = some (.int .i64 x.mtu)∧(Qbb x)[1]? = some (.int .u64 x.ack)∧(Qbb x)[2]? = some (.int .u64 x.retry)∧(Qbb x)[3]? = some (.int .i64 x.retries)∧(Qbb x)[4]? = some (.int .i64 x.window)∧(Qbb x)[5]? = some (.int .i64 x.inbox)∧(Qbb x)[6]? = some (.int .i64 x.sectors)∧(Qbb x)[7]? = some (.int .i64 x.room)∧(Qbb x)[8]? = some (.int .u64 x.start):=⟨rfl,rfl,rfl,rfl,rfl,rfl,rfl,rfl,rfl⟩
theorem Qte (ss:List Stp):400*ss.length≤Qco ss:=by
 induction ss with
 |nil=>simp
 |cons s ss ih=>simp only [Qco,List.map_cons,List.sum_cons,Klc,Qi3] at ih ⊢;omega
theorem Qoy {n0 p:Nat} {m:Mem} {v:Value} {out:List UInt8} {g:Bool} {z:Int} (h:Prn n0 m p v out g) (hn:n0≤m.next) (hp:Qeo m) (hp0:0<n0) (hz:i64R z) (hb:out.length≤800000000) :
  Qar tb 27 [.pointer (some ⟨p,0,none⟩),.int .i64 z] m (retR fun r m'=>∃ v',Prn n0 m' p v' (out++decI z) (g||Qbn z)∧Old n0 m m'∧Two m m' p v v') :=
 (Qp0 h hn hp hp0 hz.1 hz.2 (by have:=Qgp hz;omega)).mono fun o m' ho=>by
  cases o with
  |ret r=>obtain⟨v',h1,h2⟩:=ho;exact⟨v',by simpa [decI,Qbn,Bool.or_assoc] using h1,h2⟩
  |pan ch=>exact ho
theorem longD {n0 p:Nat} {m:Mem} {v:Value} {out:List UInt8} {g:Bool} {z:Int} (h:Prn n0 m p v out g) (hn:n0≤m.next) (hp:Qeo m) (hz:u64R z) (hb:out.length≤800000000) :
  Qar tb 28 [.pointer (some ⟨p,0,none⟩),.int .u64 z] m (retR fun r m'=>∃ v',Prn n0 m' p v' (out++decU z) g∧Old n0 m m'∧Two m m' p v v') :=
 (Quh h hn hp hz.1 hz.2 (by have:=Qqy hz;omega)).mono fun o m' ho=>by
  cases o with
  |ret r=>obtain⟨v',h1,h2⟩:=ho;exact⟨v',by simpa [decU] using h1,h2⟩
  |pan ch=>exact ho
theorem _root_.Go.Ev.SlOld.eq {n0 n:Nat} {m m':Mem} {v:Value} {cells:List Value} (h:SlOld n0 m v n cells) (k:∀ x,x<n0→m'.objs.get x=m.objs.get x):SlOld n0 m' v n cells:=by
 rcases h with h|⟨b,o,c,rfl,h1,h2|⟨h2,h3⟩⟩
 ·exact .inl h
 ·exact .inr ⟨b,o,c,rfl,h1,.inl h2⟩
 ·exact .inr ⟨b,o,c,rfl,h1,.inr ⟨by rw [rd_get (k b h3)];exact h2,h3⟩⟩
def PrI (np k0:Nat) (xs:List (Nat × Vw)) (m2:Mem) (out:List UInt8) (g:Bool) (m':Mem):Prop :=
 ∃ v',Prn np m' np v' out g∧Old np m2 m'∧Qbq Qav m' k0∧(∀ z,k0≤z→z<k0+109→Safe m' np v' z)∧∀ q∈xs,Safe m' np v' q.1∧vw m' q.1=some q.2
theorem PrI.two {np k0:Nat} {xs:List (Nat × Vw)} {m2 m m':Mem} {out':List UInt8} {g':Bool} {v v':Value} (hO:Old np m2 m) (hr:Qbq Qav m k0) (hs:∀ z,k0≤z→z<k0+109→Safe m np v z) (hx:∀ q∈xs,Safe m np v q.1∧vw m q.1=some q.2)
  (hP:Prn np m' np v' out' g') (hO':Old np m m') (hT:Two m m' np v v'):PrI np k0 xs m2 out' g' m':=by
 obtain⟨h1,h2⟩:=Qvm hT hs hr
 exact⟨v',hP,hO.trans hO',h2,h1,fun q hq=>⟨(hT.safe (hx q hq).1).1,(hT.safe (hx q hq).1).2.trans (hx q hq).2⟩⟩
theorem PrI.get {np k0:Nat} {xs:List (Nat × Vw)} {m2 m:Mem} {out:List UInt8} {g:Bool} (h:PrI np k0 xs m2 out g m) {b:Nat} {V:Vw} (hm:(b,V)∈xs):vw m b=some V:=by
 obtain⟨v,_,_,_,_,hx⟩:=h
 exact (hx _ hm).2
theorem PrI.new {np k0:Nat} {xs:List (Nat × Vw)} {m2 m m':Mem} {out:List UInt8} {g:Bool} {V:Vw} (h:PrI np k0 xs m2 out g m) (k:∀ x,x<m.next→m'.objs.get x=m.objs.get x) (hx:m'.next=m.next+1) (hv:vw m' m.next=some V):PrI np k0 ((m.next,V)::xs) m2 out g m':=by
 obtain⟨v,hP,hO,hr,hs,hq⟩:=h
 have hn:np≤m.next:=by obtain⟨a,hP⟩:=hP;have:=hP.lt;omega
 obtain⟨v1,a1,a2,a3,a4,a5⟩:=PrI.two (xs:=xs) hO hr hs hq (hP.grow k (by omega)) (⟨by omega,fun x h=>k x (by omega)⟩:Old np m m') (⟨by omega,fun x h _ h2=>⟨k x h,h2⟩⟩:Two m m' np v v)
 have hT:Two m m' np v v:=⟨by omega,fun x h _ h2=>⟨k x h,h2⟩⟩
 refine⟨v,hP.grow k (by omega),a2,a3,(Qvm hT hs hr).1,fun q hm=>?_⟩
 rcases List.mem_cons.1 hm with rfl|hm
 ·exact⟨hP.safe_new (by omega),hv⟩
 ·exact⟨(hT.safe (hq q hm).1).1,(hT.safe (hq q hm).1).2.trans (hq q hm).2⟩
theorem PrI.drop {np k0:Nat} {x:Nat × Vw} {xs:List (Nat × Vw)} {m2 m:Mem} {out:List UInt8} {g:Bool} (h:PrI np k0 (x::xs) m2 out g m):PrI np k0 xs m2 out g m:=by
 obtain⟨v,a1,a2,a3,a4,a5⟩:=h
 exact⟨v,a1,a2,a3,a4,fun q hq=>a5 q (List.mem_cons_of_mem _ hq)⟩
theorem Qrk {l:List Value} {j:Nat} {x y:Value} (h1:l[2*j]? = some x) (h2:l[2*j+1]? = some y):Qb3 l (j*2) 2=[x,y]:=by
 rw [show j*2=2*j from by omega]
 apply List.ext_getElem?
 intro i
 match i with
 |0=>rw [Qhy (by omega)];simpa using h1
 |1=>rw [Qhy (by omega)];simpa using h2
 |i+2 =>
  have hl:2*j+2≤l.length:=by have:=(Kgs.1 h2).1;omega
  rw [List.getElem?_eq_none (by rw [Qlb hl];omega),List.getElem?_eq_none (by simp)]
theorem Qzs {rows:List CRow} {m m':Mem} {k0 z:Nat} (h:Qbq rows m k0) (h':Qbq rows m' k0) (h1:k0≤z) (h2:z<k0+rows.length):vw m' z=vw m z:=by
 have hj:rows[z-k0]? = some (rows[z-k0]'(by omega)):=Kge _
 have e1:=h _ _ hj
 have e2:=h' _ _ hj
 rw [show k0+(z-k0)=z from by omega] at e1 e2
 rw [e1,e2]
theorem IsFd.eq {m m':Mem} {k0:Nat} {rv pv:Value} {f:Fd} (h:IsFd m k0 rv pv f) (k:∀ z,k0≤z→z<k0+109→vw m' z=vw m z):IsFd m' k0 rv pv f:=by
 cases f<;>first
  |exact h
  | (obtain⟨cb,h1,h2,h3,h4,h5⟩:=h;exact⟨cb,h1,h2,h3,h4,by rw [k cb h1 h2];exact h5⟩)
theorem form_all {m:Mem} {k0:Nat} (h:Qbq Qav m k0) {kind:Nat} (h1:1≤kind) (h2:kind≤22):∃ tab,vw m (k0+108)=some ⟨true,80,false,tab⟩∧tab[2*kind]? = some (.string ⟨⟨Qbh kind⟩⟩)∧∃ fs,tab[2*kind+1]? = some fs ∧
  ((fs=.slice none 0 0∧fieldsOf kind=[])∨∃ b n cells,fs=.slice (some ⟨b,0,none⟩) n n∧(fieldsOf kind).length=n∧k0≤b∧b<k0+109∧cells.length=2*n∧∀ m',Qbq Qav m' k0→vw m' b=some ⟨true,84,false,cells⟩∧∀ j f,(fieldsOf kind)[j]? = some f→∃ rv pv,cells[2*j]? = some rv∧cells[2*j+1]? = some pv∧IsFd m' k0 rv pv f):=by
 obtain⟨tab,g1,g2,fs,g3,g4⟩:=Ja9 h h1 h2
 refine⟨tab,g1,g2,fs,g3,g4.imp id ?_⟩
 rintro⟨b,n,cells,e1,e2,e3,e4,e5,e6,e7⟩
 refine⟨b,n,cells,e1,e2,e3,e4,e6,fun m' h'=>⟨by rw [Qzs h h' e3 e4];exact e5,fun j f hj=>?_⟩⟩
 obtain⟨rv,pv,i1,i2,i3⟩:=e7 j f hj
 exact⟨rv,pv,i1,i2,i3.eq fun z z1 z2=>Qzs h h' z1 z2⟩
theorem print_ok {m:Mem} {v:Value} {x:Stu} {ss:List Stp} (hm:8≤m.next) (hp:Qeo m) (hx:x.R) (hs:Qem m.next m v ss) (hb:Qco ss≤500000000) :
  Qar tb 13 [.agg ⟨Qbb x⟩,v] m (retR fun r m'=>r=.tuple ⟨[.string ⟨⟨(Qd5 x ss).1⟩⟩,.int .i64 (Qd5 x ss).2]⟩∧Old m.next m m'):=by
 have hwl:=Qte ss
 obtain⟨av,cv,rfl⟩:=hs.shape
 refine Qay Tryz.func13 e13 rfl rfl ?_
 simp only [s13,List.replicate,Klc,Kln,Kca,Kna,Nat.reduceAdd,Nat.reduceSub]
 refine Qfv (PS:=fun l' ds' m1=>ds'=[]∧Sl [.agg ⟨Qbb x⟩,.slice av ss.length cv,.pointer (some ⟨m.next,0,none⟩),undef,.string ⟨⟨[]⟩⟩,.int .i64 0] 133 l'∧vw m1 m.next=some ⟨true,26,false,Qbb x⟩∧m1.next=m.next+1∧Old m.next m m1) ?_ ?_
 ·refine Qai fun Q' hQ=>?_
  simp
  subst hQ
  exact⟨rfl,rfl,Sl.mk rfl rfl,by rw [Qcy,if_pos rfl];exact Qec _ _ _,by rw [Qae],(Old.refl _ _).new (Knr _) _⟩
 rintro l ds m1 ⟨rfl,⟨ts,hts,rfl⟩,hX,hN1,hO1⟩
 refine xseqR (PS:=fun l' ds' m'=>ds'=[]∧Sl [.agg ⟨Qbb x⟩,.slice av ss.length cv,.pointer (some ⟨m.next,0,none⟩),undef,.string ⟨⟨[]⟩⟩,.int .i64 0] 133 l'∧vw m' m.next=some ⟨true,26,false,Qbb x⟩∧Old m.next m m'∧ss.all Qgg=true∧m.next<m'.next)
  (PR:=fun l' ds' m'=>ds'=[]∧Old m.next m m'∧¬ ss.all Qgg=true∧gx l' 4=.string ⟨⟨[]⟩⟩∧gx l' 5=.int .i64 202) ?_ ?_ ?_
 ·refine xsr fun Q' hQ=>?_
  simp [hts]
  subst hQ
  refine Qa1 (Qdf (N:=ss.length) (I:=fun n l ds m2=>∃ k y7,n=ss.length-k∧k≤ss.length∧ds=[]∧(∃ ts:List Value,ts.length=133∧l=[.agg ⟨Qbb x⟩,.slice av ss.length cv,.pointer (some ⟨m.next,0,none⟩),undef,.string ⟨⟨[]⟩⟩,.int .i64 0]++ts∧gx ts 9=.slice av ss.length cv∧gx ts 10=.int .i64 (ss.length:Nat)∧gx ts 11=.int .i64 (k:Nat)) ∧
   vw m2 m.next=some ⟨true,26,false,Qbb x⟩∧Old m.next m m2∧m.next<m2.next∧(ss.take k).all Qgg=true∧y7=undef) ?_ ?_)
  ·exact⟨0,undef,by simp,by omega,rfl,⟨_,by simp [hts],rfl,by simp [hts],by simp [hts],by simp [hts]⟩,hX,hO1,by omega,by simp,rfl⟩
  rintro n l ds m2 ⟨k,y7,rfl,hk,rfl,⟨ts,hts,rfl,g15,g16,g17⟩,hX2,hO2,hN2,hall,rfl⟩
  refine xsr fun Q' hQ=>?_
  simp [hts,g16,g17]
  subst hQ
  refine xseq (xif (v:=decide (k<ss.length)) (by simp [hts]) (fun h=>Qa2 ?_) (fun h=>Qcn ?_))
  ·simp only [decide_eq_true_eq] at h
   obtain⟨b,o,c,h1,hR,ad,dc,ac,cc,hld,hd,hc,hone,_,_⟩:=(hs.old hO2).load hO2.1 (Kge h)
   simp only [Value.slice.injEq] at h1
   obtain⟨rfl,-,rfl⟩:=h1
   generalize hsk:ss[k]=s at *
   obtain⟨m3,e3,n3,r3,f3⟩:=Qmg m2 36 17 [.int .i64 0,.int .i64 0,.int .i64 0,.int .u64 0,.int .u64 0,.slice none 0 0,.int .u64 0,.int .i64 0,.int .i64 0,.int .i64 0,.int .i64 0,.int .i64 0,.int .u32 0,.int .u64 0,.slice none 0 0,.int .i64 0,.int .u64 0] (Qaa s (.slice ad s.data.length dc) (.slice ac s.choices.length cc)) rfl rfl hone
   refine xseq (Qa1 (xseq (Qai fun Q' hQ=>?_)))
   simp [hts,g15,g17,hld,h,hone,Qmp]
   rw [← e3]
   subst hQ
   have hsafe:∀ x,x<m2.next→vw m3 x=vw m2 x:=fun x hx=>by unfold vw;rw [f3 x hx]
   have hO3:Old m.next m m3:=⟨by have:=hO2.1;omega,fun x hx=>by rw [f3 x (by have:=hO2.1;omega)];exact hO2.2 x hx⟩
   have htk:ss.take (k+1)=ss.take k++[s]:=by rw [List.take_add_one,Kge h,hsk];rfl
   refine xsr fun Q' hQ=>?_
   simp [hts,r3,Qmp,Qb3]
   refine Qao (Qad (by decide)) Qru ?_ (fun ch m' h=>h.elim)
   rintro r m4 ⟨rfl,hO4⟩
   simp [hts]
   subst hQ
   have hX4:vw m4 m.next=some ⟨true,26,false,Qbb x⟩:=by rw [hO4.vw (by omega),hsafe _ hN2];exact hX2
   refine xif (v:=!Qgg s) (by simp [hts]) (fun hno=>?_) (fun hok=>Qa2 ?_)
   ·simp only [Bool.not_eq_true'] at hno
    refine xsr fun Q' hQ=>?_
    simp [hts]
    subst hQ
    refine xret (.inr ⟨rfl,rfl,hO3.trans (hO4.le (by have:=hO3.1;omega)),?_,by simp [gx],by simp [gx]⟩)
    intro hA
    have:=List.all_eq_true.1 hA s (by rw [← hsk];exact List.getElem_mem h)
    rw [hno] at this;cases this
   ·simp only [Bool.not_eq_false'] at hok
    refine Qai fun Q' hQ=>?_
    simp [hts,g17]
    rw [wr64 _ (by omega) (by omega)]
    subst hQ
    exact⟨ss.length-(k+1),by omega,k+1,undef,rfl,by omega,rfl,⟨_,by simp [hts],rfl,by simp [hts,g15],by simp [hts,g16],by simp [hts]⟩,hX4,hO3.trans (hO4.le (by have:=hO3.1;omega)),by have:=hO4.1;omega,by rw [htk];simp [hall,hok],rfl⟩
  ·simp only [decide_eq_false_iff_not] at h
   obtain rfl:k=ss.length:=by omega
   rw [List.take_length] at hall
   exact .inl ⟨rfl,rfl,Sl.mk rfl (by simp [hts]),hX2,hO2,hall,hN2⟩
 ·rintro l ds m2 ⟨rfl,⟨ts,hts,rfl⟩,hX2,hO2,hall,hN2⟩
  clear hX hO1 hN1
  have hK:∀ x,x<m2.next→x<m2.next:=fun x h=>h
  obtain⟨g0,g1,g2,g3,g4,g5,g6,g7,g8⟩:=stu_get x
  generalize hnp:m2.next=np at *
  refine Qfv (PS:=fun l' ds' m'=>ds'=[]∧(∃ y6 y7,Sl [.agg ⟨Qbb x⟩,.slice av ss.length cv,.pointer (some ⟨m.next,0,none⟩),undef,.string ⟨⟨[]⟩⟩,.int .i64 0,y6,y7,.pointer (some ⟨np,0,none⟩)] 130 l')∧∃ v',Prn np m' np v' [] false∧Old np m2 m') ?_ ?_
  ·refine Qai fun Q' hQ=>?_
   simp [hts,hnp]
   subst hQ
   obtain⟨x6,x7,x8,ts',rfl⟩:∃ x6 x7 x8 ts',ts=x6::x7::x8::ts':=by
    match ts,hts with
    |x6::x7::x8::ts',_=>exact⟨_,_,_,_,rfl⟩
    | [],h=>simp at h
    | [_],h=>simp at h
    | [_,_],h=>simp at h
   refine⟨rfl,rfl,⟨_,_,Sl.mk rfl (by simpa using hts)⟩,.slice none 0 0,⟨.pointer none,Knr _,by rw [Qae];omega,bld67,by rw [Qcy,if_pos hnp.symm];exact Qec _ _ _,.inl rfl,.inl ⟨rfl,rfl,rfl⟩,by intro e;cases e⟩,(Old.refl _ _).new (by omega) _⟩
  rintro l ds m3 ⟨rfl,⟨y6,y7,ts3,hts3,rfl⟩,v3,hP,hO⟩
  have hold:∀ {m':Mem},Old np m2 m'→vw m' m.next=some ⟨true,26,false,Qbb x⟩∧Qeo m':=fun h=>⟨by rw [h.vw hN2];exact hX2,(hp.old hO2 (by omega)).old h (by omega)⟩
  clear hts
  refine Qfv (PS:=fun l' ds' m'=>ds'=[]∧Sl [.agg ⟨Qbb x⟩,.slice av ss.length cv,.pointer (some ⟨m.next,0,none⟩),undef,.string ⟨⟨[]⟩⟩,.int .i64 0,y6,y7,.pointer (some ⟨np,0,none⟩)] 130 l'∧∃ v',Prn np m' np v' ([119,111,114,108,100]) (false)∧Old np m2 m') ?_ ?_
  ·obtain⟨hX3,hp3⟩:=hold hO
   refine Qai fun Q' hQ=>?_
   simp [hts3,hX3,g0,g1,g2,g3,g4,g5,g6,g7,g8]
   obtain⟨a3,hP⟩:=hP
   refine Qao (Qad (by decide)) (Qcw (s:=[119,111,114,108,100]) hP (by have:=hO.1;omega) (by simp)) ?_ (fun ch m' h=>h.elim)
   rintro r m4 ⟨v4,hP4,hO4,-⟩
   replace hP4:Prn np m4 np v4 [119,111,114,108,100] false:=⟨_,hP4⟩
   subst hQ
   exact⟨rfl,rfl,Sl.mk rfl (by simp [hts3]),v4,hP4,hO.trans hO4⟩
  clear hP hO hts3
  rintro l ds m3 ⟨rfl,⟨ts3,hts3,rfl⟩,v3,hP,hO⟩
  refine Qfv (PS:=fun l' ds' m'=>ds'=[]∧Sl [.agg ⟨Qbb x⟩,.slice av ss.length cv,.pointer (some ⟨m.next,0,none⟩),undef,.string ⟨⟨[]⟩⟩,.int .i64 0,y6,y7,.pointer (some ⟨np,0,none⟩)] 130 l'∧∃ v',Prn np m' np v' ([119,111,114,108,100]++decI x.sectors) (false||Qbn x.sectors)∧Old np m2 m') ?_ ?_
  ·obtain⟨hX3,hp3⟩:=hold hO
   refine Qai fun Q' hQ=>?_
   simp [hts3,hX3,g0,g1,g2,g3,g4,g5,g6,g7,g8]
   refine Qao (Qad (by decide)) (Qoy hP (by have:=hO.1;omega) hp3 (by omega) hx.sectors (by simp only [Kla,Klc,Kln];omega)) ?_ (fun ch m' h=>h.elim)
   rintro r m4 ⟨v4,hP4,hO4,-⟩
   subst hQ
   exact⟨rfl,rfl,Sl.mk rfl (by simp [hts3]),v4,hP4,hO.trans hO4⟩
  clear hP hO hts3
  rintro l ds m3 ⟨rfl,⟨ts3,hts3,rfl⟩,v3,hP,hO⟩
  refine Qfv (PS:=fun l' ds' m'=>ds'=[]∧Sl [.agg ⟨Qbb x⟩,.slice av ss.length cv,.pointer (some ⟨m.next,0,none⟩),undef,.string ⟨⟨[]⟩⟩,.int .i64 0,y6,y7,.pointer (some ⟨np,0,none⟩)] 130 l'∧∃ v',Prn np m' np v' ([119,111,114,108,100]++decI x.sectors++decI x.room) (false||Qbn x.sectors||Qbn x.room)∧Old np m2 m') ?_ ?_
  ·obtain⟨hX3,hp3⟩:=hold hO
   refine Qai fun Q' hQ=>?_
   simp [hts3,hX3,g0,g1,g2,g3,g4,g5,g6,g7,g8]
   refine Qao (Qad (by decide)) (Qoy hP (by have:=hO.1;omega) hp3 (by omega) hx.room (by have l0:=Qbi hx.sectors;simp only [Kla,Klc,Kln];omega)) ?_ (fun ch m' h=>h.elim)
   rintro r m4 ⟨v4,hP4,hO4,-⟩
   subst hQ
   exact⟨rfl,rfl,Sl.mk rfl (by simp [hts3]),v4,hP4,hO.trans hO4⟩
  clear hP hO hts3
  rintro l ds m3 ⟨rfl,⟨ts3,hts3,rfl⟩,v3,hP,hO⟩
  refine Qfv (PS:=fun l' ds' m'=>ds'=[]∧Sl [.agg ⟨Qbb x⟩,.slice av ss.length cv,.pointer (some ⟨m.next,0,none⟩),undef,.string ⟨⟨[]⟩⟩,.int .i64 0,y6,y7,.pointer (some ⟨np,0,none⟩)] 130 l'∧∃ v',Prn np m' np v' ([119,111,114,108,100]++decI x.sectors++decI x.room++decU x.start) (false||Qbn x.sectors||Qbn x.room)∧Old np m2 m') ?_ ?_
  ·obtain⟨hX3,hp3⟩:=hold hO
   refine Qai fun Q' hQ=>?_
   simp [hts3,hX3,g0,g1,g2,g3,g4,g5,g6,g7,g8]
   refine Qao (Qad (by decide)) (longD hP (by have:=hO.1;omega) hp3 hx.start (by have l0:=Qbi hx.sectors;have l1:=Qbi hx.room;simp only [Kla,Klc,Kln];omega)) ?_ (fun ch m' h=>h.elim)
   rintro r m4 ⟨v4,hP4,hO4,-⟩
   subst hQ
   exact⟨rfl,rfl,Sl.mk rfl (by simp [hts3]),v4,hP4,hO.trans hO4⟩
  clear hP hO hts3
  rintro l ds m3 ⟨rfl,⟨ts3,hts3,rfl⟩,v3,hP,hO⟩
  refine Qfv (PS:=fun l' ds' m'=>ds'=[]∧Sl [.agg ⟨Qbb x⟩,.slice av ss.length cv,.pointer (some ⟨m.next,0,none⟩),undef,.string ⟨⟨[]⟩⟩,.int .i64 0,y6,y7,.pointer (some ⟨np,0,none⟩)] 130 l'∧∃ v',Prn np m' np v' ([119,111,114,108,100]++decI x.sectors++decI x.room++decU x.start++decI x.mtu) (false||Qbn x.sectors||Qbn x.room||Qbn x.mtu)∧Old np m2 m') ?_ ?_
  ·obtain⟨hX3,hp3⟩:=hold hO
   refine Qai fun Q' hQ=>?_
   simp [hts3,hX3,g0,g1,g2,g3,g4,g5,g6,g7,g8]
   refine Qao (Qad (by decide)) (Qoy hP (by have:=hO.1;omega) hp3 (by omega) hx.mtu (by have l0:=Qbi hx.sectors;have l1:=Qbi hx.room;have l2:=Qby hx.start;simp only [Kla,Klc,Kln];omega)) ?_ (fun ch m' h=>h.elim)
   rintro r m4 ⟨v4,hP4,hO4,-⟩
   subst hQ
   exact⟨rfl,rfl,Sl.mk rfl (by simp [hts3]),v4,hP4,hO.trans hO4⟩
  clear hP hO hts3
  rintro l ds m3 ⟨rfl,⟨ts3,hts3,rfl⟩,v3,hP,hO⟩
  refine Qfv (PS:=fun l' ds' m'=>ds'=[]∧Sl [.agg ⟨Qbb x⟩,.slice av ss.length cv,.pointer (some ⟨m.next,0,none⟩),undef,.string ⟨⟨[]⟩⟩,.int .i64 0,y6,y7,.pointer (some ⟨np,0,none⟩)] 130 l'∧∃ v',Prn np m' np v' ([119,111,114,108,100]++decI x.sectors++decI x.room++decU x.start++decI x.mtu++decU x.ack) (false||Qbn x.sectors||Qbn x.room||Qbn x.mtu)∧Old np m2 m') ?_ ?_
  ·obtain⟨hX3,hp3⟩:=hold hO
   refine Qai fun Q' hQ=>?_
   simp [hts3,hX3,g0,g1,g2,g3,g4,g5,g6,g7,g8]
   refine Qao (Qad (by decide)) (longD hP (by have:=hO.1;omega) hp3 hx.ack (by have l0:=Qbi hx.sectors;have l1:=Qbi hx.room;have l2:=Qby hx.start;have l3:=Qbi hx.mtu;simp only [Kla,Klc,Kln];omega)) ?_ (fun ch m' h=>h.elim)
   rintro r m4 ⟨v4,hP4,hO4,-⟩
   subst hQ
   exact⟨rfl,rfl,Sl.mk rfl (by simp [hts3]),v4,hP4,hO.trans hO4⟩
  clear hP hO hts3
  rintro l ds m3 ⟨rfl,⟨ts3,hts3,rfl⟩,v3,hP,hO⟩
  refine Qfv (PS:=fun l' ds' m'=>ds'=[]∧Sl [.agg ⟨Qbb x⟩,.slice av ss.length cv,.pointer (some ⟨m.next,0,none⟩),undef,.string ⟨⟨[]⟩⟩,.int .i64 0,y6,y7,.pointer (some ⟨np,0,none⟩)] 130 l'∧∃ v',Prn np m' np v' ([119,111,114,108,100]++decI x.sectors++decI x.room++decU x.start++decI x.mtu++decU x.ack++decU x.retry) (false||Qbn x.sectors||Qbn x.room||Qbn x.mtu)∧Old np m2 m') ?_ ?_
  ·obtain⟨hX3,hp3⟩:=hold hO
   refine Qai fun Q' hQ=>?_
   simp [hts3,hX3,g0,g1,g2,g3,g4,g5,g6,g7,g8]
   refine Qao (Qad (by decide)) (longD hP (by have:=hO.1;omega) hp3 hx.retry (by have l0:=Qbi hx.sectors;have l1:=Qbi hx.room;have l2:=Qby hx.start;have l3:=Qbi hx.mtu;have l4:=Qby hx.ack;simp only [Kla,Klc,Kln];omega)) ?_ (fun ch m' h=>h.elim)
   rintro r m4 ⟨v4,hP4,hO4,-⟩
   subst hQ
   exact⟨rfl,rfl,Sl.mk rfl (by simp [hts3]),v4,hP4,hO.trans hO4⟩
  clear hP hO hts3
  rintro l ds m3 ⟨rfl,⟨ts3,hts3,rfl⟩,v3,hP,hO⟩
  refine Qfv (PS:=fun l' ds' m'=>ds'=[]∧Sl [.agg ⟨Qbb x⟩,.slice av ss.length cv,.pointer (some ⟨m.next,0,none⟩),undef,.string ⟨⟨[]⟩⟩,.int .i64 0,y6,y7,.pointer (some ⟨np,0,none⟩)] 130 l'∧∃ v',Prn np m' np v' ([119,111,114,108,100]++decI x.sectors++decI x.room++decU x.start++decI x.mtu++decU x.ack++decU x.retry++decI x.retries) (false||Qbn x.sectors||Qbn x.room||Qbn x.mtu||Qbn x.retries)∧Old np m2 m') ?_ ?_
  ·obtain⟨hX3,hp3⟩:=hold hO
   refine Qai fun Q' hQ=>?_
   simp [hts3,hX3,g0,g1,g2,g3,g4,g5,g6,g7,g8]
   refine Qao (Qad (by decide)) (Qoy hP (by have:=hO.1;omega) hp3 (by omega) hx.retries (by have l0:=Qbi hx.sectors;have l1:=Qbi hx.room;have l2:=Qby hx.start;have l3:=Qbi hx.mtu;have l4:=Qby hx.ack;have l5:=Qby hx.retry;simp only [Kla,Klc,Kln];omega)) ?_ (fun ch m' h=>h.elim)
   rintro r m4 ⟨v4,hP4,hO4,-⟩
   subst hQ
   exact⟨rfl,rfl,Sl.mk rfl (by simp [hts3]),v4,hP4,hO.trans hO4⟩
  clear hP hO hts3
  rintro l ds m3 ⟨rfl,⟨ts3,hts3,rfl⟩,v3,hP,hO⟩
  refine Qfv (PS:=fun l' ds' m'=>ds'=[]∧Sl [.agg ⟨Qbb x⟩,.slice av ss.length cv,.pointer (some ⟨m.next,0,none⟩),undef,.string ⟨⟨[]⟩⟩,.int .i64 0,y6,y7,.pointer (some ⟨np,0,none⟩)] 130 l'∧∃ v',Prn np m' np v' ([119,111,114,108,100]++decI x.sectors++decI x.room++decU x.start++decI x.mtu++decU x.ack++decU x.retry++decI x.retries++decI x.window) (false||Qbn x.sectors||Qbn x.room||Qbn x.mtu||Qbn x.retries||Qbn x.window)∧Old np m2 m') ?_ ?_
  ·obtain⟨hX3,hp3⟩:=hold hO
   refine Qai fun Q' hQ=>?_
   simp [hts3,hX3,g0,g1,g2,g3,g4,g5,g6,g7,g8]
   refine Qao (Qad (by decide)) (Qoy hP (by have:=hO.1;omega) hp3 (by omega) hx.window (by have l0:=Qbi hx.sectors;have l1:=Qbi hx.room;have l2:=Qby hx.start;have l3:=Qbi hx.mtu;have l4:=Qby hx.ack;have l5:=Qby hx.retry;have l6:=Qbi hx.retries;simp only [Kla,Klc,Kln];omega)) ?_ (fun ch m' h=>h.elim)
   rintro r m4 ⟨v4,hP4,hO4,-⟩
   subst hQ
   exact⟨rfl,rfl,Sl.mk rfl (by simp [hts3]),v4,hP4,hO.trans hO4⟩
  clear hP hO hts3
  rintro l ds m3 ⟨rfl,⟨ts3,hts3,rfl⟩,v3,hP,hO⟩
  refine Qfv (PS:=fun l' ds' m'=>ds'=[]∧Sl [.agg ⟨Qbb x⟩,.slice av ss.length cv,.pointer (some ⟨m.next,0,none⟩),undef,.string ⟨⟨[]⟩⟩,.int .i64 0,y6,y7,.pointer (some ⟨np,0,none⟩)] 130 l'∧∃ v',Prn np m' np v' ([119,111,114,108,100]++decI x.sectors++decI x.room++decU x.start++decI x.mtu++decU x.ack++decU x.retry++decI x.retries++decI x.window++decI x.inbox) (false||Qbn x.sectors||Qbn x.room||Qbn x.mtu||Qbn x.retries||Qbn x.window||Qbn x.inbox)∧Old np m2 m') ?_ ?_
  ·obtain⟨hX3,hp3⟩:=hold hO
   refine Qai fun Q' hQ=>?_
   simp [hts3,hX3,g0,g1,g2,g3,g4,g5,g6,g7,g8]
   refine Qao (Qad (by decide)) (Qoy hP (by have:=hO.1;omega) hp3 (by omega) hx.inbox (by have l0:=Qbi hx.sectors;have l1:=Qbi hx.room;have l2:=Qby hx.start;have l3:=Qbi hx.mtu;have l4:=Qby hx.ack;have l5:=Qby hx.retry;have l6:=Qbi hx.retries;have l7:=Qbi hx.window;simp only [Kla,Klc,Kln];omega)) ?_ (fun ch m' h=>h.elim)
   rintro r m4 ⟨v4,hP4,hO4,-⟩
   subst hQ
   exact⟨rfl,rfl,Sl.mk rfl (by simp [hts3]),v4,hP4,hO.trans hO4⟩
  clear hP hO hts3
  rintro l ds m3 ⟨rfl,⟨ts3,hts3,rfl⟩,v3,hP,hO⟩
  refine Qfv (PS:=fun l' ds' m'=>ds'=[]∧Sl [.agg ⟨Qbb x⟩,.slice av ss.length cv,.pointer (some ⟨m.next,0,none⟩),undef,.string ⟨⟨[]⟩⟩,.int .i64 0,y6,y7,.pointer (some ⟨np,0,none⟩)] 130 l'∧∃ v',Prn np m' np v' (Qd7 x) (Qfa x)∧Old np m2 m') ?_ ?_
  ·obtain⟨hX3,hp3⟩:=hold hO
   refine Qai fun Q' hQ=>?_
   simp [hts3,hX3,g0,g1,g2,g3,g4,g5,g6,g7,g8]
   obtain⟨a3,hP⟩:=hP
   refine Qao (Qad (by decide)) (Qch (c:=10) hP (by have:=hO.1;omega) (by have l0:=Qbi hx.sectors;have l1:=Qbi hx.room;have l2:=Qby hx.start;have l3:=Qbi hx.mtu;have l4:=Qby hx.ack;have l5:=Qby hx.retry;have l6:=Qbi hx.retries;have l7:=Qbi hx.window;have l8:=Qbi hx.inbox;simp only [Kla,Klc,Kln];omega)) ?_ (fun ch m' h=>h.elim)
   rintro r m4 ⟨rfl,v4,hP4,hO4,-⟩
   replace hP4:Prn np m4 np v4 (Qd7 x) (Qfa x):=⟨_,by simpa only [Qd7,Qfa,Bool.false_or] using hP4⟩
   subst hQ
   exact⟨rfl,rfl,Sl.mk rfl (by simp [hts3]),v4,hP4,hO.trans hO4⟩
  clear hP hO hts3
  rintro l ds m3 ⟨rfl,⟨ts3,hts3,rfl⟩,v3,hP,hO⟩
  have hl0:=head_le hx
  refine Qfv (PS:=fun l' ds' m'=>ds'=[]∧∃ k0 v',Sl [.agg ⟨Qbb x⟩,.slice av ss.length cv,.pointer (some ⟨m.next,0,none⟩),undef,.string ⟨⟨[]⟩⟩,.int .i64 0,y6,y7,.pointer (some ⟨np,0,none⟩),.slice (some ⟨k0+108,0,none⟩) 23 23] 129 l'∧Prn np m' np v' (Qd7 x) (Qfa x)∧Old np m2 m'∧Qbq Qav m' k0∧(∀ z,k0≤z→z<k0+109→Safe m' np v' z)) ?_ ?_
  ·refine Qai fun Q' hQ=>?_
   simp [hts3]
   refine Qtc Qvt (by have:=hO.1;omega) (fun hrows=>?_)
   subst hQ
   obtain⟨x9,ts',rfl⟩:∃ x9 ts',ts3=x9::ts':=by
    match ts3,hts3 with
    |x9::ts',_=>exact⟨_,_,rfl⟩
    | [],h=>simp at h
   have hL:=Qjg m3 (Qav.map (CRow.ren 8 m3.next))
   refine⟨rfl,rfl,m3.next,v3,Sl.mk rfl (by simpa using hts3),hP.keepOld hL,hO.trans (hL.le (by have:=hO.1;omega)),hrows,fun z h1 h2=>?_⟩
   obtain⟨a3,hge,hlt,hty,hrow,hadr,hown,hne⟩:=hP
   refine⟨by rw [Qef,List.length_map];exact h2,by omega,?_⟩
   rcases hown with ⟨rfl,_⟩|⟨b,rfl,h3,h4,h5⟩
   ·intro e;cases e
   ·intro e;have e2:b=z:=Kai e;omega
  clear hP hO hts3
  rintro l ds m3 ⟨rfl,k0,v3,⟨ts3,hts3,rfl⟩,hP,hO,hrows,hsafe⟩
  have hbound:∀ k s,ss[k]? = some s→(Qd7 x++(ss.take k).flatMap Qey).length+Qi3 s≤500000300:=fun k s hk=>by
   have h1:=Qvw (ss.take k) fun y hy=>by
    obtain⟨j,hj⟩:=List.getElem?_of_mem (List.mem_of_mem_take hy)
    obtain⟨cells,_,_,h3⟩:=hs
    exact (h3 j y hj).1
   have h2:=Qrf ss hk
   simp only [Kla];omega
  refine Qfv (PS:=fun l' ds' m'=>ds'=[]∧∃ v',Sl [.agg ⟨Qbb x⟩,.slice av ss.length cv,.pointer (some ⟨m.next,0,none⟩),undef,.string ⟨⟨[]⟩⟩,.int .i64 0,y6,y7,.pointer (some ⟨np,0,none⟩)] 130 l'∧Prn np m' np v' (Qdr x ss) (Qis x ss)∧Old np m2 m') ?_ ?_
  ·refine xsr fun Q' hQ=>?_
   simp [hts3]
   subst hQ
   refine Qa1 (Qdf (N:=ss.length) (I:=fun n l ds m4=>∃ k v4,n=ss.length-k∧k≤ss.length∧ds=[]∧(∃ ts:List Value,ts.length=129∧l=[.agg ⟨Qbb x⟩,.slice av ss.length cv,.pointer (some ⟨m.next,0,none⟩),undef,.string ⟨⟨[]⟩⟩,.int .i64 0,y6,y7,.pointer (some ⟨np,0,none⟩),.slice (some ⟨k0+108,0,none⟩) 23 23]++ts∧gx ts 68=.slice av ss.length cv∧gx ts 69=.int .i64 (ss.length:Nat)∧gx ts 70=.int .i64 (k:Nat)) ∧
    Prn np m4 np v4 (Qd7 x++(ss.take k).flatMap Qey) (Qfa x||(ss.take k).any Qfy)∧Old np m2 m4∧Qbq Qav m4 k0∧(∀ z,k0≤z→z<k0+109→Safe m4 np v4 z)) ?_ ?_)
   ·exact⟨0,v3,by simp,by omega,rfl,⟨_,by simp [hts3],rfl,by simp [hts3],by simp [hts3],by simp [hts3]⟩,by simpa using hP,hO,hrows,hsafe⟩
   clear hP hO hrows hsafe hts3
   rintro n l ds m4 ⟨k,v4,rfl,hk,rfl,⟨ts,hts,rfl,g78,g79,g80⟩,hP,hO,hrows,hsafe⟩
   refine xsr fun Q' hQ=>?_
   simp [hts,g79,g80]
   subst hQ
   refine xseq (xif (v:=decide (k<ss.length)) (by simp [hts]) (fun h=>Qa2 ?_) (fun h=>Qcn ?_))
   ·simp only [decide_eq_true_eq] at h
    have hO':Old m.next m m4:=hO2.trans (hO.le (by omega))
    obtain⟨b,o,c,h1,hR,ad,dc,ac,cc,hld,hd,hc,hone,_,_⟩:=(hs.old hO').load hO'.1 (Kge h)
    have hok:=List.all_eq_true.1 hall _ (List.getElem_mem h)
    have hbd:=hbound k _ (Kge h)
    have htk:ss.take (k+1)=ss.take k++[ss[k]]:=by rw [List.take_add_one,Kge h];rfl
    simp only [Value.slice.injEq] at h1
    obtain⟨rfl,-,rfl⟩:=h1
    generalize hsk:ss[k]=s at *
    simp only [Qi3] at hbd
    replace hd:=hd.up (show m.next≤np by omega)
    replace hc:=hc.up (show m.next≤np by omega)
    obtain⟨m5,e5,n5,r5,f5⟩:=Qmg m4 36 17 [.int .i64 0,.int .i64 0,.int .i64 0,.int .u64 0,.int .u64 0,.slice none 0 0,.int .u64 0,.int .i64 0,.int .i64 0,.int .i64 0,.int .i64 0,.int .i64 0,.int .u32 0,.int .u64 0,.slice none 0 0,.int .i64 0,.int .u64 0] (Qaa s (.slice ad s.data.length dc) (.slice ac s.choices.length cc)) rfl rfl hone
    have hnp4:=hO.1
    have hOm4:=hO
    generalize hst:(.slice ad s.data.length dc:Value)=dv at *
    generalize hsc:(.slice ac s.choices.length cc:Value)=cv2 at *
    refine xseq (Qa1 (Qfv (PS:=fun l' ds' m'=>ds'=[]∧m'=m5∧(∃ ts:List Value,ts.length=129∧l'=[.agg ⟨Qbb x⟩,.slice (some ⟨b,o,none⟩) ss.length cv,.pointer (some ⟨m.next,0,none⟩),undef,.string ⟨⟨[]⟩⟩,.int .i64 0,y6,y7,.pointer (some ⟨np,0,none⟩),.slice (some ⟨k0+108,0,none⟩) 23 23]++ts∧gx ts 68=.slice (some ⟨b,o,none⟩) ss.length cv∧gx ts 69=.int .i64 (ss.length:Nat)∧gx ts 70=.int .i64 (k:Nat)∧gx ts 1=.pointer (some ⟨m4.next,0,none⟩))) ?_ ?_))
    ·refine Qai fun Q' hQ=>?_
     simp [hts,g78,g80,hld,h,hone,Qmp]
     rw [← e5]
     subst hQ
     exact⟨rfl,rfl,rfl,_,by simp [hts],rfl,by simp [hts,g78],by simp [hts,g79],by simp [hts,g80],by simp [hts]⟩
    have hk:=hok
    simp only [Qgg,Kba,Bool.or_eq_true,decide_eq_true_eq,Bool.not_eq_true',decide_eq_false_iff_not] at hk
    obtain⟨⟨hk1,hk2⟩,hk3⟩:=hk
    have hI5:PrI np k0 [(m4.next,⟨true,36,false,Qaa s dv cv2⟩)] m2 (Qd7 x++(ss.take k).flatMap Qey) (Qfa x||(ss.take k).any Qfy) m5 :=
     ⟨v4,hP.grow f5 (by omega),⟨by have:=hO.1;omega,fun z hz=>by rw [f5 z (by have:=hO.1;omega)];exact hO.2 z hz⟩,hrows.keep fun z h1 h2=>f5 z (hsafe z h1 h2).1,fun z h1 h2=>⟨by have:=(hsafe z h1 h2).1;omega,(hsafe z h1 h2).2⟩,fun q hq=>by cases List.mem_singleton.1 hq;exact⟨hP.safe_new (by omega),r5⟩⟩
    rintro l ds m6 ⟨rfl,rfl,ts5,hts5,rfl,g78,g79,g80,g11⟩
    clear r5 f5 hP hO hrows hsafe hts
    generalize hout:Qd7 x++(ss.take k).flatMap Qey=out at *
    generalize hgr:(Qfa x||(ss.take k).any Qfy)=gr at *
    refine Qfv (PS:=fun l' ds' m'=>ds'=[]∧(∃ ts:List Value,ts.length=129∧l'=[.agg ⟨Qbb x⟩,.slice (some ⟨b,o,none⟩) ss.length cv,.pointer (some ⟨m.next,0,none⟩),undef,.string ⟨⟨[]⟩⟩,.int .i64 0,y6,y7,.pointer (some ⟨np,0,none⟩),.slice (some ⟨k0+108,0,none⟩) 23 23]++ts∧gx ts 68=.slice (some ⟨b,o,none⟩) ss.length cv∧gx ts 69=.int .i64 (ss.length:Nat)∧gx ts 70=.int .i64 (k:Nat)∧gx ts 1=.pointer (some ⟨m4.next,0,none⟩))∧PrI np k0 [(m4.next,⟨true,36,false,Qaa s dv cv2⟩)] m2 (out++(if s.kind=1 then [] else Lib.itoa s.node++[32])) gr m') ?_ ?_
    ·have hv5:=hI5.get (List.mem_singleton.2 rfl)
     obtain⟨v5,hP5,hO5,hr5,hs5,hx5⟩:=hI5
     have z0:(Qaa s dv cv2)[0]? = some (.int .i64 s.kind):=rfl
     have z1:(Qaa s dv cv2)[1]? = some (.int .i64 s.node):=rfl
     refine xsr fun Q' hQ=>?_
     simp [hts5,g11,hv5,z0]
     subst hQ
     refine xif (v:=!decide (s.kind=1)) (by simp [hts5]) (fun h1=>?_) (fun h1=>Qa2 ?_)
     ·simp only [Bool.not_eq_true',decide_eq_false_iff_not] at h1
      refine xdrw 3 fun Q' hQ=>?_
      simp [hts5,g11,hv5,z1]
      refine xitoa hR.node.1 hR.node.2 ((hp.old hO2 (by omega)).old hO5 (by omega)) ?_
      have hcat:∀ (t:TypeId) (x y:Operand),binA tb m6 .add t x y (.string ⟨⟨Lib.itoa s.node⟩⟩) (.string ⟨⟨[32]⟩⟩)=some (.string ⟨⟨Lib.itoa s.node++[32]⟩⟩):=fun t x y=>b_cat t x y _ _ (by have:=Qgp hR.node;simp only [Klc,Kln];omega)
      simp [hts5,g11,hv5,z1,hcat]
      obtain⟨a5,hP5⟩:=hP5
      refine Qao (Qad (by decide)) (Qcw (s:=Lib.itoa s.node++[32]) hP5 (by have:=hO5.1;omega) (by have:=Qgp hR.node;simp only [Kla,Klc,Kln] at hbd ⊢;omega)) ?_ (fun ch m' h=>h.elim)
      rintro r m7 ⟨v7,hP7,hO7,hT7⟩
      have hI7:=PrI.two hO5 hr5 hs5 hx5 (g':=gr) ⟨_,hP7⟩ hO7 hT7
      have hv7:vw m7 m4.next=some ⟨true,36,false,Qaa s dv cv2⟩:=hI7.get (List.mem_singleton.2 rfl)
      simp [hts5,g11,hv7,z1]
      subst hQ
      exact⟨rfl,rfl,⟨_,by simp [hts5],rfl,by simp [g78],by simp [g79],by simp [g80],by simp [g11]⟩,by simpa [h1] using hI7⟩
     ·simp only [Bool.not_eq_false',decide_eq_true_eq] at h1
      exact⟨rfl,rfl,⟨_,by simp [hts5],rfl,by simp [g78],by simp [g79],by simp [g80],by simp [g11]⟩,v5,by simpa [h1] using hP5,hO5,hr5,hs5,hx5⟩
    clear hI5 hts5 g78 g79 g80 g11
    rintro l ds m6 ⟨rfl,⟨ts5,hts5,rfl,g78,g79,g80,g11⟩,hI6⟩
    obtain⟨kn,hkn⟩:∃ kn:Nat,s.kind=(kn:Int):=⟨s.kind.toNat,by omega⟩
    have hkn1:1≤kn∧kn≤22:=by omega
    have hknat:s.kind.toNat=kn:=by omega
    generalize hoA:out++(if s.kind=1 then [] else Lib.itoa s.node++[32])=oA at *
    have hoAl:oA.length≤out.length+23:=by
     rw [← hoA];have:=Qgp hR.node
     split<;>simp only [Kla,Klc,Kln]<;>omega
    refine Qfv (PS:=fun l' ds' m'=>ds'=[]∧∃ fb fs,(∃ ts:List Value,ts.length=129∧l'=[.agg ⟨Qbb x⟩,.slice (some ⟨b,o,none⟩) ss.length cv,.pointer (some ⟨m.next,0,none⟩),undef,.string ⟨⟨[]⟩⟩,.int .i64 0,y6,y7,.pointer (some ⟨np,0,none⟩),.slice (some ⟨k0+108,0,none⟩) 23 23]++ts∧gx ts 68=.slice (some ⟨b,o,none⟩) ss.length cv∧gx ts 69=.int .i64 (ss.length:Nat)∧gx ts 70=.int .i64 (k:Nat)∧gx ts 1=.pointer (some ⟨m4.next,0,none⟩)∧gx ts 2=.pointer (some ⟨fb,0,none⟩))∧PrI np k0 [(fb,⟨true,80,false,[.string ⟨⟨Qbh kn⟩⟩,fs]⟩),(m4.next,⟨true,36,false,Qaa s dv cv2⟩)] m2 oA gr m' ∧
     ((fs=.slice none 0 0∧fieldsOf kn=[])∨∃ b n cells,fs=.slice (some ⟨b,0,none⟩) n n∧(fieldsOf kn).length=n∧k0≤b∧b<k0+109∧cells.length=2*n∧∀ m',Qbq Qav m' k0→vw m' b=some ⟨true,84,false,cells⟩∧∀ j f,(fieldsOf kn)[j]? = some f→∃ rv pv,cells[2*j]? = some rv∧cells[2*j+1]? = some pv∧IsFd m' k0 rv pv f)) ?_ ?_
    ·have hv6:=hI6.get (List.mem_singleton.2 rfl)
     have hI6x:=hI6
     obtain⟨v6,hP6,hO6,hr6,hs6,hx6⟩:=hI6
     have z0:(Qaa s dv cv2)[0]? = some (.int .i64 s.kind):=rfl
     obtain⟨tab,ht1,ht2,fs,ht3,ht4⟩:=form_all hr6 hkn1.1 hkn1.2
     have htk2:Qb3 tab (kn*2) 2=[.string ⟨⟨Qbh kn⟩⟩,fs]:=Qrk ht2 ht3
     have htl:kn*2+2≤tab.length:=by have:=(Kgs.1 ht3).1;omega
     obtain⟨fa,fn,fc,rfl⟩:∃ a n c,fs=.slice a n c:=by
      rcases ht4 with ⟨rfl,_⟩|⟨_,_,_,rfl,_⟩<;>exact⟨_,_,_,rfl⟩
     obtain⟨m7,e7,n7,r7,f7⟩:=Qmg m6 80 2 [.string ⟨⟨[]⟩⟩,.slice none 0 0] [.string ⟨⟨Qbh kn⟩⟩,.slice fa fn fc] rfl rfl rfl
     have hk23:kn<23:=by omega
     refine Qai fun Q' hQ=>?_
     simp [hts5,g11,hv6,z0,hkn,hk23,ht1,htk2,htl]
     rw [← e7]
     subst hQ
     refine⟨rfl,rfl,m6.next,_,⟨_,by simp [hts5],rfl,by simp [g78],by simp [g79],by simp [g80],by simp [g11],by simp [hts5]⟩,hI6x.new f7 (by omega) r7,ht4⟩
    clear hI6 hts5 g78 g79 g80 g11
    rintro l ds m6 ⟨rfl,fb,fs,⟨ts5,hts5,rfl,g78,g79,g80,g11,g12⟩,hI6,hfs⟩
    have hfb:=hI6.get (List.mem_cons_self ..)
    obtain⟨v6,hP6,hO6,hr6,hs6,hx6⟩:=hI6
    refine Qfv (PS:=fun l' ds' m'=>ds'=[]∧(∃ ts:List Value,ts.length=129∧l'=[.agg ⟨Qbb x⟩,.slice (some ⟨b,o,none⟩) ss.length cv,.pointer (some ⟨m.next,0,none⟩),undef,.string ⟨⟨[]⟩⟩,.int .i64 0,y6,y7,.pointer (some ⟨np,0,none⟩),.slice (some ⟨k0+108,0,none⟩) 23 23]++ts∧gx ts 68=.slice (some ⟨b,o,none⟩) ss.length cv∧gx ts 69=.int .i64 (ss.length:Nat)∧gx ts 70=.int .i64 (k:Nat)∧gx ts 1=.pointer (some ⟨m4.next,0,none⟩)∧gx ts 2=.pointer (some ⟨fb,0,none⟩))∧PrI np k0 [(fb,⟨true,80,false,[.string ⟨⟨Qbh kn⟩⟩,fs]⟩),(m4.next,⟨true,36,false,Qaa s dv cv2⟩)] m2 (oA++Qbh kn) gr m') ?_ ?_
    ·have hw8:=word8 kn
     refine xdrw 2 fun Q' hQ=>?_
     simp [hts5,g12,hfb]
     obtain⟨a6,hP6⟩:=hP6
     refine Qao (Qad (by decide)) (Qcw (s:=Qbh kn) hP6 (by have:=hO6.1;omega) (by omega)) ?_ (fun ch m' h=>h.elim)
     rintro r m7 ⟨v7,hP7,hO7,hT7⟩
     have hI7:=PrI.two hO6 hr6 hs6 hx6 (g':=gr) ⟨_,hP7⟩ hO7 hT7
     subst hQ
     exact⟨rfl,rfl,⟨_,by simp [hts5],rfl,by simp [g78],by simp [g79],by simp [g80],by simp [g11],by simp [g12]⟩,hI7⟩
    clear hfb hP6 hO6 hr6 hs6 hx6 hts5 g78 g79 g80 g11 g12
    rintro l ds m6 ⟨rfl,⟨ts5,hts5,rfl,g78,g79,g80,g11,g12⟩,hI6⟩
    refine Qfv (PS:=fun l' ds' m'=>ds'=[]∧(∃ ts:List Value,ts.length=129∧l'=[.agg ⟨Qbb x⟩,.slice (some ⟨b,o,none⟩) ss.length cv,.pointer (some ⟨m.next,0,none⟩),undef,.string ⟨⟨[]⟩⟩,.int .i64 0,y6,y7,.pointer (some ⟨np,0,none⟩),.slice (some ⟨k0+108,0,none⟩) 23 23]++ts∧gx ts 68=.slice (some ⟨b,o,none⟩) ss.length cv∧gx ts 69=.int .i64 (ss.length:Nat)∧gx ts 70=.int .i64 (k:Nat)∧gx ts 1=.pointer (some ⟨m4.next,0,none⟩))∧PrI np k0 [(m4.next,⟨true,36,false,Qaa s dv cv2⟩)] m2 (oA++Qbh kn++(fieldsOf kn).flatMap fun f=>f.text s) (gr||Qfy s) m') ?_ ?_
    ·have hfb:=hI6.get (List.mem_cons_self ..)
     obtain⟨fa,fn,fc,hfs0⟩:∃ a n c,fs=.slice a n c:=by
      rcases hfs with ⟨rfl,_⟩|⟨_,_,_,rfl,_⟩<;>exact⟨_,_,_,rfl⟩
     have hfn:(fieldsOf kn).length=fn:=by
      rcases hfs with ⟨h1,h2⟩|⟨b,n,cells,h1,h2,_⟩
      ·rw [h1] at hfs0;cases hfs0;rw [h2];rfl
      ·rw [h1] at hfs0;cases hfs0;exact h2
     have hf4:=Qun kn
     subst hfs0
     refine xsr fun Q' hQ=>?_
     simp [hts5,g12,hfb]
     subst hQ
     refine Qa1 (Qdf (N:=fn) (I:=fun n l ds m'=>∃ j,n=fn-j∧j≤fn∧ds=[]∧(∃ ts:List Value,ts.length=129∧l=[.agg ⟨Qbb x⟩,.slice (some ⟨b,o,none⟩) ss.length cv,.pointer (some ⟨m.next,0,none⟩),undef,.string ⟨⟨[]⟩⟩,.int .i64 0,y6,y7,.pointer (some ⟨np,0,none⟩),.slice (some ⟨k0+108,0,none⟩) 23 23]++ts∧gx ts 68=.slice (some ⟨b,o,none⟩) ss.length cv∧gx ts 69=.int .i64 (ss.length:Nat)∧gx ts 70=.int .i64 (k:Nat)∧gx ts 1=.pointer (some ⟨m4.next,0,none⟩)∧gx ts 97=.slice fa fn fc∧gx ts 98=.int .i64 (fn:Nat)∧gx ts 99=.int .i64 (j:Nat)) ∧
      PrI np k0 [(m4.next,⟨true,36,false,Qaa s dv cv2⟩)] m2 (oA++Qbh kn++((fieldsOf kn).take j).flatMap fun f=>f.text s) (gr||((fieldsOf kn).take j).any fun f=>f.great s) m') ?_ ?_)
     ·exact⟨0,by simp,by omega,rfl,⟨_,by simp [hts5],rfl,by simp [g78],by simp [g79],by simp [g80],by simp [g11],by simp [hts5],by simp [hts5],by simp [hts5]⟩,by simpa using hI6.drop⟩
     clear hI6 hts5 g78 g79 g80 g11 g12 hfb
     rintro n l ds m6 ⟨j,rfl,hj,rfl,⟨ts5,hts5,rfl,g78,g79,g80,g11,g97,g98,g99⟩,hI6⟩
     refine xsr fun Q' hQ=>?_
     simp [hts5,g98,g99]
     subst hQ
     refine xseq (xif (v:=decide (j<fn)) (by simp [hts5]) (fun h=>Qa2 ?_) (fun h=>Qcn ?_))
     ·simp only [decide_eq_true_eq] at h
      rcases hfs with ⟨h1,h2⟩|⟨qb,n,cells,h1,h2,hq1,hq2,hq3,hq4⟩
      ·rw [h2] at hfn;simp at hfn;omega
      cases h1
      have hv6:=hI6.get (List.mem_singleton.2 rfl)
      have hfj:(fieldsOf kn)[j]? = some ((fieldsOf kn)[j]'(by omega)):=Kge _
      generalize hfd:(fieldsOf kn)[j]'(by omega)=f at hfj
      have hr6:Qbq Qav m6 k0:=hI6.choose_spec.2.2.1
      obtain⟨hqv,hqf⟩:=hq4 m6 hr6
      obtain⟨rv,pv,hrv,hpv,hisf⟩:=hqf j f hfj
      have htwo:=Qrk hrv hpv
      have hql:j*2+2≤cells.length:=by omega
      obtain⟨fn2,caps,hpv2,_⟩:=Qnw (n0:=np) (p:=np) (m:=m6) (by have:=hI6.choose_spec.2.1.1;omega) ((hp.old hO2 (by omega)).old hI6.choose_spec.2.1 (by omega)) (by omega) hisf (by have:=(hI6.choose_spec.2.2.2.1 (k0+108) (by omega) (by omega)).1;omega)
      have hrv2:∃ g2 c2,rv=.func g2 ⟨[]⟩ ⟨c2⟩:=by
       cases f<;>first
        |exact⟨_,_,hisf.1⟩
        | (obtain⟨cb,_,_,h3,_⟩:=hisf;exact⟨_,_,h3⟩)
      obtain⟨g2,c2,rfl⟩:=hrv2
      subst hpv2
      obtain⟨m7,e7,n7,r7,f7⟩:=Qmg m6 84 2 [.nilFunc,.nilFunc] [.func g2 ⟨[]⟩ ⟨c2⟩,.func (.func fn2) ⟨[]⟩ ⟨caps⟩] rfl rfl rfl
      refine xseq (Qa1 (xseq (Qai fun Q' hQ=>?_)))
      simp [hts5,g97,g99,h,hqv,htwo,hql]
      rw [← e7]
      subst hQ
      have hI7:=hI6.new f7 n7 r7
      have hv7:=hI7.get (List.mem_cons_of_mem _ (List.mem_singleton.2 rfl))
      obtain⟨v7,hP7,hO7,hr7,hs7,hx7⟩:=hI7
      have hst2:=hst
      have htj:(fieldsOf kn).take (j+1)=(fieldsOf kn).take j++[f]:=by rw [List.take_add_one,hfj];rfl
      have htl:(((fieldsOf kn).take j).flatMap fun f=>f.text s).length≤4*(25+22*s.choices.length+4*s.data.length):=by
       refine Knt (Jbd hR _) (Nat.mul_le_mul_right _ ?_)
       simp only [List.length_take];omega
      have hw8:=word8 kn
      obtain⟨rv',pv',hrv',hpv',hisf7⟩:=(hq4 m7 hr7).2 j f hfj
      rw [hrv] at hrv';rw [hpv] at hpv'
      cases hrv';cases hpv'
      obtain⟨fn3,caps3,hpe,hov,hcall⟩:=Qnw (n0:=np) (p:=np) (m:=m7) (by have:=hO7.1;omega) ((hp.old hO2 (by omega)).old hO7 (by omega)) (by omega) hisf7 (by have:=(hs7 (k0+108) (by omega) (by omega)).1;omega)
      cases hpe
      refine Qai fun Q' hQ=>?_
      simp [hts5,r7,g11,hv7,Qmp,Qb3]
      have hwayf:f=.way→s.way=1∨s.way=2:=fun e=>by
       subst e
       have:(9:Int)≤s.kind∧s.kind≤12:=by
        have hm:=List.mem_of_getElem? hfj
        have:∀ kn:Nat,Fd.way∈fieldsOf kn→9≤kn∧kn≤12:=by
         intro kn h
         unfold fieldsOf at h
         split at h<;>simp at h<;>omega
        have:=this kn hm
        omega
       rcases hk3 with (h1|h1)|h1
       ·exact absurd this h1
       ·exact .inl h1
       ·exact .inr h1
      have hEq:∀ z,z<np→m7.objs.get z=m4.objs.get z:=fun z hz=>(hO7.2 z hz).trans (hOm4.2 z hz).symm
      refine Qao hov (hcall s dv cv2 v7 _ _ hwayf hR (hd.eq hEq) (hc.eq hEq) hP7 (by simp only [Kla];omega)) ?_ (fun ch m' h=>h.elim)
      rintro r m8 ⟨v8,hP8,hO8,hT8⟩
      have hI8:=(PrI.two hO7 hr7 hs7 hx7 hP8 hO8 hT8).drop
      subst hQ
      refine Qai fun Q' hQ=>?_
      simp [hts5,g99]
      rw [wr64 _ (by omega) (by omega)]
      subst hQ
      refine⟨fn-(j+1),by omega,j+1,rfl,by omega,rfl,⟨_,by simp [hts5],rfl,by simp [g78],by simp [g79],by simp [g80],by simp [g11],by simp [g97],by simp [g98],by simp [hts5]⟩,?_⟩
      rw [htj]
      simpa [Bool.or_assoc] using hI8
     ·simp only [decide_eq_false_iff_not] at h
      obtain rfl:j=fn:=by omega
      rw [← hfn,List.take_length] at hI6
      exact⟨rfl,rfl,⟨_,by simpa using hts5,rfl,by simp [g78],by simp [g79],by simp [g80],by simp [g11]⟩,by simpa [Qfy,hknat] using hI6⟩
    clear hI6 hts5 g78 g79 g80 g11 g12
    rintro l ds m6 ⟨rfl,⟨ts5,hts5,rfl,g78,g79,g80,g11⟩,hI6⟩
    have hfl:((fieldsOf kn).flatMap fun f=>f.text s).length≤4*(25+22*s.choices.length+4*s.data.length):=Knt (Jbd hR _) (Nat.mul_le_mul_right _ (Qun kn))
    have hw8:=word8 kn
    obtain⟨v6,hP6,hO6,hr6,hs6,hx6⟩:=hI6
    refine Qai fun Q' hQ=>?_
    simp [hts5]
    obtain⟨a6,hP6⟩:=hP6
    refine Qao (Qad (by decide)) (Qch (c:=10) hP6 (by have:=hO6.1;omega) (by simp only [Kla];omega)) ?_ (fun ch m' h=>h.elim)
    rintro r m7 ⟨rfl,v7,hP7,hO7,hT7⟩
    have hI7:=PrI.two hO6 hr6 hs6 hx6 (g':=gr||Qfy s) ⟨_,hP7⟩ hO7 hT7
    obtain⟨v7,hP7,hO7,hr7,hs7,hx7⟩:=hI7
    subst hQ
    refine Qai fun Q' hQ=>?_
    simp [hts5,g80]
    rw [wr64 _ (by omega) (by omega)]
    subst hQ
    refine⟨ss.length-(k+1),by omega,k+1,v7,rfl,by omega,rfl,⟨_,by simp [hts5],rfl,by simp [g78],by simp [g79],by simp [hts5]⟩,?_,hO7,hr7,hs7⟩
    rw [htk]
    have hline:out++Qey s=oA++Qbh kn++((fieldsOf kn).flatMap fun f=>f.text s)++[10]:=by
     rw [← hoA,Qey,hknat];simp only [List.append_assoc]
    rw [List.flatMap_append,List.any_append,← List.append_assoc,← Bool.or_assoc,hout,hgr]
    simp only [List.flatMap_cons,List.flatMap_nil,List.append_nil,List.any_cons,List.any_nil,Bool.or_false]
    rw [hline];exact hP7
   ·simp only [decide_eq_false_iff_not] at h
    obtain rfl:k=ss.length:=by omega
    rw [List.take_length] at hP
    obtain⟨x9,ts',rfl⟩:∃ x9 ts',ts=x9::ts':=by
     match ts,hts with
     |x9::ts',_=>exact⟨_,_,rfl⟩
     | [],h=>simp at h
    exact⟨rfl,rfl,v4,Sl.mk rfl (by simpa using hts),hP,hO⟩
  clear hP hO hts3
  rintro l ds m3 ⟨rfl,v3,⟨ts3,hts3,rfl⟩,hP,hO⟩
  have hO':Old m.next m m3:=hO2.trans (hO.le (by omega))
  have htl:(Qdr x ss).length≤500000300:=by
   have h1:=Qvw ss fun y hy=>by
    obtain⟨j,hj⟩:=List.getElem?_of_mem hy
    obtain⟨cells,_,_,h3⟩:=hs
    exact (h3 j y hj).1
   simp only [Qdr,Kla];omega
  have htn:Qdr x ss≠[]:=by simp [Qdr,Qd7]
  have hPx:=hP
  obtain⟨a3,hP⟩:=hP
  refine xseqR (PS:=fun l' ds' m'=>ds'=[]∧m'=m3∧Qis x ss=false∧¬ 1048576<(Qdr x ss).length∧Sl [.agg ⟨Qbb x⟩,.slice av ss.length cv,.pointer (some ⟨m.next,0,none⟩),undef,.string ⟨⟨[]⟩⟩,.int .i64 0,y6,y7,.pointer (some ⟨np,0,none⟩)] 130 l')
   (PR:=fun l' ds' m'=>ds'=[]∧Old m.next m m'∧gx l' 4=.string ⟨⟨(Qd5 x ss).1⟩⟩∧gx l' 5=.int .i64 (Qd5 x ss).2) ?_ ?_ ?_
  ·refine Qa1 (xseq (Qai fun Q' hQ=>?_))
   simp [hts3,hP.row]
   subst hQ
   refine xif (v:=Qis x ss) (by simp [hts3]) (fun h=>?_) (fun h=>?_)
   ·refine xsr fun Q' hQ=>?_
    simp [hts3]
    subst hQ
    exact xret (.inr ⟨rfl,rfl,hO',by simp [gx,Qd5,hall,h],by simp [gx,Qd5,hall,h]⟩)
   ·refine xsr fun Q' hQ=>?_
    simp [hts3]
    refine Qao (Qad (by decide)) (len_ok hP) ?_ (fun ch m' h=>h.elim)
    rintro r m4 ⟨rfl,rfl⟩
    simp [hts3]
    subst hQ
    refine xif (v:=decide ((1048576:Int)<((Qdr x ss).length:Int))) (by simp [hts3]) (fun h2=>?_) (fun h2=>Qa2 ?_)
    ·simp only [decide_eq_true_eq] at h2
     replace h2:1048576<(Qdr x ss).length:=by omega
     refine xsr fun Q' hQ=>?_
     simp [hts3]
     subst hQ
     exact xret (.inr ⟨rfl,rfl,hO',by simp [gx,Qd5,hall,h,h2],by simp [gx,Qd5,hall,h,h2]⟩)
    ·simp only [decide_eq_false_iff_not] at h2
     exact .inl ⟨rfl,rfl,rfl,h,by omega,Sl.mk rfl (by simp [hts3])⟩
  ·rintro l ds m4 ⟨rfl,rfl,h1,h2,⟨ts4,hts4,rfl⟩⟩
   refine xsr fun Q' hQ=>?_
   simp [hts4]
   refine Qao (Qad (by decide)) (Qrm hP htn (by omega)) ?_ (fun ch m' h=>h.elim)
   rintro r m5 ⟨rfl,hK5,hO5⟩
   subst hQ
   refine xret ⟨rfl,_,Qc7 _ _,?_,hO'.trans (hO5.le (by omega))⟩
   simp [gx,Qd5,hall,h1,h2]
  ·rintro l ds m4 ⟨rfl,hO4,h4,h5⟩
   refine⟨rfl,_,Qc7 _ _,?_,hO4⟩
   rw [h4,h5]
 ·rintro l ds m2 ⟨rfl,hO,hno,h4,h5⟩
  refine⟨rfl,_,Qc7 _ _,?_,hO⟩
  rw [h4,h5,Qd5,if_neg hno]
end Go.Proofs.YtgmkbdmgifdfeaaGreatDoor

set_option maxRecDepth 8000
namespace Go.Proofs.YtgmkbdmgifdfeaaGreatDoor
open Go Go.Ev
theorem c29_9 {m:Mem} {v:Value} {bs:List UInt8} (h:SlAt m v bs.length (u8s bs)):Qfj tb m 29 9 v=.r (.string ⟨⟨bs⟩⟩):=by
 rcases h with ⟨rfl,h1,h2⟩|⟨b,o,c,rfl,h1,h2|⟨h2,h3⟩⟩
 ·obtain rfl:bs=[]:=List.length_eq_zero_iff.1 h1
  simp [Qfj,Qkc]
 ·obtain rfl:bs=[]:=by have:=congrArg List.length h2;simpa using this
  simp [Qfj,Qih]
 ·simp only [Qfj,Ty.ti29,Ty.ti9,Qih,Ty.d29,Ty.d9,Ty.ti5,Ty.d5]
  cases hl:bs with
  |nil=>rfl
  |cons x l =>
   simp only [Klc]
   obtain⟨e1,e2⟩:=Qt6 h2
   obtain⟨r,g1,g2,g3⟩:=e2 (by rw [Qg0,hl];simp)
   rw [Qg0,hl] at g2
   simp only [Klc] at g2
   have:Qfh m b o (l.length+1)=some ⟨⟨x::l⟩⟩:=by
    unfold Qfh
    rw [g1];simp only [oB]
    rw [g2];simp only
    rw [Qk7]
   simp only [this]
theorem len_succ {α : Type} {l:List α} {n:Nat} (h:l.length=n+1):∃ x t,l=x::t∧t.length=n:=by
 cases l with
 |nil=>cases h
 |cons x t=>exact⟨x,t,rfl,by simpa using h⟩
end Go.Proofs.YtgmkbdmgifdfeaaGreatDoor

set_option maxRecDepth 8000
namespace Go.Proofs.YtgmkbdmgifdfeaaGreatDoor
open Go Go.Ev
def Qap:Nat→List UInt8
 |1=>[110]|2=>[105,105,105]|3=>[105]|4=>[105]|5=>[105]|6=>[105,110,110,116]|7=>[105,110]|8=>[]
 |9=>[119,105]|10=>[119,105]|11=>[119,105]|12=>[119,105,105,109]|13=>[105]|14=>[99]|15=>[]
 |16=>[105]|17=>[105]|18=>[105,110]|19=>[105]|20=>[105]|21=>[105]|22=>[105,110,110]
 |_=>[]
def Qaz (k:Nat):List Value:=[.string ⟨⟨Qbh k⟩⟩,.bool (!decide (k=1)),.int .i64 (k:Int),.string ⟨⟨Qap k⟩⟩]
def rcs:List Value:=match Qe6 with|r::_=>r.cells | []=>[]
theorem Qku:rcs.length=88:=rfl
theorem rcs_row:∀ i,i<22→Qb3 rcs (i*4) 4=Qaz (i+1)
 |0,_=>rfl|1,_=>rfl|2,_=>rfl|3,_=>rfl|4,_=>rfl|5,_=>rfl|6,_=>rfl|7,_=>rfl|8,_=>rfl|9,_=>rfl|10,_=>rfl
 |11,_=>rfl|12,_=>rfl|13,_=>rfl|14,_=>rfl|15,_=>rfl|16,_=>rfl|17,_=>rfl|18,_=>rfl|19,_=>rfl|20,_=>rfl|21,_=>rfl
 |i+22,h=>absurd h (by omega)
theorem rows_vw {m:Mem} {k0:Nat} (h:Qbq Qe6 m k0):vw m k0=some ⟨true,88,false,rcs⟩:=by
 have:=h 0 _ rfl
 rw [Nat.add_zero] at this
 rw [this];rfl
end Go.Proofs.YtgmkbdmgifdfeaaGreatDoor

