/- A part of a proof: ScriptBack. -/
import Derived.Test.YtgmkbdmgifdfeaaGreatDoorD19
set_option linter.unusedVariables false
set_option linter.unusedSimpArgs false
set_option maxRecDepth 8000
namespace Go.Proofs.YtgmkbdmgifdfeaaGreatDoor
open Go Go.Ev
theorem Qyz (x:Stu):(Qai x)[0]? = some (.int .i64 x.mtu)∧(Qai x)[1]? = some (.int .u64 x.ack)∧(Qai x)[2]? = some (.int .u64 x.retry)∧(Qai x)[3]? = some (.int .i64 x.retries)∧(Qai x)[4]? = some (.int .i64 x.window)∧(Qai x)[5]? = some (.int .i64 x.inbox)∧(Qai x)[6]? = some (.int .i64 x.sectors)∧(Qai x)[7]? = some (.int .i64 x.room)∧(Qai x)[8]? = some (.int .u64 x.start):=⟨rfl,rfl,rfl,rfl,rfl,rfl,rfl,rfl,rfl⟩
theorem Qhe (ss:List Stp):400*ss.length≤Qbg ss:=by
 induction ss with
 |nil=>simp
 |cons s ss ih=>simp only [Qbg,List.map_cons,List.sum_cons,Klc,Qfe] at ih ⊢;omega
theorem Qov {n0 p:Nat} {m:Mem} {v:Value} {out:List UInt8} {g:Bool} {z:Int} (h:Prn n0 m p v out g) (hn:n0≤m.next) (hp:Qb4 m) (hp0:0<n0) (hz:i64R z) (hb:out.length≤800000000) :
  Qaw tb 27 [.pointer (some ⟨p,0,none⟩),.int .i64 z] m (retR fun r m'=>∃ v',Prn n0 m' p v' (out++decI z) (g||Qam z)∧Old n0 m m'∧Two m m' p v v') :=
 (Qpz h hn hp hp0 hz.1 hz.2 (by have:=Qfa hz;omega)).mono fun o m' ho=>by
  cases o with
  |ret r=>obtain⟨v',h1,h2⟩:=ho;exact⟨v',by simpa [decI,Qam,Bool.or_assoc] using h1,h2⟩
  |pan ch=>exact ho
theorem longD {n0 p:Nat} {m:Mem} {v:Value} {out:List UInt8} {g:Bool} {z:Int} (h:Prn n0 m p v out g) (hn:n0≤m.next) (hp:Qb4 m) (hz:u64R z) (hb:out.length≤800000000) :
  Qaw tb 28 [.pointer (some ⟨p,0,none⟩),.int .u64 z] m (retR fun r m'=>∃ v',Prn n0 m' p v' (out++decU z) g∧Old n0 m m'∧Two m m' p v v') :=
 (Qum h hn hp hz.1 hz.2 (by have:=Qn2 hz;omega)).mono fun o m' ho=>by
  cases o with
  |ret r=>obtain⟨v',h1,h2⟩:=ho;exact⟨v',by simpa [decU] using h1,h2⟩
  |pan ch=>exact ho
theorem _root_.Go.Ev.SlOld.eq {n0 n:Nat} {m m':Mem} {v:Value} {cells:List Value} (h:SlOld n0 m v n cells) (k:∀ x,x<n0→m'.objs.get x=m.objs.get x):SlOld n0 m' v n cells:=by
 rcases h with h|⟨b,o,c,rfl,h1,h2|⟨h2,h3⟩⟩
 ·exact .inl h
 ·exact .inr ⟨b,o,c,rfl,h1,.inl h2⟩
 ·exact .inr ⟨b,o,c,rfl,h1,.inr ⟨by rw [rd_get (k b h3)];exact h2,h3⟩⟩
def PrI (np k0:Nat) (xs:List (Nat × Vw)) (m2:Mem) (out:List UInt8) (g:Bool) (m':Mem):Prop :=
 ∃ v',Prn np m' np v' out g∧Old np m2 m'∧Qbl Qaq m' k0∧(∀ z,k0≤z→z<k0+109→Safe m' np v' z)∧∀ q∈xs,Safe m' np v' q.1∧vw m' q.1=some q.2
theorem PrI.two {np k0:Nat} {xs:List (Nat × Vw)} {m2 m m':Mem} {out':List UInt8} {g':Bool} {v v':Value} (hO:Old np m2 m) (hr:Qbl Qaq m k0) (hs:∀ z,k0≤z→z<k0+109→Safe m np v z) (hx:∀ q∈xs,Safe m np v q.1∧vw m q.1=some q.2)
  (hP:Prn np m' np v' out' g') (hO':Old np m m') (hT:Two m m' np v v'):PrI np k0 xs m2 out' g' m':=by
 obtain⟨h1,h2⟩:=Qvp hT hs hr
 exact⟨v',hP,hO.trans hO',h2,h1,fun q hq=>⟨(hT.safe (hx q hq).1).1,(hT.safe (hx q hq).1).2.trans (hx q hq).2⟩⟩
theorem PrI.get {np k0:Nat} {xs:List (Nat × Vw)} {m2 m:Mem} {out:List UInt8} {g:Bool} (h:PrI np k0 xs m2 out g m) {b:Nat} {V:Vw} (hm:(b,V)∈xs):vw m b=some V:=by
 obtain⟨v,_,_,_,_,hx⟩:=h
 exact (hx _ hm).2
theorem PrI.new {np k0:Nat} {xs:List (Nat × Vw)} {m2 m m':Mem} {out:List UInt8} {g:Bool} {V:Vw} (h:PrI np k0 xs m2 out g m) (k:∀ x,x<m.next→m'.objs.get x=m.objs.get x) (hx:m'.next=m.next+1) (hv:vw m' m.next=some V):PrI np k0 ((m.next,V)::xs) m2 out g m':=by
 obtain⟨v,hP,hO,hr,hs,hq⟩:=h
 have hn:np≤m.next:=by obtain⟨a,hP⟩:=hP;have:=hP.lt;omega
 obtain⟨v1,a1,a2,a3,a4,a5⟩:=PrI.two (xs:=xs) hO hr hs hq (hP.grow k (by omega)) (⟨by omega,fun x h=>k x (by omega)⟩:Old np m m') (⟨by omega,fun x h _ h2=>⟨k x h,h2⟩⟩:Two m m' np v v)
 have hT:Two m m' np v v:=⟨by omega,fun x h _ h2=>⟨k x h,h2⟩⟩
 refine⟨v,hP.grow k (by omega),a2,a3,(Qvp hT hs hr).1,fun q hm=>?_⟩
 rcases List.mem_cons.1 hm with rfl|hm
 ·exact⟨hP.safe_new (by omega),hv⟩
 ·exact⟨(hT.safe (hq q hm).1).1,(hT.safe (hq q hm).1).2.trans (hq q hm).2⟩
theorem PrI.drop {np k0:Nat} {x:Nat × Vw} {xs:List (Nat × Vw)} {m2 m:Mem} {out:List UInt8} {g:Bool} (h:PrI np k0 (x::xs) m2 out g m):PrI np k0 xs m2 out g m:=by
 obtain⟨v,a1,a2,a3,a4,a5⟩:=h
 exact⟨v,a1,a2,a3,a4,fun q hq=>a5 q (List.mem_cons_of_mem _ hq)⟩
theorem Qrp {l:List Value} {j:Nat} {x y:Value} (h1:l[2*j]? = some x) (h2:l[2*j+1]? = some y):Qbv l (j*2) 2=[x,y]:=by
 rw [show j*2=2*j from by omega]
 apply List.ext_getElem?
 intro i
 match i with
 |0=>rw [Qfs (by omega)];simpa using h1
 |1=>rw [Qfs (by omega)];simpa using h2
 |i+2 =>
  have hl:2*j+2≤l.length:=by have:=(Kgs.1 h2).1;omega
  rw [List.getElem?_eq_none (by rw [Qh1 hl];omega),List.getElem?_eq_none (by simp)]
theorem Qzp {rows:List CRow} {m m':Mem} {k0 z:Nat} (h:Qbl rows m k0) (h':Qbl rows m' k0) (h1:k0≤z) (h2:z<k0+rows.length):vw m' z=vw m z:=by
 have hj:rows[z-k0]? = some (rows[z-k0]'(by omega)):=Kge _
 have e1:=h _ _ hj
 have e2:=h' _ _ hj
 rw [show k0+(z-k0)=z from by omega] at e1 e2
 rw [e1,e2]
theorem IsFd.eq {m m':Mem} {k0:Nat} {rv pv:Value} {f:Fd} (h:IsFd m k0 rv pv f) (k:∀ z,k0≤z→z<k0+109→vw m' z=vw m z):IsFd m' k0 rv pv f:=by
 cases f<;>first
  |exact h
  | (obtain⟨cb,h1,h2,h3,h4,h5⟩:=h;exact⟨cb,h1,h2,h3,h4,by rw [k cb h1 h2];exact h5⟩)
theorem form_all {m:Mem} {k0:Nat} (h:Qbl Qaq m k0) {kind:Nat} (h1:1≤kind) (h2:kind≤22):∃ tab,vw m (k0+108)=some ⟨true,80,false,tab⟩∧tab[2*kind]? = some (.string ⟨⟨Qay kind⟩⟩)∧∃ fs,tab[2*kind+1]? = some fs ∧
  ((fs=.slice none 0 0∧fieldsOf kind=[])∨∃ b n cells,fs=.slice (some ⟨b,0,none⟩) n n∧(fieldsOf kind).length=n∧k0≤b∧b<k0+109∧cells.length=2*n∧∀ m',Qbl Qaq m' k0→vw m' b=some ⟨true,84,false,cells⟩∧∀ j f,(fieldsOf kind)[j]? = some f→∃ rv pv,cells[2*j]? = some rv∧cells[2*j+1]? = some pv∧IsFd m' k0 rv pv f):=by
 obtain⟨tab,g1,g2,fs,g3,g4⟩:=Ja8 h h1 h2
 refine⟨tab,g1,g2,fs,g3,g4.imp id ?_⟩
 rintro⟨b,n,cells,e1,e2,e3,e4,e5,e6,e7⟩
 refine⟨b,n,cells,e1,e2,e3,e4,e6,fun m' h'=>⟨by rw [Qzp h h' e3 e4];exact e5,fun j f hj=>?_⟩⟩
 obtain⟨rv,pv,i1,i2,i3⟩:=e7 j f hj
 exact⟨rv,pv,i1,i2,i3.eq fun z z1 z2=>Qzp h h' z1 z2⟩
theorem Qqf {m:Mem} {v:Value} {x:Stu} {ss:List Stp} (hm:8≤m.next) (hp:Qb4 m) (hx:x.R) (hs:Qbx m.next m v ss) (hb:Qbg ss≤500000000) :
  Qaw tb 13 [.agg ⟨Qai x⟩,v] m (retR fun r m'=>r=.tuple ⟨[.string ⟨⟨(Qa8 x ss).1⟩⟩,.int .i64 (Qa8 x ss).2]⟩∧Old m.next m m'):=by
 have hwl:=Qhe ss
 obtain⟨av,cv,rfl⟩:=hs.shape
 refine Qa5 Tryz.func13 e13 rfl rfl ?_
 simp only [s13,List.replicate,Klc,Kln,Kca,Kna,Nat.reduceAdd,Nat.reduceSub]
 refine Qb0 (PS:=fun l' ds' m1=>ds'=[]∧Sl [.agg ⟨Qai x⟩,.slice av ss.length cv,.pointer (some ⟨m.next,0,none⟩),undef,.string ⟨⟨[]⟩⟩,.int .i64 0] 133 l'∧vw m1 m.next=some ⟨true,26,false,Qai x⟩∧m1.next=m.next+1∧Old m.next m m1) ?_ ?_
 ·refine Qal fun Q' hQ=>?_
  simp
  subst hQ
  exact⟨rfl,rfl,Sl.mk rfl rfl,by rw [Qcs,if_pos rfl];exact Qcj _ _ _,by rw [Qaf],(Old.refl _ _).new (Knr _) _⟩
 rintro l ds m1 ⟨rfl,⟨ts,hts,rfl⟩,hX,hN1,hO1⟩
 refine Qtn (PS:=fun l' ds' m'=>ds'=[]∧Sl [.agg ⟨Qai x⟩,.slice av ss.length cv,.pointer (some ⟨m.next,0,none⟩),undef,.string ⟨⟨[]⟩⟩,.int .i64 0] 133 l'∧vw m' m.next=some ⟨true,26,false,Qai x⟩∧Old m.next m m'∧ss.all Qbr=true∧m.next<m'.next)
  (PR:=fun l' ds' m'=>ds'=[]∧Old m.next m m'∧¬ ss.all Qbr=true∧gx l' 4=.string ⟨⟨[]⟩⟩∧gx l' 5=.int .i64 202) ?_ ?_ ?_
 ·refine xsr fun Q' hQ=>?_
  simp [hts]
  subst hQ
  refine Qax (Qem (N:=ss.length) (I:=fun n l ds m2=>∃ k y7,n=ss.length-k∧k≤ss.length∧ds=[]∧(∃ ts:List Value,ts.length=133∧l=[.agg ⟨Qai x⟩,.slice av ss.length cv,.pointer (some ⟨m.next,0,none⟩),undef,.string ⟨⟨[]⟩⟩,.int .i64 0]++ts∧gx ts 9=.slice av ss.length cv∧gx ts 10=.int .i64 (ss.length:Nat)∧gx ts 11=.int .i64 (k:Nat)) ∧
   vw m2 m.next=some ⟨true,26,false,Qai x⟩∧Old m.next m m2∧m.next<m2.next∧(ss.take k).all Qbr=true∧y7=undef) ?_ ?_)
  ·exact⟨0,undef,by simp,by omega,rfl,⟨_,by simp [hts],rfl,by simp [hts],by simp [hts],by simp [hts]⟩,hX,hO1,by omega,by simp,rfl⟩
  rintro n l ds m2 ⟨k,y7,rfl,hk,rfl,⟨ts,hts,rfl,g15,g16,g17⟩,hX2,hO2,hN2,hall,rfl⟩
  refine xsr fun Q' hQ=>?_
  simp [hts,g16,g17]
  subst hQ
  refine xseq (xif (v:=decide (k<ss.length)) (by simp [hts]) (fun h=>Qbd ?_) (fun h=>Qdy ?_))
  ·simp only [decide_eq_true_eq] at h
   obtain⟨b,o,c,h1,hR,ad,dc,ac,cc,hld,hd,hc,hone,_,_⟩:=(hs.old hO2).load hO2.1 (Kge h)
   simp only [Value.slice.injEq] at h1
   obtain⟨rfl,-,rfl⟩:=h1
   generalize hsk:ss[k]=s at *
   obtain⟨m3,e3,n3,r3,f3⟩:=Qgh m2 36 17 [.int .i64 0,.int .i64 0,.int .i64 0,.int .u64 0,.int .u64 0,.slice none 0 0,.int .u64 0,.int .i64 0,.int .i64 0,.int .i64 0,.int .i64 0,.int .i64 0,.int .u32 0,.int .u64 0,.slice none 0 0,.int .i64 0,.int .u64 0] (Qaa s (.slice ad s.data.length dc) (.slice ac s.choices.length cc)) rfl rfl hone
   refine xseq (Qax (xseq (Qal fun Q' hQ=>?_)))
   simp [hts,g15,g17,hld,h,hone,Qd5]
   rw [← e3]
   subst hQ
   have hsafe:∀ x,x<m2.next→vw m3 x=vw m2 x:=fun x hx=>by unfold vw;rw [f3 x hx]
   have hO3:Old m.next m m3:=⟨by have:=hO2.1;omega,fun x hx=>by rw [f3 x (by have:=hO2.1;omega)];exact hO2.2 x hx⟩
   have htk:ss.take (k+1)=ss.take k++[s]:=by rw [List.take_add_one,Kge h,hsk];rfl
   refine xsr fun Q' hQ=>?_
   simp [hts,r3,Qd5,Qbv]
   refine Qak (Qad (by decide)) Qr3 ?_ (fun ch m' h=>h.elim)
   rintro r m4 ⟨rfl,hO4⟩
   simp [hts]
   subst hQ
   have hX4:vw m4 m.next=some ⟨true,26,false,Qai x⟩:=by rw [hO4.vw (by omega),hsafe _ hN2];exact hX2
   refine xif (v:=!Qbr s) (by simp [hts]) (fun hno=>?_) (fun hok=>Qbd ?_)
   ·simp only [Bool.not_eq_true'] at hno
    refine xsr fun Q' hQ=>?_
    simp [hts]
    subst hQ
    refine xret (.inr ⟨rfl,rfl,hO3.trans (hO4.le (by have:=hO3.1;omega)),?_,by simp [gx],by simp [gx]⟩)
    intro hA
    have:=List.all_eq_true.1 hA s (by rw [← hsk];exact List.getElem_mem h)
    rw [hno] at this;cases this
   ·simp only [Bool.not_eq_false'] at hok
    refine Qal fun Q' hQ=>?_
    simp [hts,g17]
    rw [wr64 _ (by omega) (by omega)]
    subst hQ
    exact⟨ss.length-(k+1),by omega,k+1,undef,rfl,by omega,rfl,⟨_,by simp [hts],rfl,by simp [hts,g15],by simp [hts,g16],by simp [hts]⟩,hX4,hO3.trans (hO4.le (by have:=hO3.1;omega)),by have:=hO4.1;omega,by rw [htk];simp [hall,hok],rfl⟩
  ·simp only [decide_eq_false_iff_not] at h
   obtain rfl:k=ss.length:=by omega
   rw [List.take_length] at hall
   exact .inl ⟨rfl,rfl,Sl.mk rfl (by simp [hts]),hX2,hO2,hall,hN2⟩
 ·rintro l ds m2 ⟨rfl,⟨ts,hts,rfl⟩,hX2,hO2,hall,hN2⟩
  clear hX hO1 hN1
  have hK:∀ x,x<m2.next→x<m2.next:=fun x h=>h
  obtain⟨g0,g1,g2,g3,g4,g5,g6,g7,g8⟩:=Qyz x
  generalize hnp:m2.next=np at *
  refine Qb0 (PS:=fun l' ds' m'=>ds'=[]∧(∃ y6 y7,Sl [.agg ⟨Qai x⟩,.slice av ss.length cv,.pointer (some ⟨m.next,0,none⟩),undef,.string ⟨⟨[]⟩⟩,.int .i64 0,y6,y7,.pointer (some ⟨np,0,none⟩)] 130 l')∧∃ v',Prn np m' np v' [] false∧Old np m2 m') ?_ ?_
  ·refine Qal fun Q' hQ=>?_
   simp [hts,hnp]
   subst hQ
   obtain⟨x6,x7,x8,ts',rfl⟩:∃ x6 x7 x8 ts',ts=x6::x7::x8::ts':=by
    match ts,hts with
    |x6::x7::x8::ts',_=>exact⟨_,_,_,_,rfl⟩
    | [],h=>simp at h
    | [_],h=>simp at h
    | [_,_],h=>simp at h
   refine⟨rfl,rfl,⟨_,_,Sl.mk rfl (by simpa using hts)⟩,.slice none 0 0,⟨.pointer none,Knr _,by rw [Qaf];omega,bld67,by rw [Qcs,if_pos hnp.symm];exact Qcj _ _ _,.inl rfl,.inl ⟨rfl,rfl,rfl⟩,by intro e;cases e⟩,(Old.refl _ _).new (by omega) _⟩
  rintro l ds m3 ⟨rfl,⟨y6,y7,ts3,hts3,rfl⟩,v3,hP,hO⟩
  have hold:∀ {m':Mem},Old np m2 m'→vw m' m.next=some ⟨true,26,false,Qai x⟩∧Qb4 m':=fun h=>⟨by rw [h.vw hN2];exact hX2,(hp.old hO2 (by omega)).old h (by omega)⟩
  clear hts
  refine Qb0 (PS:=fun l' ds' m'=>ds'=[]∧Sl [.agg ⟨Qai x⟩,.slice av ss.length cv,.pointer (some ⟨m.next,0,none⟩),undef,.string ⟨⟨[]⟩⟩,.int .i64 0,y6,y7,.pointer (some ⟨np,0,none⟩)] 130 l'∧∃ v',Prn np m' np v' ([119,111,114,108,100]) (false)∧Old np m2 m') ?_ ?_
  ·obtain⟨hX3,hp3⟩:=hold hO
   refine Qal fun Q' hQ=>?_
   simp [hts3,hX3,g0,g1,g2,g3,g4,g5,g6,g7,g8]
   obtain⟨a3,hP⟩:=hP
   refine Qak (Qad (by decide)) (Qcq (s:=[119,111,114,108,100]) hP (by have:=hO.1;omega) (by simp)) ?_ (fun ch m' h=>h.elim)
   rintro r m4 ⟨v4,hP4,hO4,-⟩
   replace hP4:Prn np m4 np v4 [119,111,114,108,100] false:=⟨_,hP4⟩
   subst hQ
   exact⟨rfl,rfl,Sl.mk rfl (by simp [hts3]),v4,hP4,hO.trans hO4⟩
  clear hP hO hts3
  rintro l ds m3 ⟨rfl,⟨ts3,hts3,rfl⟩,v3,hP,hO⟩
  refine Qb0 (PS:=fun l' ds' m'=>ds'=[]∧Sl [.agg ⟨Qai x⟩,.slice av ss.length cv,.pointer (some ⟨m.next,0,none⟩),undef,.string ⟨⟨[]⟩⟩,.int .i64 0,y6,y7,.pointer (some ⟨np,0,none⟩)] 130 l'∧∃ v',Prn np m' np v' ([119,111,114,108,100]++decI x.sectors) (false||Qam x.sectors)∧Old np m2 m') ?_ ?_
  ·obtain⟨hX3,hp3⟩:=hold hO
   refine Qal fun Q' hQ=>?_
   simp [hts3,hX3,g0,g1,g2,g3,g4,g5,g6,g7,g8]
   refine Qak (Qad (by decide)) (Qov hP (by have:=hO.1;omega) hp3 (by omega) hx.sectors (by simp only [Kla,Klc,Kln];omega)) ?_ (fun ch m' h=>h.elim)
   rintro r m4 ⟨v4,hP4,hO4,-⟩
   subst hQ
   exact⟨rfl,rfl,Sl.mk rfl (by simp [hts3]),v4,hP4,hO.trans hO4⟩
  clear hP hO hts3
  rintro l ds m3 ⟨rfl,⟨ts3,hts3,rfl⟩,v3,hP,hO⟩
  refine Qb0 (PS:=fun l' ds' m'=>ds'=[]∧Sl [.agg ⟨Qai x⟩,.slice av ss.length cv,.pointer (some ⟨m.next,0,none⟩),undef,.string ⟨⟨[]⟩⟩,.int .i64 0,y6,y7,.pointer (some ⟨np,0,none⟩)] 130 l'∧∃ v',Prn np m' np v' ([119,111,114,108,100]++decI x.sectors++decI x.room) (false||Qam x.sectors||Qam x.room)∧Old np m2 m') ?_ ?_
  ·obtain⟨hX3,hp3⟩:=hold hO
   refine Qal fun Q' hQ=>?_
   simp [hts3,hX3,g0,g1,g2,g3,g4,g5,g6,g7,g8]
   refine Qak (Qad (by decide)) (Qov hP (by have:=hO.1;omega) hp3 (by omega) hx.room (by have l0:=Qac hx.sectors;simp only [Kla,Klc,Kln];omega)) ?_ (fun ch m' h=>h.elim)
   rintro r m4 ⟨v4,hP4,hO4,-⟩
   subst hQ
   exact⟨rfl,rfl,Sl.mk rfl (by simp [hts3]),v4,hP4,hO.trans hO4⟩
  clear hP hO hts3
  rintro l ds m3 ⟨rfl,⟨ts3,hts3,rfl⟩,v3,hP,hO⟩
  refine Qb0 (PS:=fun l' ds' m'=>ds'=[]∧Sl [.agg ⟨Qai x⟩,.slice av ss.length cv,.pointer (some ⟨m.next,0,none⟩),undef,.string ⟨⟨[]⟩⟩,.int .i64 0,y6,y7,.pointer (some ⟨np,0,none⟩)] 130 l'∧∃ v',Prn np m' np v' ([119,111,114,108,100]++decI x.sectors++decI x.room++decU x.start) (false||Qam x.sectors||Qam x.room)∧Old np m2 m') ?_ ?_
  ·obtain⟨hX3,hp3⟩:=hold hO
   refine Qal fun Q' hQ=>?_
   simp [hts3,hX3,g0,g1,g2,g3,g4,g5,g6,g7,g8]
   refine Qak (Qad (by decide)) (longD hP (by have:=hO.1;omega) hp3 hx.start (by have l0:=Qac hx.sectors;have l1:=Qac hx.room;simp only [Kla,Klc,Kln];omega)) ?_ (fun ch m' h=>h.elim)
   rintro r m4 ⟨v4,hP4,hO4,-⟩
   subst hQ
   exact⟨rfl,rfl,Sl.mk rfl (by simp [hts3]),v4,hP4,hO.trans hO4⟩
  clear hP hO hts3
  rintro l ds m3 ⟨rfl,⟨ts3,hts3,rfl⟩,v3,hP,hO⟩
  refine Qb0 (PS:=fun l' ds' m'=>ds'=[]∧Sl [.agg ⟨Qai x⟩,.slice av ss.length cv,.pointer (some ⟨m.next,0,none⟩),undef,.string ⟨⟨[]⟩⟩,.int .i64 0,y6,y7,.pointer (some ⟨np,0,none⟩)] 130 l'∧∃ v',Prn np m' np v' ([119,111,114,108,100]++decI x.sectors++decI x.room++decU x.start++decI x.mtu) (false||Qam x.sectors||Qam x.room||Qam x.mtu)∧Old np m2 m') ?_ ?_
  ·obtain⟨hX3,hp3⟩:=hold hO
   refine Qal fun Q' hQ=>?_
   simp [hts3,hX3,g0,g1,g2,g3,g4,g5,g6,g7,g8]
   refine Qak (Qad (by decide)) (Qov hP (by have:=hO.1;omega) hp3 (by omega) hx.mtu (by have l0:=Qac hx.sectors;have l1:=Qac hx.room;have l2:=Qab hx.start;simp only [Kla,Klc,Kln];omega)) ?_ (fun ch m' h=>h.elim)
   rintro r m4 ⟨v4,hP4,hO4,-⟩
   subst hQ
   exact⟨rfl,rfl,Sl.mk rfl (by simp [hts3]),v4,hP4,hO.trans hO4⟩
  clear hP hO hts3
  rintro l ds m3 ⟨rfl,⟨ts3,hts3,rfl⟩,v3,hP,hO⟩
  refine Qb0 (PS:=fun l' ds' m'=>ds'=[]∧Sl [.agg ⟨Qai x⟩,.slice av ss.length cv,.pointer (some ⟨m.next,0,none⟩),undef,.string ⟨⟨[]⟩⟩,.int .i64 0,y6,y7,.pointer (some ⟨np,0,none⟩)] 130 l'∧∃ v',Prn np m' np v' ([119,111,114,108,100]++decI x.sectors++decI x.room++decU x.start++decI x.mtu++decU x.ack) (false||Qam x.sectors||Qam x.room||Qam x.mtu)∧Old np m2 m') ?_ ?_
  ·obtain⟨hX3,hp3⟩:=hold hO
   refine Qal fun Q' hQ=>?_
   simp [hts3,hX3,g0,g1,g2,g3,g4,g5,g6,g7,g8]
   refine Qak (Qad (by decide)) (longD hP (by have:=hO.1;omega) hp3 hx.ack (by have l0:=Qac hx.sectors;have l1:=Qac hx.room;have l2:=Qab hx.start;have l3:=Qac hx.mtu;simp only [Kla,Klc,Kln];omega)) ?_ (fun ch m' h=>h.elim)
   rintro r m4 ⟨v4,hP4,hO4,-⟩
   subst hQ
   exact⟨rfl,rfl,Sl.mk rfl (by simp [hts3]),v4,hP4,hO.trans hO4⟩
  clear hP hO hts3
  rintro l ds m3 ⟨rfl,⟨ts3,hts3,rfl⟩,v3,hP,hO⟩
  refine Qb0 (PS:=fun l' ds' m'=>ds'=[]∧Sl [.agg ⟨Qai x⟩,.slice av ss.length cv,.pointer (some ⟨m.next,0,none⟩),undef,.string ⟨⟨[]⟩⟩,.int .i64 0,y6,y7,.pointer (some ⟨np,0,none⟩)] 130 l'∧∃ v',Prn np m' np v' ([119,111,114,108,100]++decI x.sectors++decI x.room++decU x.start++decI x.mtu++decU x.ack++decU x.retry) (false||Qam x.sectors||Qam x.room||Qam x.mtu)∧Old np m2 m') ?_ ?_
  ·obtain⟨hX3,hp3⟩:=hold hO
   refine Qal fun Q' hQ=>?_
   simp [hts3,hX3,g0,g1,g2,g3,g4,g5,g6,g7,g8]
   refine Qak (Qad (by decide)) (longD hP (by have:=hO.1;omega) hp3 hx.retry (by have l0:=Qac hx.sectors;have l1:=Qac hx.room;have l2:=Qab hx.start;have l3:=Qac hx.mtu;have l4:=Qab hx.ack;simp only [Kla,Klc,Kln];omega)) ?_ (fun ch m' h=>h.elim)
   rintro r m4 ⟨v4,hP4,hO4,-⟩
   subst hQ
   exact⟨rfl,rfl,Sl.mk rfl (by simp [hts3]),v4,hP4,hO.trans hO4⟩
  clear hP hO hts3
  rintro l ds m3 ⟨rfl,⟨ts3,hts3,rfl⟩,v3,hP,hO⟩
  refine Qb0 (PS:=fun l' ds' m'=>ds'=[]∧Sl [.agg ⟨Qai x⟩,.slice av ss.length cv,.pointer (some ⟨m.next,0,none⟩),undef,.string ⟨⟨[]⟩⟩,.int .i64 0,y6,y7,.pointer (some ⟨np,0,none⟩)] 130 l'∧∃ v',Prn np m' np v' ([119,111,114,108,100]++decI x.sectors++decI x.room++decU x.start++decI x.mtu++decU x.ack++decU x.retry++decI x.retries) (false||Qam x.sectors||Qam x.room||Qam x.mtu||Qam x.retries)∧Old np m2 m') ?_ ?_
  ·obtain⟨hX3,hp3⟩:=hold hO
   refine Qal fun Q' hQ=>?_
   simp [hts3,hX3,g0,g1,g2,g3,g4,g5,g6,g7,g8]
   refine Qak (Qad (by decide)) (Qov hP (by have:=hO.1;omega) hp3 (by omega) hx.retries (by have l0:=Qac hx.sectors;have l1:=Qac hx.room;have l2:=Qab hx.start;have l3:=Qac hx.mtu;have l4:=Qab hx.ack;have l5:=Qab hx.retry;simp only [Kla,Klc,Kln];omega)) ?_ (fun ch m' h=>h.elim)
   rintro r m4 ⟨v4,hP4,hO4,-⟩
   subst hQ
   exact⟨rfl,rfl,Sl.mk rfl (by simp [hts3]),v4,hP4,hO.trans hO4⟩
  clear hP hO hts3
  rintro l ds m3 ⟨rfl,⟨ts3,hts3,rfl⟩,v3,hP,hO⟩
  refine Qb0 (PS:=fun l' ds' m'=>ds'=[]∧Sl [.agg ⟨Qai x⟩,.slice av ss.length cv,.pointer (some ⟨m.next,0,none⟩),undef,.string ⟨⟨[]⟩⟩,.int .i64 0,y6,y7,.pointer (some ⟨np,0,none⟩)] 130 l'∧∃ v',Prn np m' np v' ([119,111,114,108,100]++decI x.sectors++decI x.room++decU x.start++decI x.mtu++decU x.ack++decU x.retry++decI x.retries++decI x.window) (false||Qam x.sectors||Qam x.room||Qam x.mtu||Qam x.retries||Qam x.window)∧Old np m2 m') ?_ ?_
  ·obtain⟨hX3,hp3⟩:=hold hO
   refine Qal fun Q' hQ=>?_
   simp [hts3,hX3,g0,g1,g2,g3,g4,g5,g6,g7,g8]
   refine Qak (Qad (by decide)) (Qov hP (by have:=hO.1;omega) hp3 (by omega) hx.window (by have l0:=Qac hx.sectors;have l1:=Qac hx.room;have l2:=Qab hx.start;have l3:=Qac hx.mtu;have l4:=Qab hx.ack;have l5:=Qab hx.retry;have l6:=Qac hx.retries;simp only [Kla,Klc,Kln];omega)) ?_ (fun ch m' h=>h.elim)
   rintro r m4 ⟨v4,hP4,hO4,-⟩
   subst hQ
   exact⟨rfl,rfl,Sl.mk rfl (by simp [hts3]),v4,hP4,hO.trans hO4⟩
  clear hP hO hts3
  rintro l ds m3 ⟨rfl,⟨ts3,hts3,rfl⟩,v3,hP,hO⟩
  refine Qb0 (PS:=fun l' ds' m'=>ds'=[]∧Sl [.agg ⟨Qai x⟩,.slice av ss.length cv,.pointer (some ⟨m.next,0,none⟩),undef,.string ⟨⟨[]⟩⟩,.int .i64 0,y6,y7,.pointer (some ⟨np,0,none⟩)] 130 l'∧∃ v',Prn np m' np v' ([119,111,114,108,100]++decI x.sectors++decI x.room++decU x.start++decI x.mtu++decU x.ack++decU x.retry++decI x.retries++decI x.window++decI x.inbox) (false||Qam x.sectors||Qam x.room||Qam x.mtu||Qam x.retries||Qam x.window||Qam x.inbox)∧Old np m2 m') ?_ ?_
  ·obtain⟨hX3,hp3⟩:=hold hO
   refine Qal fun Q' hQ=>?_
   simp [hts3,hX3,g0,g1,g2,g3,g4,g5,g6,g7,g8]
   refine Qak (Qad (by decide)) (Qov hP (by have:=hO.1;omega) hp3 (by omega) hx.inbox (by have l0:=Qac hx.sectors;have l1:=Qac hx.room;have l2:=Qab hx.start;have l3:=Qac hx.mtu;have l4:=Qab hx.ack;have l5:=Qab hx.retry;have l6:=Qac hx.retries;have l7:=Qac hx.window;simp only [Kla,Klc,Kln];omega)) ?_ (fun ch m' h=>h.elim)
   rintro r m4 ⟨v4,hP4,hO4,-⟩
   subst hQ
   exact⟨rfl,rfl,Sl.mk rfl (by simp [hts3]),v4,hP4,hO.trans hO4⟩
  clear hP hO hts3
  rintro l ds m3 ⟨rfl,⟨ts3,hts3,rfl⟩,v3,hP,hO⟩
  refine Qb0 (PS:=fun l' ds' m'=>ds'=[]∧Sl [.agg ⟨Qai x⟩,.slice av ss.length cv,.pointer (some ⟨m.next,0,none⟩),undef,.string ⟨⟨[]⟩⟩,.int .i64 0,y6,y7,.pointer (some ⟨np,0,none⟩)] 130 l'∧∃ v',Prn np m' np v' (Qcg x) (Qcd x)∧Old np m2 m') ?_ ?_
  ·obtain⟨hX3,hp3⟩:=hold hO
   refine Qal fun Q' hQ=>?_
   simp [hts3,hX3,g0,g1,g2,g3,g4,g5,g6,g7,g8]
   obtain⟨a3,hP⟩:=hP
   refine Qak (Qad (by decide)) (Qch (c:=10) hP (by have:=hO.1;omega) (by have l0:=Qac hx.sectors;have l1:=Qac hx.room;have l2:=Qab hx.start;have l3:=Qac hx.mtu;have l4:=Qab hx.ack;have l5:=Qab hx.retry;have l6:=Qac hx.retries;have l7:=Qac hx.window;have l8:=Qac hx.inbox;simp only [Kla,Klc,Kln];omega)) ?_ (fun ch m' h=>h.elim)
   rintro r m4 ⟨rfl,v4,hP4,hO4,-⟩
   replace hP4:Prn np m4 np v4 (Qcg x) (Qcd x):=⟨_,by simpa only [Qcg,Qcd,Bool.false_or] using hP4⟩
   subst hQ
   exact⟨rfl,rfl,Sl.mk rfl (by simp [hts3]),v4,hP4,hO.trans hO4⟩
  clear hP hO hts3
  rintro l ds m3 ⟨rfl,⟨ts3,hts3,rfl⟩,v3,hP,hO⟩
  have hl0:=Ja4 hx
  refine Qb0 (PS:=fun l' ds' m'=>ds'=[]∧∃ k0 v',Sl [.agg ⟨Qai x⟩,.slice av ss.length cv,.pointer (some ⟨m.next,0,none⟩),undef,.string ⟨⟨[]⟩⟩,.int .i64 0,y6,y7,.pointer (some ⟨np,0,none⟩),.slice (some ⟨k0+108,0,none⟩) 23 23] 129 l'∧Prn np m' np v' (Qcg x) (Qcd x)∧Old np m2 m'∧Qbl Qaq m' k0∧(∀ z,k0≤z→z<k0+109→Safe m' np v' z)) ?_ ?_
  ·refine Qal fun Q' hQ=>?_
   simp [hts3]
   refine Qto Qvw (by have:=hO.1;omega) (fun hrows=>?_)
   subst hQ
   obtain⟨x9,ts',rfl⟩:∃ x9 ts',ts3=x9::ts':=by
    match ts3,hts3 with
    |x9::ts',_=>exact⟨_,_,rfl⟩
    | [],h=>simp at h
   have hL:=Qjl m3 (Qaq.map (CRow.ren 8 m3.next))
   refine⟨rfl,rfl,m3.next,v3,Sl.mk rfl (by simpa using hts3),hP.keepOld hL,hO.trans (hL.le (by have:=hO.1;omega)),hrows,fun z h1 h2=>?_⟩
   obtain⟨a3,hge,hlt,hty,hrow,hadr,hown,hne⟩:=hP
   refine⟨by rw [Qe5,List.length_map];exact h2,by omega,?_⟩
   rcases hown with ⟨rfl,_⟩|⟨b,rfl,h3,h4,h5⟩
   ·intro e;cases e
   ·intro e;have e2:b=z:=Kai e;omega
  clear hP hO hts3
  rintro l ds m3 ⟨rfl,k0,v3,⟨ts3,hts3,rfl⟩,hP,hO,hrows,hsafe⟩
  have hbound:∀ k s,ss[k]? = some s→(Qcg x++(ss.take k).flatMap Qbo).length+Qfe s≤500000300:=fun k s hk=>by
   have h1:=Qmf (ss.take k) fun y hy=>by
    obtain⟨j,hj⟩:=List.getElem?_of_mem (List.mem_of_mem_take hy)
    obtain⟨cells,_,_,h3⟩:=hs
    exact (h3 j y hj).1
   have h2:=Qhz ss hk
   simp only [Kla];omega
  refine Qb0 (PS:=fun l' ds' m'=>ds'=[]∧∃ v',Sl [.agg ⟨Qai x⟩,.slice av ss.length cv,.pointer (some ⟨m.next,0,none⟩),undef,.string ⟨⟨[]⟩⟩,.int .i64 0,y6,y7,.pointer (some ⟨np,0,none⟩)] 130 l'∧Prn np m' np v' (Qba x ss) (Qdv x ss)∧Old np m2 m') ?_ ?_
  ·refine xsr fun Q' hQ=>?_
   simp [hts3]
   subst hQ
   refine Qax (Qem (N:=ss.length) (I:=fun n l ds m4=>∃ k v4,n=ss.length-k∧k≤ss.length∧ds=[]∧(∃ ts:List Value,ts.length=129∧l=[.agg ⟨Qai x⟩,.slice av ss.length cv,.pointer (some ⟨m.next,0,none⟩),undef,.string ⟨⟨[]⟩⟩,.int .i64 0,y6,y7,.pointer (some ⟨np,0,none⟩),.slice (some ⟨k0+108,0,none⟩) 23 23]++ts∧gx ts 68=.slice av ss.length cv∧gx ts 69=.int .i64 (ss.length:Nat)∧gx ts 70=.int .i64 (k:Nat)) ∧
    Prn np m4 np v4 (Qcg x++(ss.take k).flatMap Qbo) (Qcd x||(ss.take k).any Qbe)∧Old np m2 m4∧Qbl Qaq m4 k0∧(∀ z,k0≤z→z<k0+109→Safe m4 np v4 z)) ?_ ?_)
   ·exact⟨0,v3,by simp,by omega,rfl,⟨_,by simp [hts3],rfl,by simp [hts3],by simp [hts3],by simp [hts3]⟩,by simpa using hP,hO,hrows,hsafe⟩
   clear hP hO hrows hsafe hts3
   rintro n l ds m4 ⟨k,v4,rfl,hk,rfl,⟨ts,hts,rfl,g78,g79,g80⟩,hP,hO,hrows,hsafe⟩
   refine xsr fun Q' hQ=>?_
   simp [hts,g79,g80]
   subst hQ
   refine xseq (xif (v:=decide (k<ss.length)) (by simp [hts]) (fun h=>Qbd ?_) (fun h=>Qdy ?_))
   ·simp only [decide_eq_true_eq] at h
    have hO':Old m.next m m4:=hO2.trans (hO.le (by omega))
    obtain⟨b,o,c,h1,hR,ad,dc,ac,cc,hld,hd,hc,hone,_,_⟩:=(hs.old hO').load hO'.1 (Kge h)
    have hok:=List.all_eq_true.1 hall _ (List.getElem_mem h)
    have hbd:=hbound k _ (Kge h)
    have htk:ss.take (k+1)=ss.take k++[ss[k]]:=by rw [List.take_add_one,Kge h];rfl
    simp only [Value.slice.injEq] at h1
    obtain⟨rfl,-,rfl⟩:=h1
    generalize hsk:ss[k]=s at *
    simp only [Qfe] at hbd
    replace hd:=hd.up (show m.next≤np by omega)
    replace hc:=hc.up (show m.next≤np by omega)
    obtain⟨m5,e5,n5,r5,f5⟩:=Qgh m4 36 17 [.int .i64 0,.int .i64 0,.int .i64 0,.int .u64 0,.int .u64 0,.slice none 0 0,.int .u64 0,.int .i64 0,.int .i64 0,.int .i64 0,.int .i64 0,.int .i64 0,.int .u32 0,.int .u64 0,.slice none 0 0,.int .i64 0,.int .u64 0] (Qaa s (.slice ad s.data.length dc) (.slice ac s.choices.length cc)) rfl rfl hone
    have hnp4:=hO.1
    have hOm4:=hO
    generalize hst:(.slice ad s.data.length dc:Value)=dv at *
    generalize hsc:(.slice ac s.choices.length cc:Value)=cv2 at *
    refine xseq (Qax (Qb0 (PS:=fun l' ds' m'=>ds'=[]∧m'=m5∧(∃ ts:List Value,ts.length=129∧l'=[.agg ⟨Qai x⟩,.slice (some ⟨b,o,none⟩) ss.length cv,.pointer (some ⟨m.next,0,none⟩),undef,.string ⟨⟨[]⟩⟩,.int .i64 0,y6,y7,.pointer (some ⟨np,0,none⟩),.slice (some ⟨k0+108,0,none⟩) 23 23]++ts∧gx ts 68=.slice (some ⟨b,o,none⟩) ss.length cv∧gx ts 69=.int .i64 (ss.length:Nat)∧gx ts 70=.int .i64 (k:Nat)∧gx ts 1=.pointer (some ⟨m4.next,0,none⟩))) ?_ ?_))
    ·refine Qal fun Q' hQ=>?_
     simp [hts,g78,g80,hld,h,hone,Qd5]
     rw [← e5]
     subst hQ
     exact⟨rfl,rfl,rfl,_,by simp [hts],rfl,by simp [hts,g78],by simp [hts,g79],by simp [hts,g80],by simp [hts]⟩
    have hk:=hok
    simp only [Qbr,Kba,Bool.or_eq_true,decide_eq_true_eq,Bool.not_eq_true',decide_eq_false_iff_not] at hk
    obtain⟨⟨hk1,hk2⟩,hk3⟩:=hk
    have hI5:PrI np k0 [(m4.next,⟨true,36,false,Qaa s dv cv2⟩)] m2 (Qcg x++(ss.take k).flatMap Qbo) (Qcd x||(ss.take k).any Qbe) m5 :=
     ⟨v4,hP.grow f5 (by omega),⟨by have:=hO.1;omega,fun z hz=>by rw [f5 z (by have:=hO.1;omega)];exact hO.2 z hz⟩,hrows.keep fun z h1 h2=>f5 z (hsafe z h1 h2).1,fun z h1 h2=>⟨by have:=(hsafe z h1 h2).1;omega,(hsafe z h1 h2).2⟩,fun q hq=>by cases List.mem_singleton.1 hq;exact⟨hP.safe_new (by omega),r5⟩⟩
    rintro l ds m6 ⟨rfl,rfl,ts5,hts5,rfl,g78,g79,g80,g11⟩
    clear r5 f5 hP hO hrows hsafe hts
    generalize hout:Qcg x++(ss.take k).flatMap Qbo=out at *
    generalize hgr:(Qcd x||(ss.take k).any Qbe)=gr at *
    refine Qb0 (PS:=fun l' ds' m'=>ds'=[]∧(∃ ts:List Value,ts.length=129∧l'=[.agg ⟨Qai x⟩,.slice (some ⟨b,o,none⟩) ss.length cv,.pointer (some ⟨m.next,0,none⟩),undef,.string ⟨⟨[]⟩⟩,.int .i64 0,y6,y7,.pointer (some ⟨np,0,none⟩),.slice (some ⟨k0+108,0,none⟩) 23 23]++ts∧gx ts 68=.slice (some ⟨b,o,none⟩) ss.length cv∧gx ts 69=.int .i64 (ss.length:Nat)∧gx ts 70=.int .i64 (k:Nat)∧gx ts 1=.pointer (some ⟨m4.next,0,none⟩))∧PrI np k0 [(m4.next,⟨true,36,false,Qaa s dv cv2⟩)] m2 (out++(if s.kind=1 then [] else Lib.itoa s.node++[32])) gr m') ?_ ?_
    ·have hv5:=hI5.get (List.mem_singleton.2 rfl)
     obtain⟨v5,hP5,hO5,hr5,hs5,hx5⟩:=hI5
     have z0:(Qaa s dv cv2)[0]? = some (.int .i64 s.kind):=rfl
     have z1:(Qaa s dv cv2)[1]? = some (.int .i64 s.node):=rfl
     refine xsr fun Q' hQ=>?_
     simp [hts5,g11,hv5,z0]
     subst hQ
     refine xif (v:=!decide (s.kind=1)) (by simp [hts5]) (fun h1=>?_) (fun h1=>Qbd ?_)
     ·simp only [Bool.not_eq_true',decide_eq_false_iff_not] at h1
      refine xdrw 3 fun Q' hQ=>?_
      simp [hts5,g11,hv5,z1]
      refine xitoa hR.node.1 hR.node.2 ((hp.old hO2 (by omega)).old hO5 (by omega)) ?_
      have hcat:∀ (t:TypeId) (x y:Operand),binA tb m6 .add t x y (.string ⟨⟨Lib.itoa s.node⟩⟩) (.string ⟨⟨[32]⟩⟩)=some (.string ⟨⟨Lib.itoa s.node++[32]⟩⟩):=fun t x y=>Qf7 t x y _ _ (by have:=Qfa hR.node;simp only [Klc,Kln];omega)
      simp [hts5,g11,hv5,z1,hcat]
      obtain⟨a5,hP5⟩:=hP5
      refine Qak (Qad (by decide)) (Qcq (s:=Lib.itoa s.node++[32]) hP5 (by have:=hO5.1;omega) (by have:=Qfa hR.node;simp only [Kla,Klc,Kln] at hbd ⊢;omega)) ?_ (fun ch m' h=>h.elim)
      rintro r m7 ⟨v7,hP7,hO7,hT7⟩
      have hI7:=PrI.two hO5 hr5 hs5 hx5 (g':=gr) ⟨_,hP7⟩ hO7 hT7
      have hv7:vw m7 m4.next=some ⟨true,36,false,Qaa s dv cv2⟩:=hI7.get (List.mem_singleton.2 rfl)
      simp [hts5,g11,hv7,z1]
      subst hQ
      exact⟨rfl,rfl,⟨_,by simp [hts5],rfl,by simp [g78],by simp [g79],by simp [g80],by simp [g11]⟩,by simpa [h1] using hI7⟩
     ·simp only [Bool.not_eq_false',decide_eq_true_eq] at h1
      exact⟨rfl,rfl,⟨_,by simp [hts5],rfl,by simp [g78],by simp [g79],by simp [g80],by simp [g11]⟩,v5,by simpa [h1] using hP5,hO5,hr5,hs5,hx5⟩
    clear hI5 hts5 g78 g79 g80 g11
    rintro l ds m6 ⟨rfl,⟨ts5,hts5,rfl,g78,g79,g80,g11⟩,hI6⟩
    obtain⟨kn,hkn⟩:∃ kn:Nat,s.kind=(kn:Int):=⟨s.kind.toNat,by omega⟩
    have hkn1:1≤kn∧kn≤22:=by omega
    have hknat:s.kind.toNat=kn:=by omega
    generalize hoA:out++(if s.kind=1 then [] else Lib.itoa s.node++[32])=oA at *
    have hoAl:oA.length≤out.length+23:=by
     rw [← hoA];have:=Qfa hR.node
     split<;>simp only [Kla,Klc,Kln]<;>omega
    refine Qb0 (PS:=fun l' ds' m'=>ds'=[]∧∃ fb fs,(∃ ts:List Value,ts.length=129∧l'=[.agg ⟨Qai x⟩,.slice (some ⟨b,o,none⟩) ss.length cv,.pointer (some ⟨m.next,0,none⟩),undef,.string ⟨⟨[]⟩⟩,.int .i64 0,y6,y7,.pointer (some ⟨np,0,none⟩),.slice (some ⟨k0+108,0,none⟩) 23 23]++ts∧gx ts 68=.slice (some ⟨b,o,none⟩) ss.length cv∧gx ts 69=.int .i64 (ss.length:Nat)∧gx ts 70=.int .i64 (k:Nat)∧gx ts 1=.pointer (some ⟨m4.next,0,none⟩)∧gx ts 2=.pointer (some ⟨fb,0,none⟩))∧PrI np k0 [(fb,⟨true,80,false,[.string ⟨⟨Qay kn⟩⟩,fs]⟩),(m4.next,⟨true,36,false,Qaa s dv cv2⟩)] m2 oA gr m' ∧
     ((fs=.slice none 0 0∧fieldsOf kn=[])∨∃ b n cells,fs=.slice (some ⟨b,0,none⟩) n n∧(fieldsOf kn).length=n∧k0≤b∧b<k0+109∧cells.length=2*n∧∀ m',Qbl Qaq m' k0→vw m' b=some ⟨true,84,false,cells⟩∧∀ j f,(fieldsOf kn)[j]? = some f→∃ rv pv,cells[2*j]? = some rv∧cells[2*j+1]? = some pv∧IsFd m' k0 rv pv f)) ?_ ?_
    ·have hv6:=hI6.get (List.mem_singleton.2 rfl)
     have hI6x:=hI6
     obtain⟨v6,hP6,hO6,hr6,hs6,hx6⟩:=hI6
     have z0:(Qaa s dv cv2)[0]? = some (.int .i64 s.kind):=rfl
     obtain⟨tab,ht1,ht2,fs,ht3,ht4⟩:=form_all hr6 hkn1.1 hkn1.2
     have htk2:Qbv tab (kn*2) 2=[.string ⟨⟨Qay kn⟩⟩,fs]:=Qrp ht2 ht3
     have htl:kn*2+2≤tab.length:=by have:=(Kgs.1 ht3).1;omega
     obtain⟨fa,fn,fc,rfl⟩:∃ a n c,fs=.slice a n c:=by
      rcases ht4 with ⟨rfl,_⟩|⟨_,_,_,rfl,_⟩<;>exact⟨_,_,_,rfl⟩
     obtain⟨m7,e7,n7,r7,f7⟩:=Qgh m6 80 2 [.string ⟨⟨[]⟩⟩,.slice none 0 0] [.string ⟨⟨Qay kn⟩⟩,.slice fa fn fc] rfl rfl rfl
     have hk23:kn<23:=by omega
     refine Qal fun Q' hQ=>?_
     simp [hts5,g11,hv6,z0,hkn,hk23,ht1,htk2,htl]
     rw [← e7]
     subst hQ
     refine⟨rfl,rfl,m6.next,_,⟨_,by simp [hts5],rfl,by simp [g78],by simp [g79],by simp [g80],by simp [g11],by simp [hts5]⟩,hI6x.new f7 (by omega) r7,ht4⟩
    clear hI6 hts5 g78 g79 g80 g11
    rintro l ds m6 ⟨rfl,fb,fs,⟨ts5,hts5,rfl,g78,g79,g80,g11,g12⟩,hI6,hfs⟩
    have hfb:=hI6.get (List.mem_cons_self ..)
    obtain⟨v6,hP6,hO6,hr6,hs6,hx6⟩:=hI6
    refine Qb0 (PS:=fun l' ds' m'=>ds'=[]∧(∃ ts:List Value,ts.length=129∧l'=[.agg ⟨Qai x⟩,.slice (some ⟨b,o,none⟩) ss.length cv,.pointer (some ⟨m.next,0,none⟩),undef,.string ⟨⟨[]⟩⟩,.int .i64 0,y6,y7,.pointer (some ⟨np,0,none⟩),.slice (some ⟨k0+108,0,none⟩) 23 23]++ts∧gx ts 68=.slice (some ⟨b,o,none⟩) ss.length cv∧gx ts 69=.int .i64 (ss.length:Nat)∧gx ts 70=.int .i64 (k:Nat)∧gx ts 1=.pointer (some ⟨m4.next,0,none⟩)∧gx ts 2=.pointer (some ⟨fb,0,none⟩))∧PrI np k0 [(fb,⟨true,80,false,[.string ⟨⟨Qay kn⟩⟩,fs]⟩),(m4.next,⟨true,36,false,Qaa s dv cv2⟩)] m2 (oA++Qay kn) gr m') ?_ ?_
    ·have hw8:=Qyk kn
     refine xdrw 2 fun Q' hQ=>?_
     simp [hts5,g12,hfb]
     obtain⟨a6,hP6⟩:=hP6
     refine Qak (Qad (by decide)) (Qcq (s:=Qay kn) hP6 (by have:=hO6.1;omega) (by omega)) ?_ (fun ch m' h=>h.elim)
     rintro r m7 ⟨v7,hP7,hO7,hT7⟩
     have hI7:=PrI.two hO6 hr6 hs6 hx6 (g':=gr) ⟨_,hP7⟩ hO7 hT7
     subst hQ
     exact⟨rfl,rfl,⟨_,by simp [hts5],rfl,by simp [g78],by simp [g79],by simp [g80],by simp [g11],by simp [g12]⟩,hI7⟩
    clear hfb hP6 hO6 hr6 hs6 hx6 hts5 g78 g79 g80 g11 g12
    rintro l ds m6 ⟨rfl,⟨ts5,hts5,rfl,g78,g79,g80,g11,g12⟩,hI6⟩
    refine Qb0 (PS:=fun l' ds' m'=>ds'=[]∧(∃ ts:List Value,ts.length=129∧l'=[.agg ⟨Qai x⟩,.slice (some ⟨b,o,none⟩) ss.length cv,.pointer (some ⟨m.next,0,none⟩),undef,.string ⟨⟨[]⟩⟩,.int .i64 0,y6,y7,.pointer (some ⟨np,0,none⟩),.slice (some ⟨k0+108,0,none⟩) 23 23]++ts∧gx ts 68=.slice (some ⟨b,o,none⟩) ss.length cv∧gx ts 69=.int .i64 (ss.length:Nat)∧gx ts 70=.int .i64 (k:Nat)∧gx ts 1=.pointer (some ⟨m4.next,0,none⟩))∧PrI np k0 [(m4.next,⟨true,36,false,Qaa s dv cv2⟩)] m2 (oA++Qay kn++(fieldsOf kn).flatMap fun f=>f.text s) (gr||Qbe s) m') ?_ ?_
    ·have hfb:=hI6.get (List.mem_cons_self ..)
     obtain⟨fa,fn,fc,hfs0⟩:∃ a n c,fs=.slice a n c:=by
      rcases hfs with ⟨rfl,_⟩|⟨_,_,_,rfl,_⟩<;>exact⟨_,_,_,rfl⟩
     have hfn:(fieldsOf kn).length=fn:=by
      rcases hfs with ⟨h1,h2⟩|⟨b,n,cells,h1,h2,_⟩
      ·rw [h1] at hfs0;cases hfs0;rw [h2];rfl
      ·rw [h1] at hfs0;cases hfs0;exact h2
     have hf4:=Qqt kn
     subst hfs0
     refine xsr fun Q' hQ=>?_
     simp [hts5,g12,hfb]
     subst hQ
     refine Qax (Qem (N:=fn) (I:=fun n l ds m'=>∃ j,n=fn-j∧j≤fn∧ds=[]∧(∃ ts:List Value,ts.length=129∧l=[.agg ⟨Qai x⟩,.slice (some ⟨b,o,none⟩) ss.length cv,.pointer (some ⟨m.next,0,none⟩),undef,.string ⟨⟨[]⟩⟩,.int .i64 0,y6,y7,.pointer (some ⟨np,0,none⟩),.slice (some ⟨k0+108,0,none⟩) 23 23]++ts∧gx ts 68=.slice (some ⟨b,o,none⟩) ss.length cv∧gx ts 69=.int .i64 (ss.length:Nat)∧gx ts 70=.int .i64 (k:Nat)∧gx ts 1=.pointer (some ⟨m4.next,0,none⟩)∧gx ts 97=.slice fa fn fc∧gx ts 98=.int .i64 (fn:Nat)∧gx ts 99=.int .i64 (j:Nat)) ∧
      PrI np k0 [(m4.next,⟨true,36,false,Qaa s dv cv2⟩)] m2 (oA++Qay kn++((fieldsOf kn).take j).flatMap fun f=>f.text s) (gr||((fieldsOf kn).take j).any fun f=>f.great s) m') ?_ ?_)
     ·exact⟨0,by simp,by omega,rfl,⟨_,by simp [hts5],rfl,by simp [g78],by simp [g79],by simp [g80],by simp [g11],by simp [hts5],by simp [hts5],by simp [hts5]⟩,by simpa using hI6.drop⟩
     clear hI6 hts5 g78 g79 g80 g11 g12 hfb
     rintro n l ds m6 ⟨j,rfl,hj,rfl,⟨ts5,hts5,rfl,g78,g79,g80,g11,g97,g98,g99⟩,hI6⟩
     refine xsr fun Q' hQ=>?_
     simp [hts5,g98,g99]
     subst hQ
     refine xseq (xif (v:=decide (j<fn)) (by simp [hts5]) (fun h=>Qbd ?_) (fun h=>Qdy ?_))
     ·simp only [decide_eq_true_eq] at h
      rcases hfs with ⟨h1,h2⟩|⟨qb,n,cells,h1,h2,hq1,hq2,hq3,hq4⟩
      ·rw [h2] at hfn;simp at hfn;omega
      cases h1
      have hv6:=hI6.get (List.mem_singleton.2 rfl)
      have hfj:(fieldsOf kn)[j]? = some ((fieldsOf kn)[j]'(by omega)):=Kge _
      generalize hfd:(fieldsOf kn)[j]'(by omega)=f at hfj
      have hr6:Qbl Qaq m6 k0:=hI6.choose_spec.2.2.1
      obtain⟨hqv,hqf⟩:=hq4 m6 hr6
      obtain⟨rv,pv,hrv,hpv,hisf⟩:=hqf j f hfj
      have htwo:=Qrp hrv hpv
      have hql:j*2+2≤cells.length:=by omega
      obtain⟨fn2,caps,hpv2,_⟩:=Qnu (n0:=np) (p:=np) (m:=m6) (by have:=hI6.choose_spec.2.1.1;omega) ((hp.old hO2 (by omega)).old hI6.choose_spec.2.1 (by omega)) (by omega) hisf (by have:=(hI6.choose_spec.2.2.2.1 (k0+108) (by omega) (by omega)).1;omega)
      have hrv2:∃ g2 c2,rv=.func g2 ⟨[]⟩ ⟨c2⟩:=by
       cases f<;>first
        |exact⟨_,_,hisf.1⟩
        | (obtain⟨cb,_,_,h3,_⟩:=hisf;exact⟨_,_,h3⟩)
      obtain⟨g2,c2,rfl⟩:=hrv2
      subst hpv2
      obtain⟨m7,e7,n7,r7,f7⟩:=Qgh m6 84 2 [.nilFunc,.nilFunc] [.func g2 ⟨[]⟩ ⟨c2⟩,.func (.func fn2) ⟨[]⟩ ⟨caps⟩] rfl rfl rfl
      refine xseq (Qax (xseq (Qal fun Q' hQ=>?_)))
      simp [hts5,g97,g99,h,hqv,htwo,hql]
      rw [← e7]
      subst hQ
      have hI7:=hI6.new f7 n7 r7
      have hv7:=hI7.get (List.mem_cons_of_mem _ (List.mem_singleton.2 rfl))
      obtain⟨v7,hP7,hO7,hr7,hs7,hx7⟩:=hI7
      have hst2:=hst
      have htj:(fieldsOf kn).take (j+1)=(fieldsOf kn).take j++[f]:=by rw [List.take_add_one,hfj];rfl
      have htl:(((fieldsOf kn).take j).flatMap fun f=>f.text s).length≤4*(25+22*s.choices.length+4*s.data.length):=by
       refine Knt (Qv5 hR _) (Nat.mul_le_mul_right _ ?_)
       simp only [List.length_take];omega
      have hw8:=Qyk kn
      obtain⟨rv',pv',hrv',hpv',hisf7⟩:=(hq4 m7 hr7).2 j f hfj
      rw [hrv] at hrv';rw [hpv] at hpv'
      cases hrv';cases hpv'
      obtain⟨fn3,caps3,hpe,hov,hcall⟩:=Qnu (n0:=np) (p:=np) (m:=m7) (by have:=hO7.1;omega) ((hp.old hO2 (by omega)).old hO7 (by omega)) (by omega) hisf7 (by have:=(hs7 (k0+108) (by omega) (by omega)).1;omega)
      cases hpe
      refine Qal fun Q' hQ=>?_
      simp [hts5,r7,g11,hv7,Qd5,Qbv]
      have hwayf:f=.way→s.way=1∨s.way=2:=fun e=>by
       subst e
       have:(9:Int)≤s.kind∧s.kind≤12:=by
        have hm:=List.mem_of_getElem? hfj
        have:∀ kn:Nat,Fd.way∈fieldsOf kn→9≤kn∧kn≤12:=by
         intro kn h
         unfold fieldsOf at h
         split at h<;>simp at h<;>omega
        have:=this kn hm
        omega
       rcases hk3 with (h1|h1)|h1
       ·exact absurd this h1
       ·exact .inl h1
       ·exact .inr h1
      have hEq:∀ z,z<np→m7.objs.get z=m4.objs.get z:=fun z hz=>(hO7.2 z hz).trans (hOm4.2 z hz).symm
      refine Qak hov (hcall s dv cv2 v7 _ _ hwayf hR (hd.eq hEq) (hc.eq hEq) hP7 (by simp only [Kla];omega)) ?_ (fun ch m' h=>h.elim)
      rintro r m8 ⟨v8,hP8,hO8,hT8⟩
      have hI8:=(PrI.two hO7 hr7 hs7 hx7 hP8 hO8 hT8).drop
      subst hQ
      refine Qal fun Q' hQ=>?_
      simp [hts5,g99]
      rw [wr64 _ (by omega) (by omega)]
      subst hQ
      refine⟨fn-(j+1),by omega,j+1,rfl,by omega,rfl,⟨_,by simp [hts5],rfl,by simp [g78],by simp [g79],by simp [g80],by simp [g11],by simp [g97],by simp [g98],by simp [hts5]⟩,?_⟩
      rw [htj]
      simpa [Bool.or_assoc] using hI8
     ·simp only [decide_eq_false_iff_not] at h
      obtain rfl:j=fn:=by omega
      rw [← hfn,List.take_length] at hI6
      exact⟨rfl,rfl,⟨_,by simpa using hts5,rfl,by simp [g78],by simp [g79],by simp [g80],by simp [g11]⟩,by simpa [Qbe,hknat] using hI6⟩
    clear hI6 hts5 g78 g79 g80 g11 g12
    rintro l ds m6 ⟨rfl,⟨ts5,hts5,rfl,g78,g79,g80,g11⟩,hI6⟩
    have hfl:((fieldsOf kn).flatMap fun f=>f.text s).length≤4*(25+22*s.choices.length+4*s.data.length):=Knt (Qv5 hR _) (Nat.mul_le_mul_right _ (Qqt kn))
    have hw8:=Qyk kn
    obtain⟨v6,hP6,hO6,hr6,hs6,hx6⟩:=hI6
    refine Qal fun Q' hQ=>?_
    simp [hts5]
    obtain⟨a6,hP6⟩:=hP6
    refine Qak (Qad (by decide)) (Qch (c:=10) hP6 (by have:=hO6.1;omega) (by simp only [Kla];omega)) ?_ (fun ch m' h=>h.elim)
    rintro r m7 ⟨rfl,v7,hP7,hO7,hT7⟩
    have hI7:=PrI.two hO6 hr6 hs6 hx6 (g':=gr||Qbe s) ⟨_,hP7⟩ hO7 hT7
    obtain⟨v7,hP7,hO7,hr7,hs7,hx7⟩:=hI7
    subst hQ
    refine Qal fun Q' hQ=>?_
    simp [hts5,g80]
    rw [wr64 _ (by omega) (by omega)]
    subst hQ
    refine⟨ss.length-(k+1),by omega,k+1,v7,rfl,by omega,rfl,⟨_,by simp [hts5],rfl,by simp [g78],by simp [g79],by simp [hts5]⟩,?_,hO7,hr7,hs7⟩
    rw [htk]
    have hline:out++Qbo s=oA++Qay kn++((fieldsOf kn).flatMap fun f=>f.text s)++[10]:=by
     rw [← hoA,Qbo,hknat];simp only [List.append_assoc]
    rw [List.flatMap_append,List.any_append,← List.append_assoc,← Bool.or_assoc,hout,hgr]
    simp only [List.flatMap_cons,List.flatMap_nil,List.append_nil,List.any_cons,List.any_nil,Bool.or_false]
    rw [hline];exact hP7
   ·simp only [decide_eq_false_iff_not] at h
    obtain rfl:k=ss.length:=by omega
    rw [List.take_length] at hP
    obtain⟨x9,ts',rfl⟩:∃ x9 ts',ts=x9::ts':=by
     match ts,hts with
     |x9::ts',_=>exact⟨_,_,rfl⟩
     | [],h=>simp at h
    exact⟨rfl,rfl,v4,Sl.mk rfl (by simpa using hts),hP,hO⟩
  clear hP hO hts3
  rintro l ds m3 ⟨rfl,v3,⟨ts3,hts3,rfl⟩,hP,hO⟩
  have hO':Old m.next m m3:=hO2.trans (hO.le (by omega))
  have htl:(Qba x ss).length≤500000300:=by
   have h1:=Qmf ss fun y hy=>by
    obtain⟨j,hj⟩:=List.getElem?_of_mem hy
    obtain⟨cells,_,_,h3⟩:=hs
    exact (h3 j y hj).1
   simp only [Qba,Kla];omega
  have htn:Qba x ss≠[]:=by simp [Qba,Qcg]
  have hPx:=hP
  obtain⟨a3,hP⟩:=hP
  refine Qtn (PS:=fun l' ds' m'=>ds'=[]∧m'=m3∧Qdv x ss=false∧¬ 1048576<(Qba x ss).length∧Sl [.agg ⟨Qai x⟩,.slice av ss.length cv,.pointer (some ⟨m.next,0,none⟩),undef,.string ⟨⟨[]⟩⟩,.int .i64 0,y6,y7,.pointer (some ⟨np,0,none⟩)] 130 l')
   (PR:=fun l' ds' m'=>ds'=[]∧Old m.next m m'∧gx l' 4=.string ⟨⟨(Qa8 x ss).1⟩⟩∧gx l' 5=.int .i64 (Qa8 x ss).2) ?_ ?_ ?_
  ·refine Qax (xseq (Qal fun Q' hQ=>?_))
   simp [hts3,hP.row]
   subst hQ
   refine xif (v:=Qdv x ss) (by simp [hts3]) (fun h=>?_) (fun h=>?_)
   ·refine xsr fun Q' hQ=>?_
    simp [hts3]
    subst hQ
    exact xret (.inr ⟨rfl,rfl,hO',by simp [gx,Qa8,hall,h],by simp [gx,Qa8,hall,h]⟩)
   ·refine xsr fun Q' hQ=>?_
    simp [hts3]
    refine Qak (Qad (by decide)) (len_ok hP) ?_ (fun ch m' h=>h.elim)
    rintro r m4 ⟨rfl,rfl⟩
    simp [hts3]
    subst hQ
    refine xif (v:=decide ((1048576:Int)<((Qba x ss).length:Int))) (by simp [hts3]) (fun h2=>?_) (fun h2=>Qbd ?_)
    ·simp only [decide_eq_true_eq] at h2
     replace h2:1048576<(Qba x ss).length:=by omega
     refine xsr fun Q' hQ=>?_
     simp [hts3]
     subst hQ
     exact xret (.inr ⟨rfl,rfl,hO',by simp [gx,Qa8,hall,h,h2],by simp [gx,Qa8,hall,h,h2]⟩)
    ·simp only [decide_eq_false_iff_not] at h2
     exact .inl ⟨rfl,rfl,rfl,h,by omega,Sl.mk rfl (by simp [hts3])⟩
  ·rintro l ds m4 ⟨rfl,rfl,h1,h2,⟨ts4,hts4,rfl⟩⟩
   refine xsr fun Q' hQ=>?_
   simp [hts4]
   refine Qak (Qad (by decide)) (Qrr hP htn (by omega)) ?_ (fun ch m' h=>h.elim)
   rintro r m5 ⟨rfl,hK5,hO5⟩
   subst hQ
   refine xret ⟨rfl,_,Qfh _ _,?_,hO'.trans (hO5.le (by omega))⟩
   simp [gx,Qa8,hall,h1,h2]
  ·rintro l ds m4 ⟨rfl,hO4,h4,h5⟩
   refine⟨rfl,_,Qfh _ _,?_,hO4⟩
   rw [h4,h5]
 ·rintro l ds m2 ⟨rfl,hO,hno,h4,h5⟩
  refine⟨rfl,_,Qfh _ _,?_,hO⟩
  rw [h4,h5,Qa8,if_neg hno]
end Go.Proofs.YtgmkbdmgifdfeaaGreatDoor

set_option maxRecDepth 8000
namespace Go.Proofs.YtgmkbdmgifdfeaaGreatDoor
open Go Go.Ev
def RPr (n0:Nat) (m:Mem) (p:Nat) (out:List UInt8) (g:Bool):Prop:=n0≤p∧p<m.next∧vw m p=some ⟨true,93,false,[.string ⟨⟨out⟩⟩,.bool g]⟩
theorem _root_.Go.Ev.Keep.trans {ob:Option Nat} {a b c:Mem} (h:Keep ob a b) (k:Keep ob b c):Keep ob a c:=⟨Knt h.1 k.1,fun x hx ho=>(k.2 x (Nat.lt_of_lt_of_le hx h.1) ho).trans (h.2 x hx ho)⟩
theorem _root_.Go.Ev.Keep.refl (ob:Option Nat) (m:Mem):Keep ob m m:=⟨Knr _,fun _ _ _=>rfl⟩
theorem _root_.Go.Ev.Keep.old {p n0:Nat} {a b:Mem} (h:Keep (some p) a b) (hp:n0≤p) (hn:n0≤a.next):Old n0 a b:=⟨h.1,fun x hx=>h.2 x (by omega) (by intro e;cases e;omega)⟩
theorem _root_.Go.Ev.Keep.ofOld {ob:Option Nat} {a b:Mem} (h:Old a.next a b):Keep ob a b:=⟨h.1,fun x hx _=>h.2 x hx⟩
theorem RPr.out {n0 p:Nat} {m:Mem} {out out':List UInt8} {g:Bool} (h:RPr n0 m p out g):RPr n0 (stM m p 0 [.string ⟨⟨out'⟩⟩]) p out' g∧Keep (some p) m (stM m p 0 [.string ⟨⟨out'⟩⟩]):=by
 obtain⟨h1,h2,h3⟩:=h
 have hs:stOk ⟨true,93,false,[.string ⟨⟨out⟩⟩,.bool g]⟩ 0 [.string ⟨⟨out'⟩⟩]=true:=by simp
 exact⟨⟨h1,by rw [Qav];exact h2,by rw [Qau h3 hs];rfl⟩,Qgx _ _ _⟩
theorem RPr.bad {n0 p:Nat} {m:Mem} {out:List UInt8} {g g':Bool} (h:RPr n0 m p out g):RPr n0 (stM m p 1 [.bool g']) p out g'∧Keep (some p) m (stM m p 1 [.bool g']):=by
 obtain⟨h1,h2,h3⟩:=h
 have hs:stOk ⟨true,93,false,[.string ⟨⟨out⟩⟩,.bool g]⟩ 1 [.bool g']=true:=by simp
 exact⟨⟨h1,by rw [Qav];exact h2,by rw [Qau h3 hs];rfl⟩,Qgx _ _ _⟩
theorem RPr.keep {n0 p:Nat} {m m':Mem} {out:List UInt8} {g:Bool} (h:RPr n0 m p out g) (k:Old m.next m m'):RPr n0 m' p out g:=⟨h.1,Nat.lt_of_lt_of_le h.2.1 k.1,by rw [k.vw h.2.1];exact h.2.2⟩
theorem Qb5 {n0 p:Nat} {m:Mem} {out:List UInt8} {g:Bool} {z:Int} (h:RPr n0 m p out g) (hn:n0≤m.next) (hp:Qb4 m) (hp0:0<n0) (hz:i64R z) (hb:out.length≤900000000) :
  Qaw tb 35 [.pointer (some ⟨p,0,none⟩),.int .i64 z] m (retR fun r m'=>RPr n0 m' p (out++decI z) (g||Qam z)∧Keep (some p) m m'):=by
 refine Qa5 Tryz.func35 e35 rfl rfl ?_
 simp only [s35,List.replicate,Klc,Kln,Kca,Kna,Nat.reduceAdd,Nat.reduceSub]
 refine Qb0 (PS:=fun l' ds' m'=>ds'=[]∧Sl [.pointer (some ⟨p,0,none⟩),.int .i64 z] 28 l'∧RPr n0 m' p out (g||Qam z)∧Keep (some p) m m') ?_ ?_
 ·refine Qal fun Q' hQ=>?_
  have hrow:=h.2.2
  cases g<;>by_cases h1:2147483647<z<;>by_cases h2:z < -2147483648<;>simp [hrow,h1,h2]<;>subst hQ <;>
   exact⟨rfl,rfl,Sl.mk rfl rfl,by have:=h.bad (g':=true);have h3:=h.bad (g':=false);simp [Qam,h1,h2];first|exact this.1|exact h3.1,by first|exact (h.bad).2⟩
 clear h
 rintro l ds m1 ⟨rfl,⟨ts,hts,rfl⟩,h,hK⟩
 have hrow:=h.2.2
 have hO:=hK.old h.1 hn
 refine xdrw 3 fun Q' hQ=>?_
 simp [hts,hrow]
 rw [Qf7 _ _ _ _ _ (by simp only [Klc,Kln];omega)]
 simp [hts,hrow]
 refine xitoa hz.1 hz.2 (hp.old hO hp0) ?_
 simp [hts,hrow]
 rw [Qf7 _ _ _ _ _ (by simp only [Klc,Kla,Kln];omega)]
 simp [hts,hrow]
 rw [Qf7 _ _ _ _ _ (by have:=Qfa hz;simp only [Klc,Kla,Kln];omega)]
 simp [hts,hrow]
 subst hQ
 exact⟨rfl,_,rfl,h.out.1,hK.trans h.out.2⟩
theorem Qfv {m:Mem} {z:Int} (hp:Qb4 m) (hz:u64R z):Qaw tb 36 [.int .u64 z] m (retR fun r m'=>r=.string ⟨⟨decU z⟩⟩∧m'=m):=by
 refine Qa5 Tryz.func36 e36 rfl rfl ?_
 simp only [s36,List.replicate,Klc,Kln,Kca,Kna,Nat.reduceAdd,Nat.reduceSub]
 refine xsr fun Q' hQ=>?_
 simp
 subst hQ
 refine xsr fun Q' hQ=>?_
 simp
 refine xfmt hz.1 hz.2 hp ?_
 rw [Qf7 _ _ _ _ _ (by have:=Qn2 hz;simp only [Klc,Kla,Kln];omega)]
 simp
 subst hQ
 exact xret ⟨rfl,_,Qat _,rfl,rfl⟩
theorem Qp7 {n0 p:Nat} {m:Mem} {out:List UInt8} {g:Bool} {z:Int} (h:RPr n0 m p out g) (hb:out.length≤900000000) :
  Qaw tb 69 [.pointer (some ⟨p,0,none⟩),.int .i64 z] m (retR fun r m'=>RPr n0 m' p (out++(if z=1 then [32,101,120,112,114,101,115,115] else [32,102,114,101,105,103,104,116])) g∧Keep (some p) m m'):=by
 have hrow:=h.2.2
 refine Qa5 Tryz.func69 e69 rfl rfl ?_
 simp only [s69,List.replicate,Klc,Kln,Kca,Kna,Nat.reduceAdd,Nat.reduceSub]
 refine xsr fun Q' hQ=>?_
 simp
 subst hQ
 refine xif (v:=decide (z=1)) rfl (fun h1=>?_) (fun h1=>?_)
 all_goals
  simp only [decide_eq_true_eq,decide_eq_false_iff_not] at h1
  refine Qal fun Q' hQ=>?_
  simp [hrow]
  rw [Qf7 _ _ _ _ _ (by simp only [Klc,Kla,Kln];omega)]
  simp [hrow]
  subst hQ
  exact⟨rfl,_,rfl,by simp only [h1,if_true,if_false];exact h.out.1,h.out.2⟩
end Go.Proofs.YtgmkbdmgifdfeaaGreatDoor

