/- A part of a proof: ScriptBack. -/
import Derived.Test.YtgmkbdmgifdfeaaGreatDoorD22
set_option linter.unusedVariables false
set_option linter.unusedSimpArgs false
set_option maxRecDepth 8000
namespace Go.Proofs.YtgmkbdmgifdfeaaGreatDoor
open Go Go.Ev
theorem chain_ok {kn:Nat} (h1:1≤kn) (h2:kn≤22) {n0 p b0:Nat} {s:Stp} {d c:Value} {m0 m:Mem} {out:List UInt8} {g:Bool} {ts:List Value} (hts:ts.length=223) (g32:gx ts 26=.string ⟨⟨Qay kn⟩⟩) (hL:LI n0 p b0 kn s d c m0 out g m) (hp:Qb4 m0) (hp0:0<n0) (hR:s.R)
  (hd:SlOld n0 m0 d s.data.length (u8s s.data)) (hc:SlOld n0 m0 c s.choices.length (i64s s.choices)) (hb:out.length+100*s.choices.length+20*s.data.length≤800000000) :
  wpX tb ⟨37,.normal,none⟩ Qbs ([.pointer (some ⟨p,0,none⟩),.agg ⟨Qaj kn⟩,.agg ⟨Qaa s d c⟩,undef,.pointer (some ⟨b0,0,none⟩),.pointer (some ⟨b0+1,0,none⟩)]++ts) [] m (fun e l' ds' m'=>e=.normal∧ds'=[]∧LI n0 p b0 kn s d c m0 (out++(fieldsOf kn).flatMap fun f=>f.text s) (g||Qao kn s) m'∧Sl [.pointer (some ⟨p,0,none⟩),.agg ⟨Qaj kn⟩,.agg ⟨Qaa s d c⟩,undef,.pointer (some ⟨b0,0,none⟩),.pointer (some ⟨b0+1,0,none⟩)] 223 l') :=
 match kn,h1,h2 with
 |1,_,_=>chain1 hts g32 hL hp hp0 hR hd hc hb|2,_,_=>chain2 hts g32 hL hp hp0 hR hd hc hb|3,_,_=>chain3 hts g32 hL hp hp0 hR hd hc hb|4,_,_=>chain4 hts g32 hL hp hp0 hR hd hc hb
 |5,_,_=>chain5 hts g32 hL hp hp0 hR hd hc hb|6,_,_=>chain6 hts g32 hL hp hp0 hR hd hc hb|7,_,_=>chain7 hts g32 hL hp hp0 hR hd hc hb|8,_,_=>chain8 hts g32 hL hp hp0 hR hd hc hb
 |9,_,_=>chain9 hts g32 hL hp hp0 hR hd hc hb|10,_,_=>chain10 hts g32 hL hp hp0 hR hd hc hb|11,_,_=>chain11 hts g32 hL hp hp0 hR hd hc hb|12,_,_=>chain12 hts g32 hL hp hp0 hR hd hc hb
 |13,_,_=>chain13 hts g32 hL hp hp0 hR hd hc hb|14,_,_=>chain14 hts g32 hL hp hp0 hR hd hc hb|15,_,_=>chain15 hts g32 hL hp hp0 hR hd hc hb|16,_,_=>chain16 hts g32 hL hp hp0 hR hd hc hb
 |17,_,_=>chain17 hts g32 hL hp hp0 hR hd hc hb|18,_,_=>chain18 hts g32 hL hp hp0 hR hd hc hb|19,_,_=>chain19 hts g32 hL hp hp0 hR hd hc hb|20,_,_=>chain20 hts g32 hL hp hp0 hR hd hc hb
 |21,_,_=>chain21 hts g32 hL hp hp0 hR hd hc hb|22,_,_=>chain22 hts g32 hL hp hp0 hR hd hc hb
 |0,h1,_=>absurd h1 (by omega)
 |k+23,_,h2=>absurd h2 (by omega)
theorem rline_ok {n0 p:Nat} {m:Mem} {out:List UInt8} {g:Bool} {kn:Nat} {s:Stp} {d c:Value} (h:RPr n0 m p out g) (hn:n0≤m.next) (hp:Qb4 m) (hp0:0<n0) (hR:s.R) (hd:SlOld n0 m d s.data.length (u8s s.data)) (hc:SlOld n0 m c s.choices.length (i64s s.choices))
  (hk:s.kind=(kn:Int)) (h1:1≤kn) (h2:kn≤22) (hb:out.length+100*s.choices.length+20*s.data.length≤700000000) :
  Qaw tb 37 [.pointer (some ⟨p,0,none⟩),.agg ⟨Qaj kn⟩,.agg ⟨Qaa s d c⟩] m (retR fun r m'=>RPr n0 m' p (out++Qbo s) (g||Qbe s)∧Keep (some p) m m'):=by
 have z1:(Qaa s d c)[1]? = some (.int .i64 s.node):=rfl
 have r0:(Qaj kn)[0]? = some (.string ⟨⟨Qay kn⟩⟩):=rfl
 have r1:(Qaj kn)[1]? = some (.bool (!decide (kn=1))):=rfl
 have hkn:s.kind.toNat=kn:=by omega
 have hw8:=Qyk kn
 have hnl:=Qfa hR.node
 have hplt:=h.2.1
 refine Qa5 Tryz.func37 e37 rfl rfl ?_
 simp only [s37,List.replicate,Klc,Kln,Kca,Kna,Nat.reduceAdd,Nat.reduceSub]
 refine Qb0 (PS:=fun l' ds' m'=>ds'=[]∧LI n0 p m.next kn s d c m out g m'∧Sl [.pointer (some ⟨p,0,none⟩),.agg ⟨Qaj kn⟩,.agg ⟨Qaa s d c⟩,undef,.pointer (some ⟨m.next,0,none⟩),.pointer (some ⟨m.next+1,0,none⟩)] 223 l') ?_ ?_
 ·refine Qal fun Q' hQ=>?_
  simp
  subst hQ
  refine⟨rfl,rfl,⟨?_,?_,?_,?_,by simp only [Qaf];omega,hplt,rfl⟩,Sl.mk rfl rfl⟩
  ·exact (h.keep ((Old.refl _ _).new (Knr _) _)).keep ((Old.refl _ _).new (Knr _) _)
  ·exact (Keep.ofOld ((Old.refl _ _).new (Knr _) _)).trans (Keep.ofOld ((Old.refl _ _).new (Knr _) _))
  ·rw [Qcs,if_neg (by rw [Qaf];omega),Qcs,if_pos rfl];exact Qcj _ _ _
  ·rw [Qcs,if_pos (by rw [Qaf])];exact Qcj _ _ _
 rintro l ds m1 ⟨rfl,hL,⟨ts,hts,rfl⟩⟩
 refine Qb0 (PS:=fun l' ds' m'=>ds'=[]∧LI n0 p m.next kn s d c m (out++(if s.kind=1 then [] else Lib.itoa s.node++[32])) g m'∧Sl [.pointer (some ⟨p,0,none⟩),.agg ⟨Qaj kn⟩,.agg ⟨Qaa s d c⟩,undef,.pointer (some ⟨m.next,0,none⟩),.pointer (some ⟨m.next+1,0,none⟩)] 223 l') ?_ ?_
 ·refine xsr fun Q' hQ=>?_
  simp [hts,hL.rb,r1]
  subst hQ
  refine xif (v:=!decide (kn=1)) (by simp [hts]) (fun hk1=>?_) (fun hk1=>Qbd ?_)
  ·simp only [Bool.not_eq_true',decide_eq_false_iff_not] at hk1
   refine xdrw 3 fun Q' hQ=>?_
   simp [hts,hL.pr.2.2,hL.sb,z1]
   refine xitoa hR.node.1 hR.node.2 (hp.old hL.old hp0) ?_
   simp [hts,hL.pr.2.2,hL.sb,z1]
   repeat (rw [Qf7 _ _ _ _ _ (by (try simp only [Kla,Klc,Kln]);omega)];simp [hts,hL.pr.2.2,hL.sb,z1])
   subst hQ
   exact⟨rfl,rfl,by rw [if_neg (by omega)];exact Qrh hL,Sl.mk rfl (by simp [hts])⟩
  ·simp only [Bool.not_eq_false',decide_eq_true_eq] at hk1
   exact⟨rfl,rfl,by rw [if_pos (by omega),List.append_nil];exact hL,Sl.mk rfl (by simp [hts])⟩
 clear hL hts
 rintro l ds m1 ⟨rfl,hL,⟨ts,hts,rfl⟩⟩
 generalize hoA:out++(if s.kind=1 then [] else Lib.itoa s.node++[32])=oA at *
 have hoAl:oA.length≤out.length+23:=by
  rw [← hoA]
  split<;>simp only [Kla,Klc,Kln]<;>omega
 refine Qb0 (PS:=fun l' ds' m'=>ds'=[]∧LI n0 p m.next kn s d c m (oA++Qay kn) g m'∧Sl [.pointer (some ⟨p,0,none⟩),.agg ⟨Qaj kn⟩,.agg ⟨Qaa s d c⟩,undef,.pointer (some ⟨m.next,0,none⟩),.pointer (some ⟨m.next+1,0,none⟩)] 223 l') ?_ ?_
 ·refine xdrw 2 fun Q' hQ=>?_
  simp [hts,hL.pr.2.2,hL.rb,r0]
  repeat (rw [Qf7 _ _ _ _ _ (by (try simp only [Kla,Klc,Kln]);omega)];simp [hts,hL.pr.2.2,hL.rb,r0])
  subst hQ
  exact⟨rfl,rfl,Qrh hL,Sl.mk rfl (by simp [hts])⟩
 clear hL hts
 rintro l ds m1 ⟨rfl,hL,⟨ts,hts,rfl⟩⟩
 refine Qb0 (PS:=fun l' ds' m'=>ds'=[]∧LI n0 p m.next kn s d c m (oA++Qay kn++(fieldsOf kn).flatMap fun f=>f.text s) (g||Qao kn s) m'∧Sl [.pointer (some ⟨p,0,none⟩),.agg ⟨Qaj kn⟩,.agg ⟨Qaa s d c⟩,undef,.pointer (some ⟨m.next,0,none⟩),.pointer (some ⟨m.next+1,0,none⟩)] 223 l') ?_ ?_
 ·refine xsr fun Q' hQ=>?_
  simp [hts,hL.rb,r0]
  subst hQ
  exact chain_ok h1 h2 (by simp [hts]) (by simp [hts]) hL hp hp0 hR hd hc (by simp only [Kla];omega)
 clear hL hts
 rintro l ds m1 ⟨rfl,hL,⟨ts,hts,rfl⟩⟩
 have hfl:((fieldsOf kn).flatMap fun f=>f.text s).length≤4*(25+22*s.choices.length+4*s.data.length):=Knt (Qv5 hR _) (Nat.mul_le_mul_right _ (Qqt kn))
 refine Qal fun Q' hQ=>?_
 simp [hts,hL.pr.2.2]
 rw [Qf7 _ _ _ _ _ (by (try simp only [Kla,Klc,Kln]);omega)]
 simp [hts,hL.pr.2.2]
 subst hQ
 have hline:out++Qbo s=oA++Qay kn++((fieldsOf kn).flatMap fun f=>f.text s)++[10]:=by
  rw [← hoA,Qbo,hkn];simp only [List.append_assoc]
 have hfin:=Qrh (out':=out++Qbo s) hL
 have hgr:Qbe s=Qao kn s:=by rw [Qbe,hkn];rfl
 refine⟨rfl,_,rfl,?_⟩
 rw [hgr]
 have e:out++Qbo s=oA++(Qay kn++(((fieldsOf kn).flatMap fun f=>f.text s)++[10])):=by rw [hline];simp only [List.append_assoc]
 rw [e] at hfin ⊢
 exact⟨hfin.pr,hfin.kp⟩
end Go.Proofs.YtgmkbdmgifdfeaaGreatDoor

set_option maxRecDepth 8000
namespace Go.Proofs.YtgmkbdmgifdfeaaGreatDoor
open Go Go.Ev
theorem Qbx.flds {n0:Nat} {m:Mem} {v:Value} {ss:List Stp} (h:Qbx n0 m v ss) (hn:n0≤m.next) {k:Nat} {s:Stp} (hk:ss[k]? = some s) :
  ∃ b o c,v=.slice (some ⟨b,o,none⟩) ss.length c∧s.R∧∃ ad dc ac cc,Qdz tb 36 m (.pointer (some ⟨b,o+k*17,none⟩))=.r (.agg ⟨Qaa s (.slice ad s.data.length dc) (.slice ac s.choices.length cc)⟩) ∧
    SlOld n0 m (.slice ad s.data.length dc) s.data.length (u8s s.data)∧SlOld n0 m (.slice ac s.choices.length cc) s.choices.length (i64s s.choices) ∧
    (∀ {off:Nat} {w:Value} {t:TypeId} {i:TI},(Qaa s (.slice ad s.data.length dc) (.slice ac s.choices.length cc))[off]? = some w→ti tb t=some i→i.agg=false→Qdz tb t m (.pointer (some ⟨b,o+k*17+off,none⟩))=.r w)∧k<ss.length:=by
 obtain⟨cells,h1,h2,h3⟩:=h
 obtain⟨h4,d,c,h5,h6,h7⟩:=h3 k s hk
 have hk1:=(Kgs.1 hk).1
 obtain⟨b,o,c',h8,h9,h10,h11,h12⟩:=(h1.at hn).loadA (k:=k*17) (sz:=17) (by omega) (by omega)
 obtain⟨ad,dc,rfl⟩:=(h6.at hn).shape
 obtain⟨ac,cc,rfl⟩:=(h7.at hn).shape
 refine⟨b,o,c',h8,h4,ad,dc,ac,cc,?_,h6,h7,?_,hk1⟩
 ·rw [h12 Ty.ti36 Ty.g36 Ty.s36,h5]
 ·intro off w t i hw hi ha
  have hoff:off<17:=(Kgs.1 hw).1
  have:cells[k*17+off]? = some w:=by
   rw [← hw,← h5,Qfs hoff]
  have:=ld_rd1 (s:=none) hi ha h11 this
  rw [show o+(k*17+off)=o+k*17+off from by omega] at this
  exact this
theorem formW:∀ kn,1≤kn→kn≤22→((9≤kn∧kn≤12)∧∃ l,Qsu kn=119::l)∨(¬ (9≤kn∧kn≤12)∧(Qsu kn=[]∨∃ b l,Qsu kn=b::l∧¬ (b.toNat:Int)=119))
 |1,_,_=>.inr ⟨by omega,.inr ⟨_,_,rfl,by decide⟩⟩|2,_,_=>.inr ⟨by omega,.inr ⟨_,_,rfl,by decide⟩⟩|3,_,_=>.inr ⟨by omega,.inr ⟨_,_,rfl,by decide⟩⟩|4,_,_=>.inr ⟨by omega,.inr ⟨_,_,rfl,by decide⟩⟩
 |5,_,_=>.inr ⟨by omega,.inr ⟨_,_,rfl,by decide⟩⟩|6,_,_=>.inr ⟨by omega,.inr ⟨_,_,rfl,by decide⟩⟩|7,_,_=>.inr ⟨by omega,.inr ⟨_,_,rfl,by decide⟩⟩|8,_,_=>.inr ⟨by omega,.inl rfl⟩
 |9,_,_=>.inl ⟨by omega,_,rfl⟩|10,_,_=>.inl ⟨by omega,_,rfl⟩|11,_,_=>.inl ⟨by omega,_,rfl⟩|12,_,_=>.inl ⟨by omega,_,rfl⟩
 |13,_,_=>.inr ⟨by omega,.inr ⟨_,_,rfl,by decide⟩⟩|14,_,_=>.inr ⟨by omega,.inr ⟨_,_,rfl,by decide⟩⟩|15,_,_=>.inr ⟨by omega,.inl rfl⟩|16,_,_=>.inr ⟨by omega,.inr ⟨_,_,rfl,by decide⟩⟩
 |17,_,_=>.inr ⟨by omega,.inr ⟨_,_,rfl,by decide⟩⟩|18,_,_=>.inr ⟨by omega,.inr ⟨_,_,rfl,by decide⟩⟩|19,_,_=>.inr ⟨by omega,.inr ⟨_,_,rfl,by decide⟩⟩|20,_,_=>.inr ⟨by omega,.inr ⟨_,_,rfl,by decide⟩⟩
 |21,_,_=>.inr ⟨by omega,.inr ⟨_,_,rfl,by decide⟩⟩|22,_,_=>.inr ⟨by omega,.inr ⟨_,_,rfl,by decide⟩⟩
 |0,h,_=>absurd h (by omega)
 |k+23,_,h=>absurd h (by omega)
theorem Qk8 (w:Bool):isB undef w=false:=rfl
def Qd4 (x:Stu):List Value:=[.int .i64 x.mtu,.int .u64 x.ack,.int .u64 x.retry,.int .i64 x.retries,.int .i64 x.window,.int .i64 x.inbox]
theorem cfg_get (x:Stu):(Qd4 x)[0]? = some (.int .i64 x.mtu)∧(Qd4 x)[1]? = some (.int .u64 x.ack)∧(Qd4 x)[2]? = some (.int .u64 x.retry)∧(Qd4 x)[3]? = some (.int .i64 x.retries)∧(Qd4 x)[4]? = some (.int .i64 x.window)∧(Qd4 x)[5]? = some (.int .i64 x.inbox):=⟨rfl,rfl,rfl,rfl,rfl,rfl⟩
theorem app6 (a b c d e f:Value) (l:List Value):a::b::c::d::e::f::l=[a,b,c,d,e,f]++l:=rfl
theorem Qmb (z:Int):(rowV z).length=4:=by unfold rowV;split<;>rfl
theorem Qma (z:Int):(rowV z).all oneC=true:=by unfold rowV;split<;>rfl
set_option maxHeartbeats 1000000 in
theorem Qzo {m:Mem} {v:Value} {x:Stu} {ss:List Stp} (hm:8≤m.next) (hp:Qb4 m) (hx:x.R) (hs:Qbx m.next m v ss) (hb:Qbg ss≤500000000) :
  Qaw tb 14 [.agg ⟨Qai x⟩,v] m (retR fun r m'=>r=.tuple ⟨[.string ⟨⟨(Qa8 x ss).1⟩⟩,.int .i64 (Qa8 x ss).2]⟩∧Old m.next m m'):=by
 have hwl:=Qhe ss
 obtain⟨av,cv,rfl⟩:=hs.shape
 refine Qa5 Tryz.func14 e14 rfl rfl ?_
 simp only [s14,List.replicate,Klc,Kln,Kca,Kna,Nat.reduceAdd,Nat.reduceSub]
 refine Qb0 (PS:=fun l' ds' m1=>ds'=[]∧Sl [.agg ⟨Qai x⟩,.slice av ss.length cv,.pointer (some ⟨m.next,0,none⟩),undef,.string ⟨⟨[]⟩⟩,.int .i64 0] 169 l'∧vw m1 m.next=some ⟨true,26,false,Qai x⟩∧m1.next=m.next+1∧Old m.next m m1) ?_ ?_
 ·refine Qal fun Q' hQ=>?_
  simp
  subst hQ
  exact⟨rfl,rfl,Sl.mk rfl rfl,by rw [Qcs,if_pos rfl];exact Qcj _ _ _,by rw [Qaf],(Old.refl _ _).new (Knr _) _⟩
 rintro l ds m1 ⟨rfl,⟨ts,hts,rfl⟩,hX,hN1,hO1⟩
 refine Qtn (PS:=fun l' ds' m'=>ds'=[]∧Sl [.agg ⟨Qai x⟩,.slice av ss.length cv,.pointer (some ⟨m.next,0,none⟩),undef,.string ⟨⟨[]⟩⟩,.int .i64 0] 169 l'∧vw m' m.next=some ⟨true,26,false,Qai x⟩∧Old m.next m m'∧ss.all Qbr=true∧m.next<m'.next)
  (PR:=fun l' ds' m'=>ds'=[]∧Old m.next m m'∧¬ ss.all Qbr=true∧gx l' 4=.string ⟨⟨[]⟩⟩∧gx l' 5=.int .i64 202) ?_ ?_ ?_
 ·refine xsr fun Q' hQ=>?_
  simp [hts]
  subst hQ
  refine Qax (Qem (N:=ss.length) (I:=fun n l ds m2=>∃ k,n=ss.length-k∧k≤ss.length∧ds=[]∧(∃ ts:List Value,ts.length=169∧l=[.agg ⟨Qai x⟩,.slice av ss.length cv,.pointer (some ⟨m.next,0,none⟩),undef,.string ⟨⟨[]⟩⟩,.int .i64 0]++ts∧gx ts 0=.int .i64 (k:Nat)) ∧
   vw m2 m.next=some ⟨true,26,false,Qai x⟩∧Old m.next m m2∧m.next<m2.next∧(ss.take k).all Qbr=true) ?_ ?_)
  ·exact⟨0,by simp,by omega,rfl,⟨_,by simp [hts],rfl,by simp [hts]⟩,hX,hO1,by omega,by simp⟩
  clear hX hO1 hts hN1
  rintro n l ds m2 ⟨k,rfl,hk,rfl,⟨ts,hts,rfl,g6⟩,hX2,hO2,hN2,hall⟩
  refine xseq (xseq (Qal fun Q' hQ=>?_))
  simp [hts,g6]
  subst hQ
  refine xif (v:=decide ((k:Int)<(ss.length:Int))) (by simp [hts]) (fun h=>Qbd ?_) (fun h=>Qdy ?_)
  ·simp only [decide_eq_true_eq] at h
   have hkl:k<ss.length:=by omega
   obtain⟨b,o,c,h1,hR,ad,dc,ac,cc,hld,hd,hc,hfl,_⟩:=(hs.old hO2).flds hO2.1 (Kge hkl)
   simp only [Value.slice.injEq] at h1
   obtain⟨rfl,-,rfl⟩:=h1
   have htk:ss.take (k+1)=ss.take k++[ss[k]]:=by rw [List.take_add_one,Kge hkl];rfl
   have hmem:ss[k]∈ss:=List.getElem_mem hkl
   have hf0:=hfl (off:=0) (t:=3) rfl Ty.ti3 Ty.g3
   rw [Nat.add_zero] at hf0
   have hskk:=Kge hkl
   generalize hsk:ss[k]=s at *
   refine xseq (Qax (Qb0 (PS:=fun l' ds' m'=>ds'=[]∧(∃ ts:List Value,ts.length=169∧l'=[.agg ⟨Qai x⟩,.slice (some ⟨b,o,none⟩) ss.length cv,.pointer (some ⟨m.next,0,none⟩),undef,.string ⟨⟨[]⟩⟩,.int .i64 0]++ts∧gx ts 0=.int .i64 (k:Nat)∧∃ rb,gx ts 1=.pointer (some ⟨rb,0,none⟩)∧vw m' rb=some ⟨true,88,false,rowV s.kind⟩∧gx ts 2=.bool (decide (1≤s.kind∧s.kind≤22)))∧Old m2.next m2 m') ?_ ?_))
   ·refine Qal fun Q' hQ=>?_
    simp [hts,g6,hkl,h,hf0]
    refine Qak (Qad (by decide)) (row_ok (by have:=hO2.1;omega)) ?_ (fun ch m' h=>h.elim)
    rintro r m3 ⟨rfl,hO3⟩
    obtain⟨m4,e4,n4,r4,f4⟩:=Qgh m3 88 4 [.string ⟨⟨[]⟩⟩,.bool false,.int .i64 0,.string ⟨⟨[]⟩⟩] (rowV s.kind) rfl (Qmb _) (Qma _)
    simp [hts,Qd0,Qmb,Qma]
    rw [← e4]
    subst hQ
    exact⟨rfl,rfl,⟨_,by simp [hts],rfl,by simp [g6],m3.next,by simp [hts],r4,by simp [hts]⟩,hO3.trans ⟨by omega,fun y hy=>f4 y (by have:=hO3.1;omega)⟩⟩
   clear hts g6
   rintro l ds m4 ⟨rfl,⟨ts,hts,rfl,g6,rb,g7,hrb,g8⟩,hO4⟩
   have hO4':Old m.next m m4:=hO2.trans (hO4.le hO2.1)
   obtain⟨b',o',c',h1',hR',ad',dc',ac',cc',_,_,_,hfl4,_⟩:=(hs.old hO4').flds hO4'.1 hskk
   simp only [Value.slice.injEq,Kaj,Addr.mk.injEq] at h1'
   obtain⟨⟨rfl,rfl,-⟩,-,rfl⟩:=h1'
   have hf1:=hfl4 (off:=1) (t:=3) rfl Ty.ti3 Ty.g3
   have hf9:=hfl4 (off:=9) (t:=3) rfl Ty.ti3 Ty.g3
   have hret:¬ Qbr s=true→¬ ss.all Qbr=true:=fun h1 h2=>h1 (List.all_eq_true.1 h2 s hmem)
   have hX4:vw m4 m.next=some ⟨true,26,false,Qai x⟩:=by rw [hO4.vw hN2];exact hX2
   have hN4:m.next<m4.next:=by have:=hO4.1;omega
   refine Qtn (PS:=fun l' ds' m'=>ds'=[]∧m'=m4∧(∃ ts:List Value,ts.length=169∧l'=[.agg ⟨Qai x⟩,.slice (some ⟨b,o,none⟩) ss.length cv,.pointer (some ⟨m.next,0,none⟩),undef,.string ⟨⟨[]⟩⟩,.int .i64 0]++ts∧gx ts 0=.int .i64 (k:Nat)∧gx ts 1=.pointer (some ⟨rb,0,none⟩))∧(1≤s.kind∧s.kind≤22)∧(s.kind=1∨s.node=1∨s.node=2))
    (PR:=fun l' ds' m'=>ds'=[]∧m'=m4∧¬ Qbr s=true∧gx l' 4=.string ⟨⟨[]⟩⟩∧gx l' 5=.int .i64 202) ?_ ?_ ?_
   ·refine xsr fun Q' hQ=>?_
    by_cases hr:1≤s.kind∧s.kind≤22
    ·have hrV:rowV s.kind=Qaj s.kind.toNat:=if_pos hr
     have r1:(Qaj s.kind.toNat)[1]? = some (.bool (!decide (s.kind.toNat=1))):=rfl
     rw [hrV] at hrb
     rw [decide_eq_true hr] at g8
     by_cases hk1:s.kind.toNat=1
     ·simp [hts,g6,g7,g8,hrb,r1,eq_true hk1]
      subst hQ
      refine xno (by simp [hts]) (Qbd ?_)
      refine .inl ⟨rfl,rfl,rfl,?_,hr,.inl (by omega)⟩
      exact⟨_,by simp [hts],app6 _ _ _ _ _ _ _,by simp [g6],by simp [g7]⟩
     ·by_cases hn1:s.node=1
      ·simp [hts,g6,g7,g8,hrb,r1,eq_false hk1,h,hkl,hf1,hn1]
       subst hQ
       refine xno (by simp [hts]) (Qbd ?_)
       refine .inl ⟨rfl,rfl,rfl,?_,hr,.inr (.inl hn1)⟩
       exact⟨_,by simp [hts],app6 _ _ _ _ _ _ _,by simp [g6],by simp [g7]⟩
      ·by_cases hn2:s.node=2
       ·simp [hts,g6,g7,g8,hrb,r1,eq_false hk1,h,hkl,hf1,hn2]
        subst hQ
        refine xno (by simp [hts]) (Qbd ?_)
        refine .inl ⟨rfl,rfl,rfl,?_,hr,.inr (.inr hn2)⟩
        exact⟨_,by simp [hts],app6 _ _ _ _ _ _ _,by simp [g6],by simp [g7]⟩
       ·simp [hts,g6,g7,g8,hrb,r1,eq_false hk1,h,hkl,hf1,hn1,hn2]
        subst hQ
        refine xyes (by simp [hts]) ?_
        refine xsr fun Q' hQ=>?_
        simp [hts]
        subst hQ
        exact xret (.inr ⟨rfl,rfl,rfl,(by have:¬ s.kind=1:=(by omega);simp [Qbr,hn1,hn2,this]),by simp [gx],by simp [gx]⟩)
    ·rw [decide_eq_false hr] at g8
     simp [hts,g6,g7,g8,Qk8]
     subst hQ
     refine xyes (by simp [hts]) ?_
     refine xsr fun Q' hQ=>?_
     simp [hts]
     subst hQ
     exact xret (.inr ⟨rfl,rfl,rfl,by simp [Qbr,hr],by simp [gx],by simp [gx]⟩)
   ·clear hts g6 g7 g8
    rintro l ds m5 ⟨rfl,rfl,⟨ts,hts,rfl,g6,g7⟩,hr,hnode⟩
    have hrV:rowV s.kind=Qaj s.kind.toNat:=if_pos hr
    have r3:(Qaj s.kind.toNat)[3]? = some (.string ⟨⟨Qsu s.kind.toNat⟩⟩):=rfl
    rw [hrV] at hrb
    have hfin:Qbr s=true→∀ (l':List Value),(∃ ts:List Value,ts.length=169∧l'=[.agg ⟨Qai x⟩,.slice (some ⟨b,o,none⟩) ss.length cv,.pointer (some ⟨m.next,0,none⟩),undef,.string ⟨⟨[]⟩⟩,.int .i64 0]++ts∧gx ts 0=.int .i64 (k:Nat))→True:=fun _ _ _=>trivial
    have hnodeB:(decide (s.kind=1)||decide (s.node=1)||decide (s.node=2))=true:=by
     rcases hnode with h|h|h<;>simp [h]
    have hbad:∀ l':List Value,gx l' 4=.string ⟨⟨[]⟩⟩→gx l' 5=.int .i64 202→True:=fun _ _ _=>trivial
    refine wpX.mono (Q:=fun e l' ds' m'=>(e=.normal∧ds'=[]∧m'=m5∧(∃ ts:List Value,ts.length=169∧l'=[.agg ⟨Qai x⟩,.slice (some ⟨b,o,none⟩) ss.length cv,.pointer (some ⟨m.next,0,none⟩),undef,.string ⟨⟨[]⟩⟩,.int .i64 0]++ts∧gx ts 0=.int .i64 (k:Nat))∧Qbr s=true) ∨
     (e=.jump .ret∧ds'=[]∧m'=m5∧¬ Qbr s=true∧gx l' 4=.string ⟨⟨[]⟩⟩∧gx l' 5=.int .i64 202)) ?_ ?_
    ·refine xsr fun Q' hQ=>?_
     rcases formW s.kind.toNat (by omega) (by omega) with ⟨hw,fl,hfm⟩|⟨hw,hfm⟩
     ·have hw':(9≤s.kind∧s.kind≤12):=by omega
      by_cases hw1:s.way=1
      ·simp [hts,g6,g7,hrb,r3,hfm,hkl,h,hf9,hw1]
       subst hQ
       refine xno (by simp [hts]) (Qbd ?_)
       refine .inl ⟨rfl,rfl,rfl,⟨_,by simp [hts],app6 _ _ _ _ _ _ _,by simp [g6]⟩,by simp [Qbr,hr,hw',hw1];simpa using hnodeB⟩
      by_cases hw2:s.way=2
      ·simp [hts,g6,g7,hrb,r3,hfm,hkl,h,hf9,hw2]
       subst hQ
       refine xno (by simp [hts]) (Qbd ?_)
       refine .inl ⟨rfl,rfl,rfl,⟨_,by simp [hts],app6 _ _ _ _ _ _ _,by simp [g6]⟩,by simp [Qbr,hr,hw',hw2];simpa using hnodeB⟩
      ·simp [hts,g6,g7,hrb,r3,hfm,hkl,h,hf9,hw1,hw2]
       subst hQ
       refine xyes (by simp [hts]) ?_
       refine xsr fun Q' hQ=>?_
       simp [hts]
       subst hQ
       exact xret (.inr ⟨rfl,rfl,rfl,by simp [Qbr,hw',hw1,hw2],by simp [gx],by simp [gx]⟩)
     ·have hw':¬ (9≤s.kind∧s.kind≤12):=by omega
      have hok:Qbr s=true:=by
       simp only [Qbr,decide_eq_true hr,decide_eq_false hw',hnodeB];rfl
      rcases hfm with hfm|⟨fb,fl,hfm,hfb⟩
      ·simp [hts,g6,g7,hrb,r3,hfm,Qk8]
       subst hQ
       refine xno (by simp [hts]) (Qbd ?_)
       exact .inl ⟨rfl,rfl,rfl,⟨_,by simp [hts],app6 _ _ _ _ _ _ _,by simp [g6]⟩,hok⟩
      ·simp [hts,g6,g7,hrb,r3,hfm,hfb,Qk8]
       subst hQ
       refine xno (by simp [hts]) (Qbd ?_)
       exact .inl ⟨rfl,rfl,rfl,⟨_,by simp [hts],app6 _ _ _ _ _ _ _,by simp [g6]⟩,hok⟩
    ·clear hts g6 g7
     rintro e l' ds' m' (⟨rfl,rfl,rfl,⟨ts,hts,rfl,g6⟩,hok⟩|⟨rfl,rfl,rfl,hno,h4,h5⟩)
     ·refine Qal fun Q' hQ=>?_
      simp [hts,g6]
      rw [wr64 _ (by omega) (by omega)]
      subst hQ
      exact⟨ss.length-(k+1),by omega,k+1,rfl,by omega,rfl,⟨_,by simp [hts],app6 _ _ _ _ _ _ _,by simp [hts]⟩,hX4,hO4',hN4,by rw [htk];simp [hall,hok]⟩
     ·exact .inr ⟨rfl,rfl,hO4',hret hno,h4,h5⟩
   ·rintro l ds m5 ⟨rfl,rfl,hno,h4,h5⟩
    exact .inr ⟨rfl,rfl,hO4',hret hno,h4,h5⟩
  ·simp only [decide_eq_false_iff_not] at h
   obtain rfl:k=ss.length:=by omega
   rw [List.take_length] at hall
   exact .inl ⟨rfl,rfl,Sl.mk rfl (by simp [hts]),hX2,hO2,hall,hN2⟩
 ·rintro l ds m2 ⟨rfl,⟨ts0,hts0,rfl⟩,hX2,hO2,hall,hN2⟩
  clear hX hO1 hts hN1
  obtain⟨g0,g1,g2,g3,g4,g5,g6,g7,g8⟩:=Qyz x
  generalize hnp:m2.next=np at *
  obtain⟨y6,ts1,rfl,hts1⟩:=Qdw hts0
  obtain⟨y7,ts2,rfl,hts2⟩:=Qdw hts1
  obtain⟨y8,ts3,rfl,hts3⟩:=Qdw hts2
  obtain⟨y9,ts4,rfl,hts4⟩:=Qdw hts3
  obtain⟨y10,ts,rfl,hts⟩:=Qdw hts4
  clear hts0 hts1 hts2 hts3 hts4
  refine Qb0 (PS:=fun l' ds' m'=>ds'=[]∧Sl [.agg ⟨Qai x⟩,.slice av ss.length cv,.pointer (some ⟨m.next,0,none⟩),undef,.string ⟨⟨[]⟩⟩,.int .i64 0,y6,y7,y8,.pointer (some ⟨np,0,none⟩)] 165 l'∧RPr np m' np [119,111,114,108,100] false∧Old np m2 m'∧m'.next=np+1) ?_ ?_
  ·refine Qal fun Q' hQ=>?_
   simp [hts,hnp]
   subst hQ
   exact⟨rfl,rfl,Sl.mk rfl (by simp [hts]),⟨Knr _,by rw [Qaf];omega,by rw [Qcs,if_pos hnp.symm];exact Qcj _ _ _⟩,(Old.refl _ _).new (by omega) _,by rw [Qaf,hnp]⟩
  clear hts
  rintro l ds m3 ⟨rfl,⟨ts0,hts0,rfl⟩,hP,hO3,hn3⟩
  obtain⟨y10',ts,rfl,hts⟩:=Qdw hts0
  have hX3:vw m3 m.next=some ⟨true,26,false,Qai x⟩:=by rw [hO3.vw hN2];exact hX2
  obtain⟨mB,eB,nB,rB,fB⟩:=Qgh m3 24 6 [.int .i64 0,.int .u64 0,.int .u64 0,.int .i64 0,.int .i64 0,.int .i64 0] (Qd4 x) rfl rfl rfl
  have htk:Qbv (Qai x) 0 6=Qd4 x:=rfl
  have hcone:(Qd4 x).all oneC=true:=rfl
  have hclen:(Qd4 x).length=6:=rfl
  have hslen:(Qai x).length=9:=rfl
  obtain⟨c0,c1,c2,c3,c4,c5⟩:=cfg_get x
  have hPB:RPr np mB np [119,111,114,108,100] false:=⟨hP.1,by omega,by unfold vw;rw [fB np (by omega)];exact hP.2.2⟩
  have hXB:vw mB m.next=some ⟨true,26,false,Qai x⟩:=by unfold vw;rw [fB m.next (by omega)];exact hX3
  have hOB:Old np m2 mB:=hO3.trans ⟨by omega,fun y hy=>fB y (by omega)⟩
  rw [hn3] at rB
  refine Qb0 (PS:=fun l' ds' m'=>ds'=[]∧Sl [.agg ⟨Qai x⟩,.slice av ss.length cv,.pointer (some ⟨m.next,0,none⟩),undef,.string ⟨⟨[]⟩⟩,.int .i64 0,y6,y7,y8,.pointer (some ⟨np,0,none⟩),.pointer (some ⟨np+1,0,none⟩)] 164 l'∧m'=mB) ?_ ?_
  ·refine Qal fun Q' hQ=>?_
   simp [hts,hX3,htk,hcone,hclen,hslen]
   rw [← eB,hn3]
   subst hQ
   exact⟨rfl,rfl,Sl.mk rfl (by simp [hts]),rfl⟩
  clear hts hts0
  rintro l ds m4 ⟨rfl,⟨ts,hts,rfl⟩,rfl⟩
  have hkeep:∀ {m':Mem},Keep (some np) m4 m'→vw m' m.next=some ⟨true,26,false,Qai x⟩∧vw m' (np+1)=some ⟨true,24,false,Qd4 x⟩∧Qb4 m'∧np≤m'.next∧Old np m2 m':=fun h =>
   have hO':Old np m2 _:=hOB.trans (h.old (Knr _) (by omega))
   ⟨by rw [h.vw (by omega) (by intro e;have:=Kai e;omega)];exact hXB,by rw [h.vw (by omega) (by intro e;have:=Kai e;omega)];exact rB,(hp.old hO2 (by omega)).old hO' (by omega),by have:=hO'.1;omega,hO'⟩
  replace hP:RPr np m4 np [119,111,114,108,100] false:=hPB
  clear hPB
  obtain⟨mB,hmB⟩:∃ mB,mB=m4:=⟨_,rfl⟩
  have hK4:Keep (some np) mB m4:=by rw [hmB];exact Keep.refl _ _
  have hkeep2:∀ {m':Mem},Keep (some np) mB m'→vw m' m.next=some ⟨true,26,false,Qai x⟩∧vw m' (np+1)=some ⟨true,24,false,Qd4 x⟩∧Qb4 m'∧np≤m'.next∧Old np m2 m':=fun h=>hkeep (by rw [hmB] at h;exact h)
  clear hmB hXB rB hOB hkeep
  refine Qb0 (PS:=fun l' ds' m'=>ds'=[]∧Sl [.agg ⟨Qai x⟩,.slice av ss.length cv,.pointer (some ⟨m.next,0,none⟩),undef,.string ⟨⟨[]⟩⟩,.int .i64 0,y6,y7,y8,.pointer (some ⟨np,0,none⟩),.pointer (some ⟨np+1,0,none⟩)] 164 l'∧RPr np m' np ([119,111,114,108,100]++decI x.sectors) (false||Qam x.sectors)∧Keep (some np) mB m') ?_ ?_
  ·obtain⟨hX3,hC3,hp3,hn4,_⟩:=hkeep2 hK4
   have hrow:=hP.2.2
   refine Qal fun Q' hQ=>?_
   simp [hts,hX3,hC3,g0,g1,g2,g3,g4,g5,g6,g7,g8,c0,c1,c2,c3,c4,c5]
   refine Qak (Qad (by decide)) (Qb5 hP hn4 hp3 (by omega) hx.sectors (by have l0:=Qac hx.sectors;have l1:=Qac hx.room;have l2:=Qab hx.start;have l3:=Qac hx.mtu;have l4:=Qab hx.ack;have l5:=Qab hx.retry;have l6:=Qac hx.retries;have l7:=Qac hx.window;have l8:=Qac hx.inbox; (try simp only [Kla,Klc,Kln]);omega)) ?_ (fun ch m' h=>h.elim)
   rintro r m5 ⟨hP5,hK5⟩
   subst hQ
   exact⟨rfl,rfl,Sl.mk rfl (by simp [hts]),hP5,hK4.trans hK5⟩
  clear hP hK4 hts
  rintro l ds m4 ⟨rfl,⟨ts,hts,rfl⟩,hP,hK4⟩
  refine Qb0 (PS:=fun l' ds' m'=>ds'=[]∧Sl [.agg ⟨Qai x⟩,.slice av ss.length cv,.pointer (some ⟨m.next,0,none⟩),undef,.string ⟨⟨[]⟩⟩,.int .i64 0,y6,y7,y8,.pointer (some ⟨np,0,none⟩),.pointer (some ⟨np+1,0,none⟩)] 164 l'∧RPr np m' np ([119,111,114,108,100]++decI x.sectors++decI x.room) (false||Qam x.sectors||Qam x.room)∧Keep (some np) mB m') ?_ ?_
  ·obtain⟨hX3,hC3,hp3,hn4,_⟩:=hkeep2 hK4
   have hrow:=hP.2.2
   refine Qal fun Q' hQ=>?_
   simp [hts,hX3,hC3,g0,g1,g2,g3,g4,g5,g6,g7,g8,c0,c1,c2,c3,c4,c5]
   refine Qak (Qad (by decide)) (Qb5 hP hn4 hp3 (by omega) hx.room (by have l0:=Qac hx.sectors;have l1:=Qac hx.room;have l2:=Qab hx.start;have l3:=Qac hx.mtu;have l4:=Qab hx.ack;have l5:=Qab hx.retry;have l6:=Qac hx.retries;have l7:=Qac hx.window;have l8:=Qac hx.inbox; (try simp only [Kla,Klc,Kln]);omega)) ?_ (fun ch m' h=>h.elim)
   rintro r m5 ⟨hP5,hK5⟩
   subst hQ
   exact⟨rfl,rfl,Sl.mk rfl (by simp [hts]),hP5,hK4.trans hK5⟩
  clear hP hK4 hts
  rintro l ds m4 ⟨rfl,⟨ts,hts,rfl⟩,hP,hK4⟩
  refine Qb0 (PS:=fun l' ds' m'=>ds'=[]∧Sl [.agg ⟨Qai x⟩,.slice av ss.length cv,.pointer (some ⟨m.next,0,none⟩),undef,.string ⟨⟨[]⟩⟩,.int .i64 0,y6,y7,y8,.pointer (some ⟨np,0,none⟩),.pointer (some ⟨np+1,0,none⟩)] 164 l'∧RPr np m' np ([119,111,114,108,100]++decI x.sectors++decI x.room++decU x.start) (false||Qam x.sectors||Qam x.room)∧Keep (some np) mB m') ?_ ?_
  ·obtain⟨hX3,hC3,hp3,hn4,_⟩:=hkeep2 hK4
   have hrow:=hP.2.2
   refine xdrw 3 fun Q' hQ=>?_
   simp [hts,hrow,hX3,hC3,g0,g1,g2,g3,g4,g5,g6,g7,g8,c0,c1,c2,c3,c4,c5]
   refine Qak (Qad (by decide)) (Qfv (z:=x.start) hp3 hx.start) ?_ (fun ch m' h=>h.elim)
   rintro r m5 ⟨rfl,rfl⟩
   simp [hts,hrow,hX3,hC3,g0,g1,g2,g3,g4,g5,g6,g7,g8,c0,c1,c2,c3,c4,c5]
   repeat (rw [Qf7 _ _ _ _ _ (by have l0:=Qac hx.sectors;have l1:=Qac hx.room;have l2:=Qab hx.start;have l3:=Qac hx.mtu;have l4:=Qab hx.ack;have l5:=Qab hx.retry;have l6:=Qac hx.retries;have l7:=Qac hx.window;have l8:=Qac hx.inbox; (try simp only [Kla,Klc,Kln]);omega)];simp [hts,hrow,hX3,hC3,g0,g1,g2,g3,g4,g5,g6,g7,g8,c0,c1,c2,c3,c4,c5])
   subst hQ
   exact⟨rfl,rfl,Sl.mk rfl (by simp [hts]),by simpa only [List.append_assoc,Kca,Kna] using hP.out.1,hK4.trans hP.out.2⟩
  clear hP hK4 hts
  rintro l ds m4 ⟨rfl,⟨ts,hts,rfl⟩,hP,hK4⟩
  refine Qb0 (PS:=fun l' ds' m'=>ds'=[]∧Sl [.agg ⟨Qai x⟩,.slice av ss.length cv,.pointer (some ⟨m.next,0,none⟩),undef,.string ⟨⟨[]⟩⟩,.int .i64 0,y6,y7,y8,.pointer (some ⟨np,0,none⟩),.pointer (some ⟨np+1,0,none⟩)] 164 l'∧RPr np m' np ([119,111,114,108,100]++decI x.sectors++decI x.room++decU x.start++decI x.mtu) (false||Qam x.sectors||Qam x.room||Qam x.mtu)∧Keep (some np) mB m') ?_ ?_
  ·obtain⟨hX3,hC3,hp3,hn4,_⟩:=hkeep2 hK4
   have hrow:=hP.2.2
   refine Qal fun Q' hQ=>?_
   simp [hts,hX3,hC3,g0,g1,g2,g3,g4,g5,g6,g7,g8,c0,c1,c2,c3,c4,c5]
   refine Qak (Qad (by decide)) (Qb5 hP hn4 hp3 (by omega) hx.mtu (by have l0:=Qac hx.sectors;have l1:=Qac hx.room;have l2:=Qab hx.start;have l3:=Qac hx.mtu;have l4:=Qab hx.ack;have l5:=Qab hx.retry;have l6:=Qac hx.retries;have l7:=Qac hx.window;have l8:=Qac hx.inbox; (try simp only [Kla,Klc,Kln]);omega)) ?_ (fun ch m' h=>h.elim)
   rintro r m5 ⟨hP5,hK5⟩
   subst hQ
   exact⟨rfl,rfl,Sl.mk rfl (by simp [hts]),hP5,hK4.trans hK5⟩
  clear hP hK4 hts
  rintro l ds m4 ⟨rfl,⟨ts,hts,rfl⟩,hP,hK4⟩
  refine Qb0 (PS:=fun l' ds' m'=>ds'=[]∧Sl [.agg ⟨Qai x⟩,.slice av ss.length cv,.pointer (some ⟨m.next,0,none⟩),undef,.string ⟨⟨[]⟩⟩,.int .i64 0,y6,y7,y8,.pointer (some ⟨np,0,none⟩),.pointer (some ⟨np+1,0,none⟩)] 164 l'∧RPr np m' np ([119,111,114,108,100]++decI x.sectors++decI x.room++decU x.start++decI x.mtu++decU x.ack++decU x.retry) (false||Qam x.sectors||Qam x.room||Qam x.mtu)∧Keep (some np) mB m') ?_ ?_
  ·obtain⟨hX3,hC3,hp3,hn4,_⟩:=hkeep2 hK4
   have hrow:=hP.2.2
   refine xdrw 4 fun Q' hQ=>?_
   simp [hts,hrow,hX3,hC3,g0,g1,g2,g3,g4,g5,g6,g7,g8,c0,c1,c2,c3,c4,c5]
   refine Qak (Qad (by decide)) (Qfv (z:=x.ack) hp3 hx.ack) ?_ (fun ch m' h=>h.elim)
   rintro r m5 ⟨rfl,rfl⟩
   simp [hts,hrow,hX3,hC3,g0,g1,g2,g3,g4,g5,g6,g7,g8,c0,c1,c2,c3,c4,c5]
   repeat (rw [Qf7 _ _ _ _ _ (by have l0:=Qac hx.sectors;have l1:=Qac hx.room;have l2:=Qab hx.start;have l3:=Qac hx.mtu;have l4:=Qab hx.ack;have l5:=Qab hx.retry;have l6:=Qac hx.retries;have l7:=Qac hx.window;have l8:=Qac hx.inbox; (try simp only [Kla,Klc,Kln]);omega)];simp [hts,hrow,hX3,hC3,g0,g1,g2,g3,g4,g5,g6,g7,g8,c0,c1,c2,c3,c4,c5])
   refine Qak (Qad (by decide)) (Qfv (z:=x.retry) hp3 hx.retry) ?_ (fun ch m' h=>h.elim)
   rintro r m5 ⟨rfl,rfl⟩
   simp [hts,hrow,hX3,hC3,g0,g1,g2,g3,g4,g5,g6,g7,g8,c0,c1,c2,c3,c4,c5]
   repeat (rw [Qf7 _ _ _ _ _ (by have l0:=Qac hx.sectors;have l1:=Qac hx.room;have l2:=Qab hx.start;have l3:=Qac hx.mtu;have l4:=Qab hx.ack;have l5:=Qab hx.retry;have l6:=Qac hx.retries;have l7:=Qac hx.window;have l8:=Qac hx.inbox; (try simp only [Kla,Klc,Kln]);omega)];simp [hts,hrow,hX3,hC3,g0,g1,g2,g3,g4,g5,g6,g7,g8,c0,c1,c2,c3,c4,c5])
   subst hQ
   exact⟨rfl,rfl,Sl.mk rfl (by simp [hts]),by simpa only [List.append_assoc,Kca,Kna] using hP.out.1,hK4.trans hP.out.2⟩
  clear hP hK4 hts
  rintro l ds m4 ⟨rfl,⟨ts,hts,rfl⟩,hP,hK4⟩
  refine Qb0 (PS:=fun l' ds' m'=>ds'=[]∧Sl [.agg ⟨Qai x⟩,.slice av ss.length cv,.pointer (some ⟨m.next,0,none⟩),undef,.string ⟨⟨[]⟩⟩,.int .i64 0,y6,y7,y8,.pointer (some ⟨np,0,none⟩),.pointer (some ⟨np+1,0,none⟩)] 164 l'∧RPr np m' np ([119,111,114,108,100]++decI x.sectors++decI x.room++decU x.start++decI x.mtu++decU x.ack++decU x.retry++decI x.retries) (false||Qam x.sectors||Qam x.room||Qam x.mtu||Qam x.retries)∧Keep (some np) mB m') ?_ ?_
  ·obtain⟨hX3,hC3,hp3,hn4,_⟩:=hkeep2 hK4
   have hrow:=hP.2.2
   refine Qal fun Q' hQ=>?_
   simp [hts,hX3,hC3,g0,g1,g2,g3,g4,g5,g6,g7,g8,c0,c1,c2,c3,c4,c5]
   refine Qak (Qad (by decide)) (Qb5 hP hn4 hp3 (by omega) hx.retries (by have l0:=Qac hx.sectors;have l1:=Qac hx.room;have l2:=Qab hx.start;have l3:=Qac hx.mtu;have l4:=Qab hx.ack;have l5:=Qab hx.retry;have l6:=Qac hx.retries;have l7:=Qac hx.window;have l8:=Qac hx.inbox; (try simp only [Kla,Klc,Kln]);omega)) ?_ (fun ch m' h=>h.elim)
   rintro r m5 ⟨hP5,hK5⟩
   subst hQ
   exact⟨rfl,rfl,Sl.mk rfl (by simp [hts]),hP5,hK4.trans hK5⟩
  clear hP hK4 hts
  rintro l ds m4 ⟨rfl,⟨ts,hts,rfl⟩,hP,hK4⟩
  refine Qb0 (PS:=fun l' ds' m'=>ds'=[]∧Sl [.agg ⟨Qai x⟩,.slice av ss.length cv,.pointer (some ⟨m.next,0,none⟩),undef,.string ⟨⟨[]⟩⟩,.int .i64 0,y6,y7,y8,.pointer (some ⟨np,0,none⟩),.pointer (some ⟨np+1,0,none⟩)] 164 l'∧RPr np m' np ([119,111,114,108,100]++decI x.sectors++decI x.room++decU x.start++decI x.mtu++decU x.ack++decU x.retry++decI x.retries++decI x.window) (false||Qam x.sectors||Qam x.room||Qam x.mtu||Qam x.retries||Qam x.window)∧Keep (some np) mB m') ?_ ?_
  ·obtain⟨hX3,hC3,hp3,hn4,_⟩:=hkeep2 hK4
   have hrow:=hP.2.2
   refine Qal fun Q' hQ=>?_
   simp [hts,hX3,hC3,g0,g1,g2,g3,g4,g5,g6,g7,g8,c0,c1,c2,c3,c4,c5]
   refine Qak (Qad (by decide)) (Qb5 hP hn4 hp3 (by omega) hx.window (by have l0:=Qac hx.sectors;have l1:=Qac hx.room;have l2:=Qab hx.start;have l3:=Qac hx.mtu;have l4:=Qab hx.ack;have l5:=Qab hx.retry;have l6:=Qac hx.retries;have l7:=Qac hx.window;have l8:=Qac hx.inbox; (try simp only [Kla,Klc,Kln]);omega)) ?_ (fun ch m' h=>h.elim)
   rintro r m5 ⟨hP5,hK5⟩
   subst hQ
   exact⟨rfl,rfl,Sl.mk rfl (by simp [hts]),hP5,hK4.trans hK5⟩
  clear hP hK4 hts
  rintro l ds m4 ⟨rfl,⟨ts,hts,rfl⟩,hP,hK4⟩
  refine Qb0 (PS:=fun l' ds' m'=>ds'=[]∧Sl [.agg ⟨Qai x⟩,.slice av ss.length cv,.pointer (some ⟨m.next,0,none⟩),undef,.string ⟨⟨[]⟩⟩,.int .i64 0,y6,y7,y8,.pointer (some ⟨np,0,none⟩),.pointer (some ⟨np+1,0,none⟩)] 164 l'∧RPr np m' np ([119,111,114,108,100]++decI x.sectors++decI x.room++decU x.start++decI x.mtu++decU x.ack++decU x.retry++decI x.retries++decI x.window++decI x.inbox) (false||Qam x.sectors||Qam x.room||Qam x.mtu||Qam x.retries||Qam x.window||Qam x.inbox)∧Keep (some np) mB m') ?_ ?_
  ·obtain⟨hX3,hC3,hp3,hn4,_⟩:=hkeep2 hK4
   have hrow:=hP.2.2
   refine Qal fun Q' hQ=>?_
   simp [hts,hX3,hC3,g0,g1,g2,g3,g4,g5,g6,g7,g8,c0,c1,c2,c3,c4,c5]
   refine Qak (Qad (by decide)) (Qb5 hP hn4 hp3 (by omega) hx.inbox (by have l0:=Qac hx.sectors;have l1:=Qac hx.room;have l2:=Qab hx.start;have l3:=Qac hx.mtu;have l4:=Qab hx.ack;have l5:=Qab hx.retry;have l6:=Qac hx.retries;have l7:=Qac hx.window;have l8:=Qac hx.inbox; (try simp only [Kla,Klc,Kln]);omega)) ?_ (fun ch m' h=>h.elim)
   rintro r m5 ⟨hP5,hK5⟩
   subst hQ
   exact⟨rfl,rfl,Sl.mk rfl (by simp [hts]),hP5,hK4.trans hK5⟩
  clear hP hK4 hts
  rintro l ds m4 ⟨rfl,⟨ts,hts,rfl⟩,hP,hK4⟩
  refine Qb0 (PS:=fun l' ds' m'=>ds'=[]∧Sl [.agg ⟨Qai x⟩,.slice av ss.length cv,.pointer (some ⟨m.next,0,none⟩),undef,.string ⟨⟨[]⟩⟩,.int .i64 0,y6,y7,y8,.pointer (some ⟨np,0,none⟩),.pointer (some ⟨np+1,0,none⟩)] 164 l'∧RPr np m' np (Qcg x) (Qcd x)∧Keep (some np) mB m') ?_ ?_
  ·obtain⟨hX3,hC3,hp3,hn4,_⟩:=hkeep2 hK4
   have hrow:=hP.2.2
   refine Qal fun Q' hQ=>?_
   simp [hts,hrow]
   rw [Qf7 _ _ _ _ _ (by have l0:=Qac hx.sectors;have l1:=Qac hx.room;have l2:=Qab hx.start;have l3:=Qac hx.mtu;have l4:=Qab hx.ack;have l5:=Qab hx.retry;have l6:=Qac hx.retries;have l7:=Qac hx.window;have l8:=Qac hx.inbox; (try simp only [Kla,Klc,Kln]);omega)]
   simp [hts,hrow]
   subst hQ
   refine⟨rfl,rfl,Sl.mk rfl (by simp [hts]),?_⟩
   have h1:=hP.out (out':=Qcg x)
   have h2:Qcd x=(false||Qam x.sectors||Qam x.room||Qam x.mtu||Qam x.retries||Qam x.window||Qam x.inbox):=by simp only [Qcd,Bool.false_or]
   rw [h2]
   have h3:Qcg x=[119,111,114,108,100]++decI x.sectors++decI x.room++decU x.start++decI x.mtu++decU x.ack++decU x.retry++decI x.retries++decI x.window++decI x.inbox++[10]:=rfl
   simp only [List.append_assoc,Kca,Kna] at h3
   rw [h3] at h1 ⊢
   exact⟨h1.1,hK4.trans h1.2⟩
  clear hP hK4 hts
  rintro l ds m4 ⟨rfl,⟨ts,hts,rfl⟩,hP,hK4⟩
  have hl0:=Ja4 hx
  have hbound:∀ k s,ss[k]? = some s→(Qcg x++(ss.take k).flatMap Qbo).length+Qfe s≤500000300:=fun k s hk=>by
   have h1:=Qmf (ss.take k) fun y hy=>by
    obtain⟨j,hj⟩:=List.getElem?_of_mem (List.mem_of_mem_take hy)
    obtain⟨cells,_,_,h3⟩:=hs
    exact (h3 j y hj).1
   have h2:=Qhz ss hk
   simp only [Kla];omega
  obtain⟨y11,ts',rfl,hts'⟩:=Qdw hts
  refine Qb0 (PS:=fun l' ds' m'=>ds'=[]∧Sl [.agg ⟨Qai x⟩,.slice av ss.length cv,.pointer (some ⟨m.next,0,none⟩),undef,.string ⟨⟨[]⟩⟩,.int .i64 0,y6,y7,y8,.pointer (some ⟨np,0,none⟩),.pointer (some ⟨np+1,0,none⟩)] 164 l'∧RPr np m' np (Qba x ss) (Qdv x ss)∧Old np m2 m') ?_ ?_
  ·refine xsr fun Q' hQ=>?_
   simp [hts']
   subst hQ
   refine Qax (Qem (N:=ss.length) (I:=fun n l ds m'=>∃ k,n=ss.length-k∧k≤ss.length∧ds=[]∧Sl [.agg ⟨Qai x⟩,.slice av ss.length cv,.pointer (some ⟨m.next,0,none⟩),undef,.string ⟨⟨[]⟩⟩,.int .i64 0,y6,y7,y8,.pointer (some ⟨np,0,none⟩),.pointer (some ⟨np+1,0,none⟩),.int .i64 (k:Nat)] 163 l∧RPr np m' np (Qcg x++(ss.take k).flatMap Qbo) (Qcd x||(ss.take k).any Qbe)∧Old np m2 m') ?_ ?_)
   ·exact⟨0,by simp,by omega,rfl,Sl.mk rfl (by simp [hts']),by simpa using hP,(hkeep2 hK4).2.2.2.2⟩
   clear hP hK4 hts hts' hkeep2
   rintro n l ds m4 ⟨k,rfl,hk,rfl,⟨ts,hts,rfl⟩,hP,hO4⟩
   refine xseq (xseq (Qal fun Q' hQ=>?_))
   simp [hts]
   subst hQ
   refine xif (v:=decide ((k:Int)<(ss.length:Int))) (by simp [hts]) (fun h=>Qbd ?_) (fun h=>Qdy ?_)
   ·simp only [decide_eq_true_eq] at h
    have hkl:k<ss.length:=by omega
    have hO4':Old m.next m m4:=hO2.trans (hO4.le (by omega))
    obtain⟨b,o,c,h1,hR,ad,dc,ac,cc,hld,hd,hc,hfl,_⟩:=(hs.old hO4').flds hO4'.1 (Kge hkl)
    simp only [Value.slice.injEq] at h1
    obtain⟨rfl,-,rfl⟩:=h1
    have htk:ss.take (k+1)=ss.take k++[ss[k]]:=by rw [List.take_add_one,Kge hkl];rfl
    have hok:=List.all_eq_true.1 hall _ (List.getElem_mem hkl)
    have hbd:=hbound k _ (Kge hkl)
    have hf0:=hfl (off:=0) (t:=3) rfl Ty.ti3 Ty.g3
    rw [Nat.add_zero] at hf0
    have hskk:=Kge hkl
    generalize hsk:ss[k]=s at *
    simp only [Qfe] at hbd
    simp only [Qbr,Kba,decide_eq_true_eq] at hok
    obtain⟨⟨hkr,_⟩,_⟩:=hok
    have hrV:rowV s.kind=Qaj s.kind.toNat:=if_pos hkr
    refine xseq (Qax (Qb0 (PS:=fun l' ds' m'=>ds'=[]∧(∃ rb,Sl [.agg ⟨Qai x⟩,.slice (some ⟨b,o,none⟩) ss.length cv,.pointer (some ⟨m.next,0,none⟩),undef,.string ⟨⟨[]⟩⟩,.int .i64 0,y6,y7,y8,.pointer (some ⟨np,0,none⟩),.pointer (some ⟨np+1,0,none⟩),.int .i64 (k:Nat),.pointer (some ⟨rb,0,none⟩)] 162 l'∧vw m' rb=some ⟨true,88,false,Qaj s.kind.toNat⟩)∧Old m4.next m4 m') ?_ ?_))
    ·refine Qal fun Q' hQ=>?_
     simp [hts,hkl,h,hf0]
     refine Qak (Qad (by decide)) (row_ok (by have:=hO4.1;omega)) ?_ (fun ch m' h=>h.elim)
     rintro r m5 ⟨rfl,hO5⟩
     obtain⟨m6,e6,n6,r6,f6⟩:=Qgh m5 88 4 [.string ⟨⟨[]⟩⟩,.bool false,.int .i64 0,.string ⟨⟨[]⟩⟩] (rowV s.kind) rfl (Qmb _) (Qma _)
     simp [hts,Qd0,Qmb,Qma]
     rw [← e6]
     subst hQ
     obtain⟨y12,ts',rfl,hts'⟩:=Qdw hts
     exact⟨rfl,rfl,⟨m5.next,Sl.mk rfl (by simp [hts']),by rw [← hrV];exact r6⟩,hO5.trans ⟨by omega,fun y hy=>f6 y (by have:=hO5.1;omega)⟩⟩
    clear hts hf0 hfl hld hd hc
    rintro l ds m6 ⟨rfl,⟨rb,⟨ts,hts,rfl⟩,hrb⟩,hO6⟩
    have hP6:=hP.keep hO6
    have hO6':Old np m2 m6:=hO4.trans (hO6.le (by have:=hO4.1;omega))
    have hO6m:Old m.next m m6:=hO2.trans (hO6'.le (by omega))
    obtain⟨b',o',c',h1',hR',ad',dc',ac',cc',hld6,hd6,hc6,_,_⟩:=(hs.old hO6m).flds hO6m.1 hskk
    simp only [Value.slice.injEq,Kaj,Addr.mk.injEq] at h1'
    obtain⟨⟨rfl,rfl,-⟩,-,rfl⟩:=h1'
    have hrcl:((Qaj s.kind.toNat).length=4):=rfl
    have htk4:Qbv (Qaj s.kind.toNat) 0 4=Qaj s.kind.toNat:=rfl
    refine xdrw 2 fun Q' hQ=>?_
    simp [hts,hrb,hrcl,htk4,hkl,h,hld6]
    refine Qak (Qad (by decide)) (rline_ok hP6 (by have:=hO6'.1;omega) ((hp.old hO2 (by omega)).old hO6' (by omega)) (by omega) hR' (hd6.up (show m.next≤np by omega)) (hc6.up (show m.next≤np by omega)) (show s.kind=((s.kind.toNat:Nat):Int) by omega) (by omega) (by omega) (by omega)) ?_ (fun ch m' h=>h.elim)
    rintro r m7 ⟨hP7,hK7⟩
    subst hQ
    refine Qal fun Q' hQ=>?_
    simp [hts]
    rw [wr64 _ (by omega) (by omega)]
    subst hQ
    refine⟨ss.length-(k+1),by omega,k+1,rfl,by omega,rfl,Sl.mk rfl (by simp [hts]),?_,hO6'.trans (hK7.old (Knr _) (by have:=hO6'.1;omega))⟩
    rw [htk]
    simpa [Bool.or_assoc] using hP7
   ·simp only [decide_eq_false_iff_not] at h
    obtain rfl:k=ss.length:=by omega
    rw [List.take_length] at hP
    exact⟨rfl,rfl,Sl.mk rfl (by simp [hts]),hP,hO4⟩
  clear hP hK4 hts hts' hkeep2
  rintro l ds m4 ⟨rfl,⟨ts,hts,rfl⟩,hP,hO4⟩
  have hO':Old m.next m m4:=hO2.trans (hO4.le (by omega))
  have hrow:=hP.2.2
  have htl:(Qba x ss).length≤500000300:=by
   have h1:=Qmf ss fun y hy=>by
    obtain⟨j,hj⟩:=List.getElem?_of_mem hy
    obtain⟨cells,_,_,h3⟩:=hs
    exact (h3 j y hj).1
   simp only [Qba,Kla];omega
  refine Qtn (PS:=fun l' ds' m'=>ds'=[]∧m'=m4∧Qdv x ss=false∧Sl [.agg ⟨Qai x⟩,.slice av ss.length cv,.pointer (some ⟨m.next,0,none⟩),undef,.string ⟨⟨[]⟩⟩,.int .i64 0,y6,y7,y8,.pointer (some ⟨np,0,none⟩),.pointer (some ⟨np+1,0,none⟩)] 164 l')
   (PR:=fun l' ds' m'=>ds'=[]∧Old m.next m m'∧gx l' 4=.string ⟨⟨(Qa8 x ss).1⟩⟩∧gx l' 5=.int .i64 (Qa8 x ss).2) ?_ ?_ ?_
  ·refine xsr fun Q' hQ=>?_
   simp [hts,hrow]
   subst hQ
   refine xif (v:=Qdv x ss) (by simp [hts]) (fun h=>?_) (fun h=>Qbd ?_)
   ·refine xsr fun Q' hQ=>?_
    simp [hts]
    subst hQ
    exact xret (.inr ⟨rfl,rfl,hO',by simp [gx,Qa8,hall,h],by simp [gx,Qa8,hall,h]⟩)
   ·exact .inl ⟨rfl,rfl,rfl,h,Sl.mk rfl (by simp [hts])⟩
  ·clear hts
   rintro l ds m5 ⟨rfl,rfl,h1,⟨ts,hts,rfl⟩⟩
   refine Qtn (PS:=fun l' ds' m'=>ds'=[]∧m'=m5∧¬ 1048576<(Qba x ss).length∧Sl [.agg ⟨Qai x⟩,.slice av ss.length cv,.pointer (some ⟨m.next,0,none⟩),undef,.string ⟨⟨[]⟩⟩,.int .i64 0,y6,y7,y8,.pointer (some ⟨np,0,none⟩),.pointer (some ⟨np+1,0,none⟩)] 164 l')
    (PR:=fun l' ds' m'=>ds'=[]∧Old m.next m m'∧gx l' 4=.string ⟨⟨(Qa8 x ss).1⟩⟩∧gx l' 5=.int .i64 (Qa8 x ss).2) ?_ ?_ ?_
   ·refine xsr fun Q' hQ=>?_
    simp [hts,hrow]
    subst hQ
    refine xif (v:=decide ((1048576:Int)<((Qba x ss).length:Int))) (by simp [hts]) (fun h2=>?_) (fun h2=>Qbd ?_)
    ·simp only [decide_eq_true_eq] at h2
     replace h2:1048576<(Qba x ss).length:=by omega
     refine xsr fun Q' hQ=>?_
     simp [hts]
     subst hQ
     exact xret (.inr ⟨rfl,rfl,hO',by simp [gx,Qa8,hall,h1,h2],by simp [gx,Qa8,hall,h1,h2]⟩)
    ·simp only [decide_eq_false_iff_not] at h2
     exact .inl ⟨rfl,rfl,rfl,by omega,Sl.mk rfl (by simp [hts])⟩
   ·clear hts
    rintro l ds m6 ⟨rfl,rfl,h2,⟨ts,hts,rfl⟩⟩
    refine xsr fun Q' hQ=>?_
    simp [hts,hrow]
    subst hQ
    refine xret ⟨rfl,_,Qfh _ _,?_,hO'⟩
    simp [gx,Qa8,hall,h1,h2]
   ·rintro l ds m6 ⟨rfl,hO6,h4,h5⟩
    refine⟨rfl,_,Qfh _ _,?_,hO6⟩
    rw [h4,h5]
  ·rintro l ds m5 ⟨rfl,hO5,h4,h5⟩
   refine⟨rfl,_,Qfh _ _,?_,hO5⟩
   rw [h4,h5]
 ·rintro l ds m2 ⟨rfl,hO,hno,h4,h5⟩
  refine⟨rfl,_,Qfh _ _,?_,hO⟩
  rw [h4,h5,Qa8,if_neg hno]
end Go.Proofs.YtgmkbdmgifdfeaaGreatDoor

set_option maxRecDepth 8000
namespace Go.Proofs.YtgmkbdmgifdfeaaGreatDoor
open Go Go.Ev
theorem Qo6 (m:Mem) (z:Int):Qaw tb 15 [.int .i64 z] m (retR fun r m'=>r=.int .i64 z∧m'=m):=by
 refine Qa5 Tryz.func15 e15 rfl rfl ?_
 simp only [s15,List.replicate,Klc,Kln,Kca,Kna,Nat.reduceAdd,Nat.reduceSub]
 refine xsr fun Q' hQ=>?_
 simp
 subst hQ
 refine xsr fun Q' hQ=>?_
 simp
 subst hQ
 exact xret ⟨rfl,_,Qat _,rfl,rfl⟩
end Go.Proofs.YtgmkbdmgifdfeaaGreatDoor

set_option maxRecDepth 8000
namespace Go.Proofs.YtgmkbdmgifdfeaaGreatDoor
open Go Go.Ev
theorem Qes {w:List UInt8} {v:Int} (h:Qbf w=some v):i64R v:=by
 unfold Qbf at h
 split at h
 ·split at h
  ·rename_i z hz
   have:=Qiw hz
   split at h
   ·obtain rfl:=Kai h;unfold i64R;omega
   ·cases h
  ·cases h
 ·cases hz:Qel w 2147483647 with
  |none=>rw [hz] at h;cases h
  |some z =>
   rw [hz] at h
   have e:(z:Int)=v:=Kai h
   have:=Qiw hz
   unfold i64R;omega
theorem Qgf {w:List UInt8} {v:Int} (h:Qbt w=some v):u64R v:=by
 unfold Qbt at h
 cases hz:Qel w 18446744073709551615 with
 |none=>rw [hz] at h;cases h
 |some z =>
  rw [hz] at h
  have e:(z:Int)=v:=Kai h
  have:=Qiw hz
  unfold u64R;omega
theorem maskOf_R {w:List UInt8} {v:Int} (h:Qhu w=some v):u32R v:=Qxk h
theorem wayOf_R {w:List UInt8} {v:Int} (h:Qmq w=some v):i64R v:=by
 unfold Qmq at h
 split at h
 ·obtain rfl:=Kai h;unfold i64R;omega
 ·split at h
  ·obtain rfl:=Kai h;unfold i64R;omega
  ·cases h
theorem Qtd:∀ (ws:List (List UInt8)) (l:List Int),Qc9 ws=some l→l.length=ws.length∧∀ c∈l,i64R c
 | [],l,h=>by obtain rfl:=Kai h;simp
 |w::ws,l,h=>by
  rw [Qc9] at h
  cases hw:Qbf w with
  |none=>rw [hw] at h;cases h
  |some v =>
   rw [hw] at h
   cases hr:Qc9 ws with
   |none=>rw [hr] at h;cases h
   |some r =>
    rw [hr] at h
    obtain rfl:=Kai h
    obtain⟨h1,h2⟩:=Qtd ws r hr
    refine⟨by simp [h1],fun c hc=>?_⟩
    rcases List.mem_cons.1 hc with rfl|hc
    ·exact Qes hw
    ·exact h2 c hc
def RB (B:Nat) (s:Stp) (ws:List (List UInt8)):Prop:=s.R∧s.choices.length+ws.length≤B
theorem Qk4 {α : Type} {P:Int→Prop} {g:List UInt8→Option Int} (hg:∀ {w v},g w=some v→P v) {w:List UInt8} {f:Int → α} {a : α} (h:(g w).map f=some a):∃ v,a=f v∧P v:=by
 cases hv:g w with
 |none=>rw [hv] at h;cases h
 |some v=>rw [hv] at h;obtain rfl:=Kai h;exact⟨v,rfl,hg hv⟩
theorem read_R {B:Nat} (f:Fd) {s s':Stp} {ws ws':List (List UInt8)} (h:f.read s ws=some (s',ws')) (hs:RB B s ws):RB B s' ws':=by
 obtain⟨hR,hl⟩:=hs
 by_cases hc:f=.choices
 ·subst hc
  have h':(Qc9 ws).map (fun l=>(({ s with choices:=s.choices++l }:Stp),([]:List (List UInt8))))=some (s',ws'):=by
   cases ws<;>exact h
  cases ha:Qc9 ws with
  |none=>rw [ha] at h';cases h'
  |some l =>
   rw [ha] at h'
   obtain⟨h1,h2⟩:=Qtd ws l ha
   obtain⟨rfl,rfl⟩:=Prod.mk.inj (Kai h')
   refine⟨{ hR with choices:=fun c hc=>?_ },by simp [h1];omega⟩
   rcases List.mem_append.1 hc with hc|hc
   ·exact hR.choices c hc
   ·exact h2 c hc
 cases ws with
 |nil=>cases f<;>first|(cases h;done)|exact absurd rfl hc
 |cons w ws =>
  simp only [Klc] at hl
  cases f with
  |choices=>exact absurd rfl hc
  |stream=>obtain⟨v,e,hv⟩:=Qk4 (P:=i64R) (g:=Qbf) (w:=w) Qes h;obtain⟨rfl,rfl⟩:=Prod.mk.inj e;exact⟨{ hR with stream:=hv },by simp only;omega⟩
  |qc=>obtain⟨v,e,hv⟩:=Qk4 (P:=i64R) (g:=Qbf) (w:=w) Qes h;obtain⟨rfl,rfl⟩:=Prod.mk.inj e;exact⟨{ hR with qc:=hv },by simp only;omega⟩
  |qb=>obtain⟨v,e,hv⟩:=Qk4 (P:=i64R) (g:=Qbf) (w:=w) Qes h;obtain⟨rfl,rfl⟩:=Prod.mk.inj e;exact⟨{ hR with qb:=hv },by simp only;omega⟩
  |place=>obtain⟨v,e,hv⟩:=Qk4 (P:=i64R) (g:=Qbf) (w:=w) Qes h;obtain⟨rfl,rfl⟩:=Prod.mk.inj e;exact⟨{ hR with place:=hv },by simp only;omega⟩
  |pos=>obtain⟨v,e,hv⟩:=Qk4 (P:=i64R) (g:=Qbf) (w:=w) Qes h;obtain⟨rfl,rfl⟩:=Prod.mk.inj e;exact⟨{ hR with pos:=hv },by simp only;omega⟩
  |cursor=>obtain⟨v,e,hv⟩:=Qk4 (P:=i64R) (g:=Qbf) (w:=w) Qes h;obtain⟨rfl,rfl⟩:=Prod.mk.inj e;exact⟨{ hR with cursor:=hv },by simp only;omega⟩
  |time=>obtain⟨v,e,hv⟩:=Qk4 (P:=u64R) (g:=Qbt) (w:=w) Qgf h;obtain⟨rfl,rfl⟩:=Prod.mk.inj e;exact⟨{ hR with time:=hv },by simp only;omega⟩
  |life=>obtain⟨v,e,hv⟩:=Qk4 (P:=u64R) (g:=Qbt) (w:=w) Qgf h;obtain⟨rfl,rfl⟩:=Prod.mk.inj e;exact⟨{ hR with life:=hv },by simp only;omega⟩
  |seq=>obtain⟨v,e,hv⟩:=Qk4 (P:=u64R) (g:=Qbt) (w:=w) Qgf h;obtain⟨rfl,rfl⟩:=Prod.mk.inj e;exact⟨{ hR with seq:=hv },by simp only;omega⟩
  |to=>obtain⟨v,e,hv⟩:=Qk4 (P:=u64R) (g:=Qbt) (w:=w) Qgf h;obtain⟨rfl,rfl⟩:=Prod.mk.inj e;exact⟨{ hR with to:=hv },by simp only;omega⟩
  |ticks=>obtain⟨v,e,hv⟩:=Qk4 (P:=u64R) (g:=Qbt) (w:=w) Qgf h;obtain⟨rfl,rfl⟩:=Prod.mk.inj e;exact⟨{ hR with ticks:=hv },by simp only;omega⟩
  |mask=>obtain⟨v,e,hv⟩:=Qk4 (P:=u32R) (g:=Qhu) (w:=w) maskOf_R h;obtain⟨rfl,rfl⟩:=Prod.mk.inj e;exact⟨{ hR with mask:=hv },by simp only;omega⟩
  |way=>obtain⟨v,e,hv⟩:=Qk4 (P:=i64R) (g:=Qmq) (w:=w) wayOf_R h;obtain⟨rfl,rfl⟩:=Prod.mk.inj e;exact⟨{ hR with way:=hv },by simp only;omega⟩
  |data =>
   have h':(Qec w).map (fun v=>(({ s with data:=v }:Stp),ws))=some (s',ws'):=h
   cases hv:Qec w with
   |none=>rw [hv] at h';cases h'
   |some v=>rw [hv] at h';obtain⟨rfl,rfl⟩:=Prod.mk.inj (Kai h');exact⟨{ hR with },by simp only;omega⟩
theorem Qzw {B:Nat}:∀ (fs:List Fd) {s s':Stp} {ws ws':List (List UInt8)},Qeq fs s ws=some (s',ws')→RB B s ws→RB B s' ws'
 | [],s,s',ws,ws',h,hs=>by obtain⟨rfl,rfl⟩:=Prod.mk.inj (Kai h);exact hs
 |f::fs,s,s',ws,ws',h,hs=>by
  rw [Qeq] at h
  cases hf:f.read s ws with
  |none=>rw [hf] at h;cases h
  |some a=>obtain⟨s1,ws1⟩:=a;rw [hf] at h;exact Qzw fs h (read_R f hf hs)
theorem stepOf_R {ws:List (List UInt8)} {s:Stp} (h:Qe1 ws=some s):s.R∧s.choices.length≤ws.length:=by
 unfold Qe1 at h
 cases hn:Qfx ws with
 |none=>rw [hn] at h;cases h
 |some a =>
  obtain⟨n,w,vs⟩:=a
  rw [hn] at h
  simp only at h
  have hnr:(n=0∨n=1∨n=2)∧vs.length≤ws.length:=by
   unfold Qfx at hn
   split at hn
   ·cases hn
   ·split at hn
    ·split at hn
     ·cases hn
     ·obtain⟨rfl,rfl,rfl⟩:=Kai hn
      refine⟨?_,by simp;omega⟩
      split<;>simp
    ·obtain⟨rfl,rfl,rfl⟩:=Kai hn
     exact⟨.inl rfl,by simp⟩
  cases hk:Qlm w with
  |none=>rw [hk] at h;cases h
  |some k =>
   rw [hk] at h
   simp only at h
   obtain⟨k1,k2,-⟩:=Jaq hk
   split at h
   ·split at h
    ·rename_i s1 hr
     obtain rfl:=Kai h
     have h0:RB vs.length ({ stp0 with kind:=k,node:=n }:Stp) vs:=by
      refine⟨⟨?_,?_,?_,?_,?_,?_,?_,?_,?_,?_,?_,?_,?_,?_,?_,?_⟩,by simp [stp0]⟩<;>simp only [stp0,i64R,u64R,u32R,List.not_mem_nil,false_imp_iff,implies_true]<;>omega
     have:=Qzw _ hr h0
     exact⟨this.1,by have:=this.2;simp at this;omega⟩
    ·cases h
   ·cases h
end Go.Proofs.YtgmkbdmgifdfeaaGreatDoor

set_option maxRecDepth 8000
namespace Go.Proofs.YtgmkbdmgifdfeaaGreatDoor
open Go Go.Ev
theorem line_R {l:List UInt8} {s:Stp} (h:Qd1 l=some (.step s)):s.R∧s.choices.length≤l.length+1:=by
 unfold Qd1 at h
 cases hs:Qgj l with
 |none=>rw [hs] at h;cases h
 |some ws =>
  have hl:=(Qjz l [] none false false ws l.length hs (by simp) (by simp) (by simp)).1
  rw [hs] at h
  cases ws with
  |nil=>cases h
  |cons w ws =>
   simp only at h
   split at h
   ·cases hh:Qih ws with
    |none=>rw [hh] at h;cases h
    |some x=>rw [hh] at h;cases h
   ·cases hh:Qe1 (w::ws) with
    |none=>rw [hh] at h;cases h
    |some t =>
     rw [hh] at h
     cases h
     obtain⟨h1,h2⟩:=stepOf_R hh
     exact⟨h1,by simp at hl h2;omega⟩
theorem go_R {B:Nat}:∀ (ls:List (List UInt8)) (s:Scr) (n:Int),(∀ l∈ls,l.length≤B)→(∀ t∈s.steps,t.R∧t.choices.length≤B+1)→(∀ t∈(Qcr s n ls).2.1,t.R∧t.choices.length≤B+1)∧(Qcr s n ls).2.1.length≤s.steps.length+ls.length
 | [],s,n,_,hs=>by
   unfold Qcr
   split
   ·exact⟨hs,by simp⟩
   ·exact⟨by simp,by simp⟩
 |l::ls,s,n,hl,hs=>by
  rw [Qcr]
  cases ht:Qc5 s l with
  |none=>exact⟨by simp,by simp⟩
  |some s' =>
   simp only
   have h':(∀ t∈s'.steps,t.R∧t.choices.length≤B+1)∧s'.steps.length≤s.steps.length+1:=by
    unfold Qc5 at ht
    cases hln:Qd1 l with
    |none=>rw [hln] at ht;cases ht
    |some x =>
     rw [hln] at ht
     cases x with
     |nothing=>cases ht;exact⟨hs,by omega⟩
     |head x =>
      simp only at ht
      split at ht
      ·cases ht
      ·cases ht;exact⟨hs,by simp⟩
     |step t =>
      simp only at ht
      split at ht
      ·cases ht
       refine⟨fun t' ht'=>?_,by simp⟩
       rcases List.mem_append.1 ht' with h|h
       ·exact hs t' h
       ·obtain rfl:=List.mem_singleton.1 h
        obtain⟨g1,g2⟩:=line_R hln
        have:=hl l (.head _)
        exact⟨g1,by omega⟩
      ·cases ht
   obtain⟨g1,g2⟩:=go_R ls s' (n+1) (fun l hl'=>hl l (.tail _ hl')) h'.1
   exact⟨g1,by have:=h'.2;simp;omega⟩
theorem Jaa (tx:List UInt8):(∀ t∈(Qbb tx).2.1,t.R∧t.choices.length≤1048577)∧(Qbb tx).2.1.length≤1048577:=by
 unfold Qbb
 split
 ·exact⟨by simp,by simp⟩
 ·obtain⟨c1,c2⟩:=Qux tx
  obtain⟨g1,g2⟩:=go_R (B:=1048576) (Qbc tx) ⟨stu0,[],false⟩ 0 (fun l hl=>by have:=c2 l hl;omega) (by simp)
  exact⟨g1,by simp at g2;omega⟩
theorem Qqg {n0 n:Nat} {m:Mem} {v:Value} {e:TypeId} {cells:List Value} (h:Own n0 m v e n cells):SlOld m.next m v n cells:=by
 rcases h with h|⟨b,rfl,h1,h2,h3⟩
 ·exact .inl h
 ·refine .inr ⟨b,0,n,rfl,Knr _,.inr ⟨?_,h2⟩⟩
  have:=rd_vw h3 (o:=0) (k:=cells.length) (by simp)
  rw [this];simp [Qbv]
theorem Qrt {n0:Nat} {m:Mem} {v:Value} {ss:List Stp} (h:Qd9 n0 m v ss) (hR:∀ s∈ss,s.R):Qbx m.next m v ss:=by
 obtain⟨cells,h1,h2,h3⟩:=h
 refine⟨cells,Qqg h1,h2,fun k s hs=>?_⟩
 obtain⟨d,c,g1,g2,g3⟩:=h3 k s hs
 exact⟨hR s (List.mem_of_getElem? hs),d,c,g1,Qqg g2,Qqg g3⟩
end Go.Proofs.YtgmkbdmgifdfeaaGreatDoor

set_option maxRecDepth 8000
namespace Go.Proofs.YtgmkbdmgifdfeaaGreatDoor
open Go Go.Ev
theorem guard26:(tv 26).guard=false:=by kernel_rfl
theorem held26:(tv 26).held=false:=by kernel_rfl
theorem held24:(tv 24).held=false:=by kernel_rfl
theorem b_eql26 (m:Mem) (x y:Operand) (s:Stu):binA tb m .eql 26 x y (.agg ⟨[.int .i64 s.mtu,.int .u64 s.ack,.int .u64 s.retry,.int .i64 s.retries,.int .i64 s.window,.int .i64 s.inbox,.int .i64 s.sectors,.int .i64 s.room,.int .u64 s.start]⟩) (.agg ⟨[.int .i64 s.mtu,.int .u64 s.ack,.int .u64 s.retry,.int .i64 s.retries,.int .i64 s.window,.int .i64 s.inbox,.int .i64 s.sectors,.int .i64 s.room,.int .u64 s.start]⟩)=some (.bool true):=by
 obtain⟨a,b,c,d,e,f,g,h,i⟩:=s
 simp only
 have h3:∀ (n:Nat) (z:Int),eqA tb m (n+1) 3 (.int .i64 z) (.int .i64 z)=some true:=by
  intro n z
  unfold eqA
  simp only [Ty.ti3,oB,Ty.d3,Qx0,Qc1,Qeg,beq_self_eq_true]
 have h22:∀ (n:Nat) (z:Int),eqA tb m (n+1) 22 (.int .u64 z) (.int .u64 z)=some true:=by
  intro n z
  unfold eqA
  simp only [Ty.ti22,oB,Ty.d22,Qx0,Qc1,Qeg,beq_self_eq_true]
 have p3:∀ (cs:List Value) (o:Nat) (z:Int),cs[o]? = some (.int .i64 z)→Qia tb 3 cs o=some (.int .i64 z):=by
  intro cs o z ho
  unfold Qia;simp only [Ty.ti3,Ty.g3,oB,ho]
 have p22:∀ (cs:List Value) (o:Nat) (z:Int),cs[o]? = some (.int .u64 z)→Qia tb 22 cs o=some (.int .u64 z):=by
  intro cs o z ho
  unfold Qia;simp only [Ty.ti22,Ty.g22,oB,ho]
 have e24:eqA tb m 63 24 (.agg ⟨[.int .i64 a,.int .u64 b,.int .u64 c,.int .i64 d,.int .i64 e,.int .i64 f]⟩) (.agg ⟨[.int .i64 a,.int .u64 b,.int .u64 c,.int .i64 d,.int .i64 e,.int .i64 f]⟩)=some true:=by
  rw [eqA]
  simp only [Ty.ti24,oB,Ty.d24,eqSt,held24,Ty.f24]
  simp only [eqFields,p3 [.int .i64 a,.int .u64 b,.int .u64 c,.int .i64 d,.int .i64 e,.int .i64 f] 0 a rfl,p22 [.int .i64 a,.int .u64 b,.int .u64 c,.int .i64 d,.int .i64 e,.int .i64 f] 1 b rfl,p22 [.int .i64 a,.int .u64 b,.int .u64 c,.int .i64 d,.int .i64 e,.int .i64 f] 2 c rfl,p3 [.int .i64 a,.int .u64 b,.int .u64 c,.int .i64 d,.int .i64 e,.int .i64 f] 3 d rfl,p3 [.int .i64 a,.int .u64 b,.int .u64 c,.int .i64 d,.int .i64 e,.int .i64 f] 4 e rfl,p3 [.int .i64 a,.int .u64 b,.int .u64 c,.int .i64 d,.int .i64 e,.int .i64 f] 5 f rfl,oB,h3,h22]
 have p24:Qia tb 24 [.int .i64 a,.int .u64 b,.int .u64 c,.int .i64 d,.int .i64 e,.int .i64 f,.int .i64 g,.int .i64 h,.int .u64 i] 0=some (.agg ⟨[.int .i64 a,.int .u64 b,.int .u64 c,.int .i64 d,.int .i64 e,.int .i64 f]⟩):=by
  unfold Qia;simp only [Ty.ti24,Ty.g24,oB,Ty.s24];rfl
 have e26:eqA tb m 64 26 (.agg ⟨[.int .i64 a,.int .u64 b,.int .u64 c,.int .i64 d,.int .i64 e,.int .i64 f,.int .i64 g,.int .i64 h,.int .u64 i]⟩) (.agg ⟨[.int .i64 a,.int .u64 b,.int .u64 c,.int .i64 d,.int .i64 e,.int .i64 f,.int .i64 g,.int .i64 h,.int .u64 i]⟩)=some true:=by
  rw [eqA]
  simp only [Ty.ti26,oB,Ty.d26,eqSt,held26,Ty.f26]
  simp only [eqFields,p24,e24,p3 [.int .i64 a,.int .u64 b,.int .u64 c,.int .i64 d,.int .i64 e,.int .i64 f,.int .i64 g,.int .i64 h,.int .u64 i] 6 g rfl,p3 [.int .i64 a,.int .u64 b,.int .u64 c,.int .i64 d,.int .i64 e,.int .i64 f,.int .i64 g,.int .i64 h,.int .u64 i] 7 h rfl,p22 [.int .i64 a,.int .u64 b,.int .u64 c,.int .i64 d,.int .i64 e,.int .i64 f,.int .i64 g,.int .i64 h,.int .u64 i] 8 i rfl,oB,h3,h22]
 unfold binA
 simp only [eqOp,Qgm,Ty.ti26,guard26,Bool.not_false,e26,oB]
end Go.Proofs.YtgmkbdmgifdfeaaGreatDoor

set_option maxRecDepth 1000000
namespace Go.Proofs.YtgmkbdmgifdfeaaGreatDoor
open Go Go.Ev
noncomputable def tb0:Tabs:=Qdo Tryz.prog 8 .lf
theorem good:Tryz.prog.funcs.toList.all (Qpj 8)=true:=by kernel_rfl
noncomputable def formsRun:Option (Value × Mem):=runF tb0 600 30 [] ⟨.lf,8⟩
noncomputable def rrowsRun:Option (Value × Mem):=runF tb0 60 67 [] ⟨.lf,8⟩
theorem Ja7:ranTo 8 formsRun Qpk Qaq:=Qvt (by kernel_rfl) (by kernel_rfl) (by kernel_rfl) (by kernel_rfl)
theorem Qzm:ranTo 8 rrowsRun Qvo Qfu:=Qvt (by kernel_rfl) (by kernel_rfl) (by kernel_rfl) (by kernel_rfl)
end Go.Proofs.YtgmkbdmgifdfeaaGreatDoor

