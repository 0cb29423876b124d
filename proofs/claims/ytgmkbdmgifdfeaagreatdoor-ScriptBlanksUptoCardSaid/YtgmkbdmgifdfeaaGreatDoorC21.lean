/- A part of a proof: ScriptBlanks. -/
import Derived.Test.YtgmkbdmgifdfeaaGreatDoorC20
set_option linter.unusedVariables false
set_option linter.unusedSimpArgs false
set_option maxRecDepth 8000
namespace Go.Proofs.YtgmkbdmgifdfeaaGreatDoor
open Go Go.Ev
def ReadFR (form:List UInt8) (ws:List (List UInt8)) (m:Mem) (r:Value) (m':Mem):Prop :=
 ∃ f a1 a2 a3 ok,r=.tuple ⟨[.agg ⟨fsC f a1 a2 a3⟩,.bool ok]⟩∧Old m.next m m'∧(ok=true→Qa5 form ws=some f∧FsV m.next m' f (.agg ⟨fsC f a1 a2 a3⟩))∧(ok=false→Qa5 form ws=none)
theorem Qvl {m:Mem} {form:List UInt8} {v:Value} {ws:List (List UInt8)} (hW:Qdc m m.next v ws) (hl:ws.length≤2000000) (hlw:∀ w∈ws,w.length≤2000000) (hf:form.length≤20) :
  Qar tb 78 [.string ⟨⟨form⟩⟩,v] m (retR (ReadFR form ws m)):=by
 refine Qay Tryz.func78 e78 rfl rfl ?_
 simp only [s78,List.replicate,Klc,Kln,Kca,Kna,Nat.reduceAdd,Nat.reduceSub]
 obtain⟨av,rfl⟩:=hW.shape
 refine xsr fun Q' hQ=>?_
 simp
 subst hQ
 refine xsr fun Q' hQ=>?_
 simp
 subst hQ
 obtain⟨r0,hr0⟩:∃ r0,r0=m.next:=⟨_,rfl⟩
 obtain⟨mA,hmA⟩:∃ mA,mA=(Ev.stM (Qah (Qah m (Qbw 141 4 [Value.slice none 0 0,Value.slice none 0 0,.int .i64 0,Value.slice none 0 0])) (Qbw 141 4 [Value.slice none 0 0,Value.slice none 0 0,.int .i64 0,Value.slice none 0 0])) (m.next+1) 0 [Value.slice none 0 0,Value.slice none 0 0,.int .i64 0,Value.slice none 0 0]):=⟨_,rfl⟩
 rw [← hmA]
 have hI0:RdI m mA fs0:=by
  have hz:∀ (m:Mem) (x:Nat),x=m.next→vw (Qah m (Qbw 141 4 [Value.slice none 0 0,Value.slice none 0 0,.int .i64 0,Value.slice none 0 0])) x=some ⟨true,141,false,[Value.slice none 0 0,Value.slice none 0 0,.int .i64 0,Value.slice none 0 0]⟩:=by
   rintro m x rfl
   rw [Qcy,if_pos rfl];exact Qdn 141 [Value.slice none 0 0,Value.slice none 0 0,.int .i64 0,Value.slice none 0 0]
  subst hmA
  have h1:vw (Qah (Qah m (Qbw 141 4 [Value.slice none 0 0,Value.slice none 0 0,.int .i64 0,Value.slice none 0 0])) (Qbw 141 4 [Value.slice none 0 0,Value.slice none 0 0,.int .i64 0,Value.slice none 0 0])) (m.next+1)=some ⟨true,141,false,[Value.slice none 0 0,Value.slice none 0 0,.int .i64 0,Value.slice none 0 0]⟩:=hz _ _ rfl
  refine⟨(((Old.refl _ _).new (Knr _) _).new (by rw [Qae];omega) _).st (by omega) _ _,by rw [Qaq,Qae,Qae];omega,⟨.slice none 0 0,.slice none 0 0,.int .i64 0,.slice none 0 0,?_⟩,.slice none 0 0,.slice none 0 0,.slice none 0 0,?_,.inl ⟨rfl,rfl,rfl⟩,.inl ⟨rfl,rfl,rfl⟩,.inl ⟨rfl,rfl,rfl⟩⟩
  ·rw [Qab (by omega),Qcy,if_neg (by rw [Qae];omega)];exact hz _ _ rfl
  ·rw [Qax h1 (by simp [stOk,oneC])];rfl
 have hfs:fs0.ints=[]∧fs0.nats=[]∧fs0.way=0∧fs0.text=[]:=⟨rfl,rfl,rfl,rfl⟩
 clear hmA
 have done:∀ {m1:Mem} {f:Fs} {ok:Bool},RdI m m1 f→(ok=true→Qa5 form ws=some f)→(ok=false→Qa5 form ws=none)→∃ a1 a2 a3 a4 b4 c4 d4,vw m1 (m.next+1)=some ⟨true,141,false,fsC f a1 a2 a3⟩∧vw m1 m.next=some ⟨true,141,false,[a4,b4,c4,d4]⟩ ∧
   ∀ {l:List Value},(∃ x0 x1 x2 x3 ts,l=x0::x1::x2::x3::.pointer (some ⟨m.next,0,none⟩)::.bool ok::ts)→endX tb Tryz.f78.results.toList (retR (ReadFR form ws m)) (.jump .ret) l [] (stM m1 m.next 0 (fsC f a1 a2 a3)):=by
  intro m1 f ok hI h1 h0
  obtain⟨a1,a2,a3,a4,b4,c4,d4,g1,g2,g3,g4,g5⟩:=hI.fin
  refine⟨a1,a2,a3,a4,b4,c4,d4,g1,g2,?_⟩
  rintro l ⟨x0,x1,x2,x3,ts,rfl⟩
  refine⟨rfl,_,Qt3 (i:=4) (j:=5) rfl g3,f,a1,a2,a3,ok,rfl,g4,fun h=>⟨h1 h,g5⟩,h0⟩
 refine Qbg (fun l ds m'=>ds=[]∧m'=mA∧form≠[99]∧Sl [.string ⟨⟨form⟩⟩,.slice av ws.length ws.length,undef,undef,.pointer (some ⟨m.next,0,none⟩),.bool false,.pointer (some ⟨m.next+1,0,none⟩)] 138 l) ?_ ?_
 rotate_left
 ·refine xsr fun Q' hQ=>?_
  by_cases hc:form=[99]
  rotate_left
  ·simp [hc]
   subst hQ
   refine xno (by simp [hc]) (Qa2 ?_)
   exact⟨rfl,rfl,hc,Sl.mk rfl rfl⟩
  have hrf:Qa5 form ws=(Qb7 ws).map fun l => { fs0 with ints:=l }:=by unfold Qa5;rw [if_pos hc]
  simp [hc]
  subst hQ
  refine xyes (by simp) ?_
  refine Qbg (fun l ds m'=>ds=[]∧∃ f x7 x8 x9,RdI m m' f∧Qa5 form ws=some f∧Sl [.string ⟨⟨[99]⟩⟩,.slice av ws.length ws.length,undef,undef,.pointer (some ⟨m.next,0,none⟩),.bool false,.pointer (some ⟨m.next+1,0,none⟩),x7,x8,x9] 135 l) ?_ ?_
  ·rintro l ds m1 ⟨rfl,f,x7,x8,x9,hI,hf,ts,hts,rfl⟩
   obtain⟨a1,a2,a3,a4,b4,c4,d4,g1,g2,g3⟩:=done (ok:=true) hI (fun _=>hf) (fun h=>by cases h)
   simp only [fsC] at g1 g3
   refine xsr fun Q' hQ=>?_
   simp [hts,g1,g2,fsC]
   subst hQ
   refine xret (g3 ?_)
   exact⟨_,_,_,_,_,rfl⟩
  refine xsr fun Q' hQ=>?_
  simp
  subst hQ
  refine Qa1 (Qdf (N:=ws.length) (I:=fun q l ds m1=>∃ (k:Nat) (a:List Int) (x8 x9:Value),q=ws.length-k∧k≤ws.length∧ds=[]∧RdI m m1 { fs0 with ints:=a }∧a.length=k∧Qb7 ws=(Qb7 (ws.drop k)).map (a ++ ·)∧Sl [.string ⟨⟨[99]⟩⟩,.slice av ws.length ws.length,undef,undef,.pointer (some ⟨m.next,0,none⟩),.bool false,.pointer (some ⟨m.next+1,0,none⟩),.int .i64 (k:Nat),x8,x9] 135 l) ?_ ?_)
  ·exact⟨0,[],_,_,rfl,by omega,rfl,hI0,rfl,by simp,Sl.mk rfl rfl⟩
  rintro q l ds m1 ⟨k,a,x8,x9,rfl,hk,rfl,hI,hal,hai,us,hus,rfl⟩
  refine xseq (xseq (Qai fun Q' hQ=>?_))
  simp [hus]
  subst hQ
  refine xif (v:=decide ((k:Int)<(ws.length:Int))) (by simp [hus]) (fun h=>Qa2 ?_) (fun h=>Qcn ?_)
  rotate_left
  ·simp only [decide_eq_false_iff_not] at h
   obtain rfl:k=ws.length:=by omega
   rw [List.drop_length] at hai
   exact⟨rfl,_,_,_,_,hI,by rw [hrf,hai];simp [Qb7],Sl.mk rfl (by simp [hus])⟩
  simp only [decide_eq_true_eq] at h
  have hkl:k<ws.length:=by omega
  obtain⟨w,hw⟩:∃ w,ws[k]? = some w:=⟨_,Kge hkl⟩
  have hwl:=hlw w (List.mem_of_getElem? hw)
  obtain⟨b,o,all,hav,hb,hvb,hel,hol⟩:=hW.get hw
  obtain rfl:av=some ⟨b,o,none⟩:=by cases hav;rfl
  have hvb1:vw m1 b=some ⟨true,9,true,Qen all⟩:=by rw [hI.old.vw hb];exact hvb
  have hdr:ws.drop k=w::ws.drop (k+1):=by
   obtain⟨h1,h2⟩:=Kgs.1 hw
   rw [List.drop_eq_getElem_cons h1,h2]
  rw [hdr] at hai
  rw [Qaf]
  obtain⟨k1,hk1⟩:∃ k1,k1=k+1:=⟨_,rfl⟩
  have hw1:IntKind.wrap .i64 ((k:Int)+1)=(k1:Int):=by rw [wr64 _ (by omega) (by omega)];omega
  refine Qbg (fun l ds m'=>ds=[]∧∃ (a:List Int) (x8 x9:Value),RdI m m' { fs0 with ints:=a }∧a.length=k1∧Qb7 ws=(Qb7 (ws.drop k1)).map (a ++ ·)∧Sl [.string ⟨⟨[99]⟩⟩,.slice (some ⟨b,o,none⟩) ws.length ws.length,undef,undef,.pointer (some ⟨m.next,0,none⟩),.bool false,.pointer (some ⟨m.next+1,0,none⟩),.int .i64 (k:Nat),x8,x9] 135 l) ?_ ?_
  ·rintro l ds m3 ⟨rfl,a,x8,x9,hI,hal,hai,vs,hvs,rfl⟩
   refine Qai fun Q' hQ=>?_
   simp [hvs,hw1]
   subst hQ
   exact⟨ws.length-k1,by omega,k1,a,_,_,rfl,by omega,rfl,hI,hal,hai,Sl.mk rfl (by simp [hvs])⟩
  refine Qa1 (xseq (Qai fun Q' hQ=>?_))
  simp [hus,hkl,hvb1,hel,hol]
  refine Qao (Qad (by decide)) (Qm2 hwl) ?_ (fun ch m' h=>h.elim)
  rintro r m2 ⟨rfl,z,ok,rfl,hz1,hz2,h1,h2⟩
  simp [hus]
  subst hQ
  cases ok with
  |false =>
   refine xseq (xseq (Qai fun Q' hQ=>?_))
   simp [hus]
   subst hQ
   refine xyes (by simp [hus]) ?_
   obtain⟨a1,a2,a3,a4,b4,c4,d4,g1,g2,g3⟩:=done (ok:=false) hI (fun h=>by cases h) (fun _=>by rw [hrf,hai,Qb7,h2 rfl];rfl)
   simp only [fsC] at g1 g3
   refine xsr fun Q' hQ=>?_
   simp [hus,g1,g2,fsC]
   subst hQ
   refine xret (g3 ?_)
   exact⟨_,_,_,_,_,rfl⟩
  |true =>
   refine xseq (xseq (Qai fun Q' hQ=>?_))
   simp [hus]
   subst hQ
   refine xno (by simp [hus]) (Qa2 ?_)
   rw [Qaf]
   obtain⟨aw,vn,vt,aw1,m3,g1,g2,g3,hI3⟩:=hI.int1 z
   refine Qai fun Q' hQ=>?_
   simp only at g1 g2 g3
   simp [hus,g1,Qbo _ a.length a.length 1 8 (by omega),g2,g3,stOk,oneC]
   subst hQ
   refine⟨rfl,a++[z],_,_,hI3,by simp;omega,?_,Sl.mk rfl (by simp [hus])⟩
   rw [hai,Qb7,h1 rfl,hk1];simp [Option.map_map,Function.comp_def]
 rintro l ds m1 ⟨rfl,rfl,hc,ts,hts,rfl⟩
 have hrf:Qa5 form ws=Qat form ws fs0:=by unfold Qa5;rw [if_neg hc]
 refine Qbg (fun l ds m'=>ds=[]∧m'=m1∧form.length=ws.length∧Sl [.string ⟨⟨form⟩⟩,.slice av ws.length ws.length,undef,undef,.pointer (some ⟨m.next,0,none⟩),.bool false,.pointer (some ⟨m.next+1,0,none⟩)] 138 l) ?_ ?_
 rotate_left
 ·refine xsr fun Q' hQ=>?_
  by_cases he:ws.length=form.length
  ·simp [hts,he]
   subst hQ
   refine xno (by simp [hts]) (Qa2 ?_)
   exact⟨rfl,rfl,he.symm,Sl.mk (by simp [he]) (by simp [hts])⟩
  ·have he':¬ (ws.length:Int)=(form.length:Int):=by omega
   simp [hts,he']
   subst hQ
   refine xyes (by simp [hts]) ?_
   obtain⟨a1,a2,a3,a4,b4,c4,d4,g1,g2,g3⟩:=done (ok:=false) hI0 (fun h=>by cases h) (fun _=>by rw [hrf,Qkt _ _ _ (fun e=>he e.symm)])
   simp only [fsC] at g1 g3
   refine xsr fun Q' hQ=>?_
   simp [hts,g1,g2,fsC]
   subst hQ
   refine xret (g3 ?_)
   exact⟨_,_,_,_,_,rfl⟩
 clear hts
 rintro l ds m1 ⟨rfl,rfl,hlen,ts,hts,rfl⟩
 refine Qbg (fun l ds m'=>ds=[]∧∃ f x7 x8 x9,RdI m m' f∧Qa5 form ws=some f∧Sl [.string ⟨⟨form⟩⟩,.slice av ws.length ws.length,undef,undef,.pointer (some ⟨m.next,0,none⟩),.bool false,.pointer (some ⟨m.next+1,0,none⟩),x7,x8,x9] 135 l) ?_ ?_
 ·rintro l ds m1 ⟨rfl,f,x7,x8,x9,hI,hf,ts,hts,rfl⟩
  obtain⟨a1,a2,a3,a4,b4,c4,d4,g1,g2,g3⟩:=done (ok:=true) hI (fun _=>hf) (fun h=>by cases h)
  simp only [fsC] at g1 g3
  refine xsr fun Q' hQ=>?_
  simp [hts,g1,g2,fsC]
  subst hQ
  refine xret (g3 ?_)
  exact⟨_,_,_,_,_,rfl⟩
 obtain⟨x7,ts7,rfl,hts7⟩:=Qbj (n:=137) hts
 obtain⟨x8,ts8,rfl,hts8⟩:=Qbj (n:=136) hts7
 obtain⟨x9,ts9,rfl,hts9⟩:=Qbj (n:=135) hts8
 refine xsr fun Q' hQ=>?_
 simp [hts9]
 subst hQ
 obtain⟨y10,ts10,rfl,hts10⟩:=Qbj (n:=134) hts9
 refine Qa1 (Qdf (N:=ws.length) (I:=fun q l ds m1=>∃ (k:Nat) (f:Fs),q=ws.length-k∧k≤ws.length∧ds=[]∧RdI m m1 f∧f.ints.length≤k∧f.nats.length≤k∧Qa5 form ws=Qat (form.drop k) (ws.drop k) f∧Sl [.string ⟨⟨form⟩⟩,.slice av ws.length ws.length,undef,undef,.pointer (some ⟨m.next,0,none⟩),.bool false,.pointer (some ⟨m.next+1,0,none⟩),x7,x8,x9,.int .i64 (k:Nat)] 134 l) ?_ ?_)
 ·exact⟨0,fs0,rfl,by omega,rfl,hI0,by simp [fs0],by simp [fs0],hrf,Sl.mk rfl (by simp [hts10])⟩
 clear hts hts7 hts8 hts9 hts10
 rintro q l ds m1 ⟨k,f,rfl,hk,rfl,hI,hfi,hfn,hrg,us,hus,rfl⟩
 refine xseq (xseq (Qai fun Q' hQ=>?_))
 simp [hus]
 subst hQ
 refine xif (v:=decide ((k:Int)<(ws.length:Int))) (by simp [hus]) (fun h=>Qa2 ?_) (fun h=>Qcn ?_)
 rotate_left
 ·simp only [decide_eq_false_iff_not] at h
  obtain rfl:k=ws.length:=by omega
  rw [List.drop_length,← hlen,List.drop_length] at hrg
  exact⟨rfl,f,x7,x8,x9,hI,by rw [hrg];rfl,Sl.mk rfl (by simp [hus])⟩
 simp only [decide_eq_true_eq] at h
 have hkl:k<ws.length:=by omega
 obtain⟨w,hw⟩:∃ w,ws[k]? = some w:=⟨_,Kge hkl⟩
 obtain⟨c,hcf⟩:∃ c,form[k]? = some c:=⟨_,Kge (by omega)⟩
 have hwl:=hlw w (List.mem_of_getElem? hw)
 obtain⟨b,o,all,hav,hb,hvb,hel,hol⟩:=hW.get hw
 obtain rfl:av=some ⟨b,o,none⟩:=by cases hav;rfl
 have hvb1:vw m1 b=some ⟨true,9,true,Qen all⟩:=by rw [hI.old.vw hb];exact hvb
 have hdr:ws.drop k=w::ws.drop (k+1):=by
  obtain⟨h1,h2⟩:=Kgs.1 hw
  rw [List.drop_eq_getElem_cons h1,h2]
 rw [hdr,Qcl hcf,Qat] at hrg
 rw [Qaf]
 obtain⟨k1,hk1⟩:∃ k1,k1=k+1:=⟨_,rfl⟩
 have hw1:IntKind.wrap .i64 ((k:Int)+1)=(k1:Int):=by rw [wr64 _ (by omega) (by omega)];omega
 refine Qbg (fun l ds m'=>ds=[]∧∃ f,RdI m m' f∧f.ints.length≤k1∧f.nats.length≤k1∧Qa5 form ws=Qat (form.drop k1) (ws.drop k1) f∧Sl [.string ⟨⟨form⟩⟩,.slice (some ⟨b,o,none⟩) ws.length ws.length,undef,undef,.pointer (some ⟨m.next,0,none⟩),.bool false,.pointer (some ⟨m.next+1,0,none⟩),x7,x8,x9,.int .i64 (k:Nat)] 134 l) ?_ ?_
 ·rintro l ds m3 ⟨rfl,f,hI,h1,h2,h3,vs,hvs,rfl⟩
  refine Qai fun Q' hQ=>?_
  simp [hvs,hw1]
  subst hQ
  exact⟨ws.length-k1,by omega,k1,f,rfl,by omega,rfl,hI,h1,h2,h3,Sl.mk rfl (by simp [hvs])⟩
 refine Qa1 (xseq (Qai fun Q' hQ=>?_))
 simp [hus]
 subst hQ
 obtain⟨y11,us2,rfl,hus2⟩:=Qbj (n:=133) hus
 refine Qbg (fun l ds m'=>ds=[]∧∃ (f':Fs) (ok:Bool),RdI m m' f'∧f'.ints.length≤k1∧f'.nats.length≤k1∧(ok=true→Qfm c w f=some f')∧(ok=false→Qfm c w f=none)∧Sl [.string ⟨⟨form⟩⟩,.slice (some ⟨b,o,none⟩) ws.length ws.length,undef,undef,.pointer (some ⟨m.next,0,none⟩),.bool false,.pointer (some ⟨m.next+1,0,none⟩),x7,x8,x9,.int .i64 (k:Nat),.bool ok] 133 l) ?_ ?_
 ·rintro l ds m3 ⟨rfl,f',ok,hI,h1,h2,h3,h4,vs,hvs,rfl⟩
  refine xsr fun Q' hQ=>?_
  cases ok with
  |false =>
   simp [hvs]
   subst hQ
   refine xyes (by simp [hvs]) ?_
   obtain⟨a1,a2,a3,a4,b4,c4,d4,g1,g2,g3⟩:=done (ok:=false) hI (fun h=>by cases h) (fun _=>by rw [hrg,h4 rfl];rfl)
   simp only [fsC] at g1 g3
   refine xsr fun Q' hQ=>?_
   simp [hvs,g1,g2,fsC]
   subst hQ
   refine xret (g3 ?_)
   exact⟨_,_,_,_,_,rfl⟩
  |true =>
   simp [hvs]
   subst hQ
   refine xno (by simp [hvs]) (Qa2 ?_)
   exact⟨rfl,f',hI,h1,h2,by rw [hrg,h3 rfl,hk1];rfl,Sl.mk rfl (by simp [hvs])⟩
 refine xsr fun Q' hQ=>?_
 simp [hus2,hcf]
 subst hQ
 have no:∀ {l:List Value} {ok:Bool},ok=false→Qfm c w f=none→Sl [.string ⟨⟨form⟩⟩,.slice (some ⟨b,o,none⟩) ws.length ws.length,undef,undef,.pointer (some ⟨m.next,0,none⟩),.bool false,.pointer (some ⟨m.next+1,0,none⟩),x7,x8,x9,.int .i64 (k:Nat),.bool ok] 133 l →
   (∃ (f':Fs) (ok:Bool),RdI m m1 f'∧f'.ints.length≤k1∧f'.nats.length≤k1∧(ok=true→Qfm c w f=some f')∧(ok=false→Qfm c w f=none)∧Sl [.string ⟨⟨form⟩⟩,.slice (some ⟨b,o,none⟩) ws.length ws.length,undef,undef,.pointer (some ⟨m.next,0,none⟩),.bool false,.pointer (some ⟨m.next+1,0,none⟩),x7,x8,x9,.int .i64 (k:Nat),.bool ok] 133 l):=by
  rintro l ok rfl hno hl
  exact⟨f,false,hI,by omega,by omega,(fun h=>by cases h),fun _=>hno,hl⟩
 refine Qa1 (xseq (Qai fun Q' hQ=>?_))
 by_cases c105:c=105
 ·subst c105
  simp [hus2]
  subst hQ
  refine xyes (by simp [hus2]) ?_
  refine xsr fun Q' hQ=>?_
  simp [hus2]
  subst hQ
  refine xsr fun Q' hQ=>?_
  simp [hus2,hkl,hvb1,hel,hol]
  refine Qao (Qad (by decide)) (Qm2 hwl) ?_ (fun ch m' h=>h.elim)
  rintro r m2 ⟨rfl,z,ok,rfl,hz1,hz2,h1,h2⟩
  simp [hus2]
  subst hQ
  obtain⟨aw,vn,vt,aw1,m3,g1,g2,g3,hI3⟩:=hI.int1 z
  refine Qai fun Q' hQ=>?_
  simp [hus2,g1,Qbo _ f.ints.length f.ints.length 1 8 (by omega),g2,g3,stOk,oneC]
  subst hQ
  refine⟨rfl,_,ok,hI3,by simp;omega,by simp;omega,(fun h=>by simp [Qfm,h1 h]),(fun h=>by simp [Qfm,h2 h]),Sl.mk rfl (by simp [hus2])⟩
 have c105':¬ (c.toNat:Int)=105:=fun e=>c105 ((u8i (n:=105) (by omega)).1 e)
 simp [hus2,c105']
 subst hQ
 refine xno (by simp [hus2]) ?_
 refine xsr fun Q' hQ=>?_
 by_cases c110:c=110
 ·subst c110
  simp [hus2]
  subst hQ
  refine xyes (by simp [hus2]) ?_
  refine xsr fun Q' hQ=>?_
  simp [hus2]
  subst hQ
  refine xsr fun Q' hQ=>?_
  simp [hus2,hkl,hvb1,hel,hol]
  refine Qao (Qad (by decide)) (Qip (b:=18446744073709551615) hwl (by omega)) ?_ (fun ch m' h=>h.elim)
  rintro r m2 ⟨rfl,z,ok,rfl,hz,h1,h2⟩
  simp [hus2]
  subst hQ
  obtain⟨aw,vi,vt,aw1,m3,g1,g2,g3,hI3⟩:=hI.nat1 (z:Int)
  refine Qai fun Q' hQ=>?_
  simp [hus2,g1,Qbo _ f.nats.length f.nats.length 1 8 (by omega),g2,g3,stOk,oneC]
  subst hQ
  refine⟨rfl,_,ok,hI3,by simp;omega,by simp;omega,(fun h=>by simp [Qfm,Qa9,h1 h]),(fun h=>by simp [Qfm,Qa9,h2 h]),Sl.mk rfl (by simp [hus2])⟩
 have c110':¬ (c.toNat:Int)=110:=fun e=>c110 ((u8i (n:=110) (by omega)).1 e)
 simp [hus2,c110']
 subst hQ
 refine xno (by simp [hus2]) ?_
 refine xsr fun Q' hQ=>?_
 by_cases c109:c=109
 ·subst c109
  simp [hus2]
  subst hQ
  refine xyes (by simp [hus2]) ?_
  refine xsr fun Q' hQ=>?_
  simp [hus2]
  subst hQ
  refine xsr fun Q' hQ=>?_
  simp [hus2,hkl,hvb1,hel,hol]
  refine Qao (Qad (by decide)) (Qip (b:=4294967295) hwl (by omega)) ?_ (fun ch m' h=>h.elim)
  rintro r m2 ⟨rfl,z,ok,rfl,hz,h1,h2⟩
  simp [hus2]
  subst hQ
  obtain⟨aw,vi,vt,aw1,m3,g1,g2,g3,hI3⟩:=hI.nat1 (z:Int)
  refine Qai fun Q' hQ=>?_
  simp [hus2,g1,Qbo _ f.nats.length f.nats.length 1 8 (by omega),g2,g3,stOk,oneC]
  subst hQ
  refine⟨rfl,_,ok,hI3,by simp;omega,by simp;omega,(fun h=>by simp [Qfm,Qfk,h1 h]),(fun h=>by simp [Qfm,Qfk,h2 h]),Sl.mk rfl (by simp [hus2])⟩
 have c109':¬ (c.toNat:Int)=109:=fun e=>c109 ((u8i (n:=109) (by omega)).1 e)
 simp [hus2,c109']
 subst hQ
 refine xno (by simp [hus2]) ?_
 refine xsr fun Q' hQ=>?_
 by_cases c119:c=119
 ·subst c119
  simp [hus2]
  subst hQ
  refine xyes (by simp [hus2]) ?_
  have hneq:([101,120,112,114,101,115,115]:List UInt8)≠[102,114,101,105,103,104,116]:=by decide
  obtain⟨⟨vi,vn,vt,g1⟩,hI3⟩:=hI.way1 1
  obtain⟨⟨vi2,vn2,vt2,g2⟩,hI4⟩:=hI3.way1 2
  by_cases hf:w=[102,114,101,105,103,104,116]
  ·have he:¬ w=[101,120,112,114,101,115,115]:=fun e=>hneq (e.symm.trans hf)
   have hfe:¬ ([102,114,101,105,103,104,116]:List UInt8)=[101,120,112,114,101,115,115]:=fun e=>hneq e.symm
   have hwy:Qd2 w=some 2:=by unfold Qd2;rw [if_neg (show ¬ w=Qka from he),if_pos (show w=Qme from hf)]
   subst hf
   refine xsr fun Q' hQ=>?_
   simp [hus2,hkl,hvb1,hel,hol]
   subst hQ
   refine xsr fun Q' hQ=>?_
   simp [hus2,g1,stOk,oneC]
   subst hQ
   have hvb2:vw (stM m1 (m.next+1) 2 [.int .i64 1]) b=some ⟨true,9,true,Qen all⟩:=by rw [hI3.old.vw hb];exact hvb
   refine xsr fun Q' hQ=>?_
   simp [hus2,hkl,hvb2,hel,hol]
   subst hQ
   refine xyes (by simp [hus2]) ?_
   refine Qai fun Q' hQ=>?_
   simp [hus2,g2,stOk,oneC]
   subst hQ
   refine⟨rfl,_,true,hI4,by simp;omega,by simp;omega,(fun h=>by simp [Qfm,hwy]),(fun h=>by cases h),Sl.mk rfl (by simp [hus2])⟩
  ·by_cases he:w=[101,120,112,114,101,115,115]
   ·have hwy:Qd2 w=some 1:=by unfold Qd2;rw [if_pos (show w=Qka from he)]
    subst he
    refine xsr fun Q' hQ=>?_
    simp [hus2,hkl,hvb1,hel,hol]
    subst hQ
    refine xsr fun Q' hQ=>?_
    simp [hus2,g1,stOk,oneC]
    subst hQ
    have hvb2:vw (stM m1 (m.next+1) 2 [.int .i64 1]) b=some ⟨true,9,true,Qen all⟩:=by rw [hI3.old.vw hb];exact hvb
    refine xsr fun Q' hQ=>?_
    simp [hus2,hkl,hvb2,hel,hol]
    subst hQ
    refine xno (by simp [hus2]) (Qa2 ?_)
    refine⟨rfl,_,true,hI3,by simp;omega,by simp;omega,(fun h=>by simp [Qfm,hwy]),(fun h=>by cases h),Sl.mk rfl (by simp [hus2])⟩
   ·have hwy:Qd2 w=none:=by unfold Qd2;rw [if_neg (show ¬ w=Qka from he),if_neg (show ¬ w=Qme from hf)]
    refine xsr fun Q' hQ=>?_
    simp [hus2,hkl,hvb1,hel,hol,he,hf]
    subst hQ
    refine xsr fun Q' hQ=>?_
    simp [hus2,g1,stOk,oneC]
    subst hQ
    have hvb2:vw (stM m1 (m.next+1) 2 [.int .i64 1]) b=some ⟨true,9,true,Qen all⟩:=by rw [hI3.old.vw hb];exact hvb
    refine xsr fun Q' hQ=>?_
    simp [hus2,hkl,hvb2,hel,hol,hf]
    subst hQ
    refine xno (by simp [hus2]) (Qa2 ?_)
    refine⟨rfl,_,false,hI3,by simp;omega,by simp;omega,(fun h=>by cases h),(fun h=>by simp [Qfm,hwy]),Sl.mk rfl (by simp [hus2])⟩
 have c119':¬ (c.toNat:Int)=119:=fun e=>c119 ((u8i (n:=119) (by omega)).1 e)
 simp [hus2,c119']
 subst hQ
 refine xno (by simp [hus2]) ?_
 refine xsr fun Q' hQ=>?_
 by_cases c116:c=116
 ·subst c116
  simp [hus2]
  subst hQ
  refine xyes (by simp [hus2]) ?_
  refine xsr fun Q' hQ=>?_
  simp [hus2,hkl,hvb1,hel,hol]
  refine Qao (Qad (by decide)) (Qtp hwl) ?_ (fun ch m' h=>h.elim)
  rintro r m2 ⟨v',ok,rfl,hO2,h1,h2⟩
  simp [hus2]
  subst hQ
  cases ok with
  |true =>
   obtain⟨s,hs,hown,hsl⟩:=h1 rfl
   obtain⟨a',rfl⟩:=hown.shape
   obtain⟨⟨vi,vn,vt,g1⟩,hI3⟩:=hI.text1 hO2 (hown.le hI.old.1)
   refine xsr fun Q' hQ=>?_
   simp [hus2,g1,stOk,oneC]
   subst hQ
   refine Qai fun Q' hQ=>?_
   simp [hus2]
   subst hQ
   exact⟨rfl,_,true,hI3,by simp;omega,by simp;omega,(fun h=>by simp [Qfm,hs]),(fun h=>by cases h),Sl.mk rfl (by simp [hus2])⟩
  |false =>
   obtain⟨hno,rfl⟩:=h2 rfl
   obtain⟨⟨vi,vn,vt,g1⟩,hI3⟩:=hI.text1 (s:=[]) hO2 (.inl ⟨rfl,rfl,rfl⟩)
   refine xsr fun Q' hQ=>?_
   simp [hus2,g1,stOk,oneC]
   subst hQ
   refine Qai fun Q' hQ=>?_
   simp [hus2]
   subst hQ
   exact⟨rfl,_,false,hI3,by simp;omega,by simp;omega,(fun h=>by cases h),(fun h=>by simp [Qfm,hno]),Sl.mk rfl (by simp [hus2])⟩
 have c116':¬ (c.toNat:Int)=116:=fun e=>c116 ((u8i (n:=116) (by omega)).1 e)
 simp [hus2,c116']
 subst hQ
 refine xno (by simp [hus2]) (Qa2 ?_)
 exact⟨rfl,no rfl (by simp only [Qfm,if_neg c105,if_neg c110,if_neg c109,if_neg c119,if_neg c116]) (Sl.mk rfl (by simp [hus2]))⟩
end Go.Proofs.YtgmkbdmgifdfeaaGreatDoor

set_option maxRecDepth 8000
namespace Go.Proofs.YtgmkbdmgifdfeaaGreatDoor
open Go Go.Ev
def Qbb (x:Stu):List Value:=[.int .i64 x.mtu,.int .u64 x.ack,.int .u64 x.retry,.int .i64 x.retries,.int .i64 x.window,.int .i64 x.inbox,.int .i64 x.sectors,.int .i64 x.room,.int .u64 x.start]
theorem Qmp (s:Stp) (d c:Value):(Qaa s d c).length=17:=rfl
def Qem (n0:Nat) (m:Mem) (v:Value) (ss:List Stp):Prop :=
 ∃ cells,SlOld n0 m v ss.length cells∧cells.length=ss.length*17∧∀ k s,ss[k]? = some s→s.R∧∃ d c,Qb3 cells (k*17) 17=Qaa s d c∧SlOld n0 m d s.data.length (u8s s.data)∧SlOld n0 m c s.choices.length (i64s s.choices)
theorem Qem.old {n0:Nat} {m m':Mem} {v:Value} {ss:List Stp} (h:Qem n0 m v ss) (k:Old n0 m m'):Qem n0 m' v ss:=by
 obtain⟨cells,h1,h2,h3⟩:=h
 refine⟨cells,h1.old k,h2,fun j s hj=>?_⟩
 obtain⟨h4,d,c,h5,h6,h7⟩:=h3 j s hj
 exact⟨h4,d,c,h5,h6.old k,h7.old k⟩
theorem _root_.Go.Ev.SlOld.up {n0 n1 n:Nat} {m:Mem} {v:Value} {cells:List Value} (h:SlOld n0 m v n cells) (k:n0≤n1):SlOld n1 m v n cells:=by
 rcases h with h|⟨b,o,c,rfl,h1,h2|⟨h2,h3⟩⟩
 ·exact .inl h
 ·exact .inr ⟨b,o,c,rfl,h1,.inl h2⟩
 ·exact .inr ⟨b,o,c,rfl,h1,.inr ⟨h2,Nat.lt_of_lt_of_le h3 k⟩⟩
theorem Qem.shape {n0:Nat} {m:Mem} {v:Value} {ss:List Stp} (h:Qem n0 m v ss):∃ a c,v=.slice a ss.length c:=by
 obtain⟨cells,h1,_⟩:=h
 rcases h1 with ⟨rfl,h1,_⟩|⟨b,o,c,rfl,_⟩
 ·exact⟨none,0,by rw [h1]⟩
 ·exact⟨_,_,rfl⟩
theorem Qem.load {n0:Nat} {m:Mem} {v:Value} {ss:List Stp} (h:Qem n0 m v ss) (hn:n0≤m.next) {k:Nat} {s:Stp} (hk:ss[k]? = some s) :
  ∃ b o c,v=.slice (some ⟨b,o,none⟩) ss.length c∧s.R∧∃ ad dc ac cc,Qfi tb 36 m (.pointer (some ⟨b,o+k*17,none⟩))=.r (.agg ⟨Qaa s (.slice ad s.data.length dc) (.slice ac s.choices.length cc)⟩) ∧
    SlOld n0 m (.slice ad s.data.length dc) s.data.length (u8s s.data)∧SlOld n0 m (.slice ac s.choices.length cc) s.choices.length (i64s s.choices)∧(Qaa s (.slice ad s.data.length dc) (.slice ac s.choices.length cc)).all oneC=true∧n0≤m.next∧k<ss.length:=by
 obtain⟨cells,h1,h2,h3⟩:=h
 obtain⟨h4,d,c,h5,h6,h7⟩:=h3 k s hk
 have hk1:=(Kgs.1 hk).1
 obtain⟨b,o,c',h8,h9,h10,h11,h12⟩:=(h1.at hn).loadA (k:=k*17) (sz:=17) (by omega) (by omega)
 obtain⟨ad,dc,rfl⟩:=(h6.at hn).shape
 obtain⟨ac,cc,rfl⟩:=(h7.at hn).shape
 refine⟨b,o,c',h8,h4,ad,dc,ac,cc,?_,h6,h7,rfl,hn,hk1⟩
 rw [h12 Ty.ti36 Ty.g36 Ty.s36,h5]
theorem Qmg (m:Mem) (t:TypeId) (n:Nat) (z cells:List Value) (hz:n=z.length) (h1:cells.length=z.length) (h2:cells.all oneC=true) :
  ∃ m3,m3=stM (Qah m (Qbw t n z)) m.next 0 cells∧m3.next=m.next+1∧vw m3 m.next=some ⟨true,t,false,cells⟩∧∀ x,x<m.next→m3.objs.get x=m.objs.get x:=by
 subst hz
 have hA:vw (Qah m (Qbw t z.length z)) m.next=some ⟨true,t,false,z⟩:=by rw [Qcy,if_pos rfl];exact Qdn t z
 have hS:stOk ⟨true,t,false,z⟩ 0 cells=true:=by simp [h1,h2]
 refine⟨_,rfl,by rw [Qaq,Qae],?_,fun x hx=>by rw [Qbl (by omega),Qam,if_neg (by omega)]⟩
 rw [Qax hA hS,Qo2 (by simp [h1])]
 simp [h1]
def Safe (m:Mem) (p:Nat) (v:Value) (x:Nat):Prop:=x<m.next∧x≠p∧blkV v≠some x
theorem Two.safe {m m':Mem} {p:Nat} {v v':Value} {x:Nat} (h:Two m m' p v v') (s:Safe m p v x):Safe m' p v' x∧vw m' x=vw m x:=by
 obtain⟨h1,h2⟩:=h.2 x s.1 s.2.1 s.2.2
 exact⟨⟨Nat.lt_of_lt_of_le s.1 h.1,s.2.1,h2⟩,by unfold vw;rw [h1]⟩
theorem Prn.safe_new {n0 p:Nat} {m m':Mem} {v:Value} {out:List UInt8} {g:Bool} (h:Prn n0 m p v out g) (hn:m.next<m'.next):Safe m' p v m.next:=by
 obtain⟨a,hge,hlt,hty,hrow,hadr,hown,hne⟩:=h
 refine⟨hn,by omega,?_⟩
 rcases hown with ⟨rfl,_⟩|⟨b,rfl,h1,h2,h3⟩
 ·intro e;cases e
 ·intro e;have e2:b=m.next:=Kai e;omega
theorem Prn.grow {n0 p:Nat} {m m':Mem} {v:Value} {out:List UInt8} {g:Bool} (h:Prn n0 m p v out g) (k:∀ x,x<m.next→m'.objs.get x=m.objs.get x) (hn:m.next≤m'.next):Prn n0 m' p v out g:=by
 obtain⟨a,h⟩:=h
 exact⟨a,h.lift (fun x _ hx=>k x hx) hn⟩
theorem Qvm {m m':Mem} {p k0:Nat} {v v':Value} (h:Two m m' p v v') (hs:∀ x,k0≤x→x<k0+109→Safe m p v x) (hr:Qbq Qav m k0):(∀ x,k0≤x→x<k0+109→Safe m' p v' x)∧Qbq Qav m' k0 :=
 ⟨fun x h1 h2=>(h.safe (hs x h1 h2)).1,hr.keep fun x h1 h2=>(h.2 x (hs x h1 h2).1 (hs x h1 h2).2.1 (hs x h1 h2).2.2).1⟩
theorem quote_le (l:List UInt8):(Qm4 l).length≤4*l.length+2:=by
 have:∀ l:List UInt8,(l.flatMap Qfn).length≤4*l.length:=by
  intro l
  induction l with
  |nil=>simp
  |cons b l ih =>
   have:(Qfn b).length≤4:=by unfold Qfn;repeat (split<;>try simp)
   simp only [List.flatMap_cons,Kla,Klc];omega
 have:=this l
 simp only [Qm4,Klc,Kla,Kln];omega
theorem decIs_le (l:List Int) (h:∀ x∈l,i64R x):(l.flatMap decI).length≤22*l.length:=by
 induction l with
 |nil=>simp
 |cons b l ih =>
  have h1:=Qgp (h b (by simp))
  have h2:=ih fun x hx=>h x (by simp [hx])
  simp only [List.flatMap_cons,Kla,Klc,decI] at h2 ⊢;omega
theorem Qbi {z:Int} (h:i64R z):(decI z).length≤22:=by have:=Qgp h;simp only [decI,Klc];omega
theorem Qby {z:Int} (h:u64R z):(decU z).length≤21:=by have:=Qqy h;simp only [decU,Klc];omega
theorem fd_le {s:Stp} (h:s.R) (f:Fd):(f.text s).length≤25+22*s.choices.length+4*s.data.length:=by
 have hm:u64R s.mask:=⟨h.mask.1,by have:=h.mask.2;omega⟩
 cases f
 case stream=>have:=Qbi h.stream;simp only [Fd.text];omega
 case qc=>have:=Qbi h.qc;simp only [Fd.text];omega
 case qb=>have:=Qbi h.qb;simp only [Fd.text];omega
 case place=>have:=Qbi h.place;simp only [Fd.text];omega
 case pos=>have:=Qbi h.pos;simp only [Fd.text];omega
 case cursor=>have:=Qbi h.cursor;simp only [Fd.text];omega
 case time=>have:=Qby h.time;simp only [Fd.text];omega
 case life=>have:=Qby h.life;simp only [Fd.text];omega
 case seq=>have:=Qby h.seq;simp only [Fd.text];omega
 case to=>have:=Qby h.to;simp only [Fd.text];omega
 case ticks=>have:=Qby h.ticks;simp only [Fd.text];omega
 case mask=>have:=Qby hm;simp only [Fd.text];omega
 case data=>have:=quote_le s.data;simp only [Fd.text,Klc];omega
 case way=>simp only [Fd.text];split<;>simp<;>omega
 case choices=>have:=decIs_le s.choices h.choices;simp only [Fd.text];omega
theorem Qun (k:Nat):(fieldsOf k).length≤4:=by unfold fieldsOf;split<;>simp
theorem word8 (k:Nat):(Qbh k).length≤8:=by unfold Qbh;split<;>simp
theorem Jbd {s:Stp} (h:s.R) (l:List Fd):(l.flatMap fun f=>f.text s).length≤l.length*(25+22*s.choices.length+4*s.data.length):=by
 induction l with
 |nil=>simp
 |cons f l ih =>
  have:=fd_le h f
  simp only [List.flatMap_cons,Kla,Klc]
  rw [Nat.succ_mul];omega
def Qi3 (s:Stp):Nat:=400+100*s.choices.length+20*s.data.length
theorem line_le {s:Stp} (h:s.R):(Qey s).length≤Qi3 s:=by
 have h1:=Jbd h (fieldsOf s.kind.toNat)
 have h2:=Qun s.kind.toNat
 have h3:=word8 s.kind.toNat
 have h4:(fieldsOf s.kind.toNat).length*(25+22*s.choices.length+4*s.data.length)≤4*(25+22*s.choices.length+4*s.data.length):=Nat.mul_le_mul_right _ h2
 have h5:=Qgp h.node
 unfold Qey Qi3
 simp only [Kla,Klc,Kln]
 split<;>simp only [Kln,Kla,Klc]<;>omega
def Qco (ss:List Stp):Nat:=(ss.map Qi3).sum
theorem Qvw (ss:List Stp) (h:∀ s∈ss,s.R):(ss.flatMap Qey).length≤Qco ss:=by
 induction ss with
 |nil=>simp [Qco]
 |cons s ss ih =>
  have h1:=line_le (h s (by simp))
  have h2:=ih fun x hx=>h x (by simp [hx])
  simp only [List.flatMap_cons,Kla,Qco,List.map_cons,List.sum_cons] at h2 ⊢;omega
theorem Qrf (ss:List Stp) {k:Nat} {s:Stp} (h:ss[k]? = some s):Qco (ss.take k)+Qi3 s≤Qco ss:=by
 have hk:=(Kgs.1 h).1
 have:ss=ss.take k++s::ss.drop (k+1):=by
  rw [← Kgs.1 h |>.2,List.getElem_cons_drop,List.take_append_drop]
 conv=>rhs;rw [this]
 simp only [Qco,List.map_append,List.sum_append,List.map_cons,List.sum_cons];omega
theorem head_le {x:Stu} (h:x.R):(Qd7 x).length≤300:=by
 have h1:=Qbi h.sectors;have h2:=Qbi h.room;have h3:=Qby h.start;have h4:=Qbi h.mtu;have h5:=Qby h.ack;have h6:=Qby h.retry
 have h7:=Qbi h.retries;have h8:=Qbi h.window;have h9:=Qbi h.inbox
 simp only [Qd7,Kla,Klc,Kln];omega
theorem Qnw {n0 p k0:Nat} {m:Mem} {rv pv:Value} {f:Fd} (hn:n0≤m.next) (hp:Qeo m) (hp0:0<n0) (h:IsFd m k0 rv pv f) (hk:k0+109≤m.next) :
  ∃ fn caps,pv=.func (.func fn) ⟨[]⟩ ⟨caps⟩∧tb.ov.get fn=none∧∀ (s:Stp) (d c v:Value) (out:List UInt8) (g:Bool),(f=.way→s.way=1∨s.way=2)→s.R→SlOld n0 m d s.data.length (u8s s.data)→SlOld n0 m c s.choices.length (i64s s.choices)→Prn n0 m p v out g→out.length+25*s.choices.length+10*s.data.length≤800000000 →
    Qar tb fn ([.pointer (some ⟨p,0,none⟩),.agg ⟨Qaa s d c⟩]++caps) m (retR fun r m'=>∃ v',Prn n0 m' p v' (out++f.text s) (g||f.great s)∧Old n0 m m'∧Two m m' p v v'):=by
 have hi:∀ (f:Fd) (o:Nat),(∃ cb,k0≤cb∧cb<k0+109∧rv=.func (.func 83) ⟨[]⟩ ⟨[.pointer (some ⟨cb,0,none⟩)]⟩∧pv=.func (.func 85) ⟨[]⟩ ⟨[.pointer (some ⟨cb,0,none⟩)]⟩∧vw m cb=some ⟨true,118,false,[.func (.func (adrOf f)) ⟨[]⟩ ⟨[]⟩]⟩)→Adr (adrOf f) o →
   (∀ s:Stp,∀ d c,s.R→∃ z,(Qaa s d c)[o]? = some (.int .i64 z)∧i64R z∧f.text s=decI z∧f.great s=Qbn z)→∃ fn caps,pv=.func (.func fn) ⟨[]⟩ ⟨caps⟩∧tb.ov.get fn=none∧PrK f fn caps n0 p m:=by
  rintro f o ⟨cb,h1,h2,_,rfl,h3⟩ ha hf
  exact⟨_,_,rfl,Qad (by decide),Ja3 ha hn hp hp0 h3 (by omega) hf⟩
 have hu:∀ (f:Fd) (g o:Nat),(∃ cb,k0≤cb∧cb<k0+109∧rv=.func (.func 86) ⟨[]⟩ ⟨[.pointer (some ⟨cb,0,none⟩)]⟩∧pv=.func (.func 88) ⟨[]⟩ ⟨[.pointer (some ⟨cb,0,none⟩)]⟩∧vw m cb=some ⟨true,121,false,[.func (.func g) ⟨[]⟩ ⟨[]⟩]⟩)→Adr g o →
   (∀ s:Stp,∀ d c,s.R→∃ z,(Qaa s d c)[o]? = some (.int .u64 z)∧u64R z∧f.text s=decU z∧f.great s=false)→∃ fn caps,pv=.func (.func fn) ⟨[]⟩ ⟨caps⟩∧tb.ov.get fn=none∧PrK f fn caps n0 p m:=by
  rintro f g o ⟨cb,h1,h2,_,rfl,h3⟩ ha hf
  exact⟨_,_,rfl,Qad (by decide),Jal ha hn hp hp0 h3 (by omega) hf⟩
 by_cases hw:f=.way
 ·subst hw
  obtain⟨_,rfl⟩:=h
  refine⟨96,[],rfl,Qad (by decide),fun s d c v out g hway _ _ _ hP hb=>?_⟩
  have:=Qyf hn s d c v out g (hway rfl) hP (by omega)
  simpa [Fd.great] using this
 ·suffices hs:∃ fn caps,pv=.func (.func fn) ⟨[]⟩ ⟨caps⟩∧tb.ov.get fn=none∧PrK f fn caps n0 p m by
   obtain⟨fn,caps,h1,h2,h3⟩:=hs
   exact⟨fn,caps,h1,h2,fun s d c v out g _=>h3 s d c v out g⟩
  cases f
  case way=>exact absurd rfl hw
  case data=>exact⟨92,[],h.2,Qad (by decide),Qxz hn⟩
  case mask=>exact⟨101,[],h.2,Qad (by decide),Qxh hn hp hp0⟩
  case choices=>exact⟨103,[],h.2,Qad (by decide),Qq1 hn hp hp0⟩
  case stream=>exact hi .stream 2 h adr82 fun s d c hR=>⟨_,rfl,hR.stream,rfl,rfl⟩
  case qc=>exact hi .qc 7 h adr51 fun s d c hR=>⟨_,rfl,hR.qc,rfl,rfl⟩
  case qb=>exact hi .qb 8 h adr52 fun s d c hR=>⟨_,rfl,hR.qb,rfl,rfl⟩
  case place=>exact hi .place 10 h adr97 fun s d c hR=>⟨_,rfl,hR.place,rfl,rfl⟩
  case pos=>exact hi .pos 11 h adr98 fun s d c hR=>⟨_,rfl,hR.pos,rfl,rfl⟩
  case cursor=>exact hi .cursor 15 h adr104 fun s d c hR=>⟨_,rfl,hR.cursor,rfl,rfl⟩
  case time=>exact hu .time 89 3 h adr89 fun s d c hR=>⟨_,rfl,hR.time,rfl,rfl⟩
  case life=>exact hu .life 55 4 h adr55 fun s d c hR=>⟨_,rfl,hR.life,rfl,rfl⟩
  case seq=>exact hu .seq 54 6 h adr54 fun s d c hR=>⟨_,rfl,hR.seq,rfl,rfl⟩
  case to=>exact hu .to 56 16 h adr56 fun s d c hR=>⟨_,rfl,hR.to,rfl,rfl⟩
  case ticks=>exact hu .ticks 57 13 h adr57 fun s d c hR=>⟨_,rfl,hR.ticks,rfl,rfl⟩
end Go.Proofs.YtgmkbdmgifdfeaaGreatDoor

