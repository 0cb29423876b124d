/- A part of a proof: ScriptOwn. -/
import Derived.Test.YtgmkbdmgifdfeaaGreatDoorF20
set_option linter.unusedVariables false
set_option linter.unusedSimpArgs false
set_option maxRecDepth 8000
namespace Go.Proofs.YtgmkbdmgifdfeaaGreatDoor
open Go Go.Ev
def ReadFR (form:List UInt8) (ws:List (List UInt8)) (m:Mem) (r:Value) (m':Mem):Prop :=
 ∃ f a1 a2 a3 ok,r=.tuple ⟨[.agg ⟨fsC f a1 a2 a3⟩,.bool ok]⟩∧Old m.next m m'∧(ok=true→readF form ws=some f∧FsV m.next m' f (.agg ⟨fsC f a1 a2 a3⟩))∧(ok=false→readF form ws=none)
theorem rread_ok {m:Mem} {form:List UInt8} {v:Value} {ws:List (List UInt8)} (hW:WordsV m m.next v ws) (hl:ws.length≤2000000) (hlw:∀ w∈ws,w.length≤2000000) (hf:form.length≤20) :
  CallsA tb 78 [.string ⟨⟨form⟩⟩,v] m (retR (ReadFR form ws m)):=by
 refine callsS Tryz.func78 e78 rfl rfl ?_
 simp only [s78,List.replicate,List.length_cons,List.length_nil,List.cons_append,List.nil_append,Nat.reduceAdd,Nat.reduceSub]
 obtain⟨av,rfl⟩:=hW.shape
 refine xsr fun Q' hQ=>?_
 simp
 subst hQ
 refine xsr fun Q' hQ=>?_
 simp
 subst hQ
 obtain⟨r0,hr0⟩:∃ r0,r0=m.next:=⟨_,rfl⟩
 obtain⟨mA,hmA⟩:∃ mA,mA=(Ev.stM (newObjA (newObjA m (zeroObj 141 4 [Value.slice none 0 0,Value.slice none 0 0,Value.int IntKind.i64 0,Value.slice none 0 0])) (zeroObj 141 4 [Value.slice none 0 0,Value.slice none 0 0,Value.int IntKind.i64 0,Value.slice none 0 0])) (m.next+1) 0 [Value.slice none 0 0,Value.slice none 0 0,Value.int IntKind.i64 0,Value.slice none 0 0]):=⟨_,rfl⟩
 rw [← hmA]
 have hI0:RdI m mA fs0:=by
  have hz:∀ (m:Mem) (x:Nat),x=m.next→vw (newObjA m (zeroObj 141 4 [Value.slice none 0 0,Value.slice none 0 0,Value.int IntKind.i64 0,Value.slice none 0 0])) x=some ⟨true,141,false,[Value.slice none 0 0,Value.slice none 0 0,Value.int IntKind.i64 0,Value.slice none 0 0]⟩:=by
   rintro m x rfl
   rw [vw_new,if_pos rfl];exact vwO_zero1 141 [Value.slice none 0 0,Value.slice none 0 0,Value.int IntKind.i64 0,Value.slice none 0 0]
  subst hmA
  have h1:vw (newObjA (newObjA m (zeroObj 141 4 [Value.slice none 0 0,Value.slice none 0 0,Value.int IntKind.i64 0,Value.slice none 0 0])) (zeroObj 141 4 [Value.slice none 0 0,Value.slice none 0 0,Value.int IntKind.i64 0,Value.slice none 0 0])) (m.next+1)=some ⟨true,141,false,[Value.slice none 0 0,Value.slice none 0 0,Value.int IntKind.i64 0,Value.slice none 0 0]⟩:=hz _ _ rfl
  refine⟨(((Old.refl _ _).new (Nat.le_refl _) _).new (by rw [next_newObjA];omega) _).st (by omega) _ _,by rw [stM_next,next_newObjA,next_newObjA];omega,⟨.slice none 0 0,.slice none 0 0,.int .i64 0,.slice none 0 0,?_⟩,.slice none 0 0,.slice none 0 0,.slice none 0 0,?_,.inl ⟨rfl,rfl,rfl⟩,.inl ⟨rfl,rfl,rfl⟩,.inl ⟨rfl,rfl,rfl⟩⟩
  ·rw [vw_stM_ne (by omega),vw_new,if_neg (by rw [next_newObjA];omega)];exact hz _ _ rfl
  ·rw [vw_stM_eq h1 (by simp [stOk,oneC])];rfl
 have hfs:fs0.ints=[]∧fs0.nats=[]∧fs0.way=0∧fs0.text=[]:=⟨rfl,rfl,rfl,rfl⟩
 clear hmA
 have done:∀ {m1:Mem} {f:Fs} {ok:Bool},RdI m m1 f→(ok=true→readF form ws=some f)→(ok=false→readF form ws=none)→∃ a1 a2 a3 a4 b4 c4 d4,vw m1 (m.next+1)=some ⟨true,141,false,fsC f a1 a2 a3⟩∧vw m1 m.next=some ⟨true,141,false,[a4,b4,c4,d4]⟩ ∧
   ∀ {l:List Value},(∃ x0 x1 x2 x3 ts,l=x0::x1::x2::x3::.pointer (some ⟨m.next,0,none⟩)::.bool ok::ts)→endX tb Tryz.f78.results.toList (retR (ReadFR form ws m)) (.jump .ret) l [] (stM m1 m.next 0 (fsC f a1 a2 a3)):=by
  intro m1 f ok hI h1 h0
  obtain⟨a1,a2,a3,a4,b4,c4,d4,g1,g2,g3,g4,g5⟩:=hI.fin
  refine⟨a1,a2,a3,a4,b4,c4,d4,g1,g2,?_⟩
  rintro l ⟨x0,x1,x2,x3,ts,rfl⟩
  refine⟨rfl,_,resX_ct (i:=4) (j:=5) rfl g3,f,a1,a2,a3,ok,rfl,g4,fun h=>⟨h1 h,g5⟩,h0⟩
 refine xseqN (fun l ds m'=>ds=[]∧m'=mA∧form≠[99]∧Sl [.string ⟨⟨form⟩⟩,.slice av ws.length ws.length,undef,undef,.pointer (some ⟨m.next,0,none⟩),.bool false,.pointer (some ⟨m.next+1,0,none⟩)] 138 l) ?_ ?_
 rotate_left
 ·refine xsr fun Q' hQ=>?_
  by_cases hc:form=[99]
  rotate_left
  ·simp [hc]
   subst hQ
   refine xno (by simp [hc]) (xskip ?_)
   exact⟨rfl,rfl,hc,Sl.mk rfl rfl⟩
  have hrf:readF form ws=(allInts ws).map fun l => { fs0 with ints:=l }:=by unfold readF;rw [if_pos hc]
  simp [hc]
  subst hQ
  refine xyes (by simp) ?_
  refine xseqN (fun l ds m'=>ds=[]∧∃ f x7 x8 x9,RdI m m' f∧readF form ws=some f∧Sl [.string ⟨⟨[99]⟩⟩,.slice av ws.length ws.length,undef,undef,.pointer (some ⟨m.next,0,none⟩),.bool false,.pointer (some ⟨m.next+1,0,none⟩),x7,x8,x9] 135 l) ?_ ?_
  ·rintro l ds m1 ⟨rfl,f,x7,x8,x9,hI,hf,ts,hts,rfl⟩
   obtain⟨a1,a2,a3,a4,b4,c4,d4,g1,g2,g3⟩:=done (ok:=true) hI (fun _=>hf) (fun h=>by cases h)
   simp only [fsC] at g1 g3
   refine xsr fun Q' hQ=>?_
   simp [hts,g1,g2,fsC]
   subst hQ
   refine xret (g3 ?_)
   exact⟨_,_,_,_,_,rfl⟩
  refine xsr fun Q' hQ=>?_
  simp
  subst hQ
  refine xblock (xwhile (N:=ws.length) (I:=fun q l ds m1=>∃ (k:Nat) (a:List Int) (x8 x9:Value),q=ws.length-k∧k≤ws.length∧ds=[]∧RdI m m1 { fs0 with ints:=a }∧a.length=k∧allInts ws=(allInts (ws.drop k)).map (a ++ ·)∧Sl [.string ⟨⟨[99]⟩⟩,.slice av ws.length ws.length,undef,undef,.pointer (some ⟨m.next,0,none⟩),.bool false,.pointer (some ⟨m.next+1,0,none⟩),.int .i64 (k:Nat),x8,x9] 135 l) ?_ ?_)
  ·exact⟨0,[],_,_,rfl,by omega,rfl,hI0,rfl,by simp,Sl.mk rfl rfl⟩
  rintro q l ds m1 ⟨k,a,x8,x9,rfl,hk,rfl,hI,hal,hai,us,hus,rfl⟩
  refine xseq (xseq (xregQ fun Q' hQ=>?_))
  simp [hus]
  subst hQ
  refine xif (v:=decide ((k:Int)<(ws.length:Int))) (by simp [hus]) (fun h=>xskip ?_) (fun h=>xexit ?_)
  rotate_left
  ·simp only [decide_eq_false_iff_not] at h
   obtain rfl:k=ws.length:=by omega
   rw [List.drop_length] at hai
   exact⟨rfl,_,_,_,_,hI,by rw [hrf,hai];simp [allInts],Sl.mk rfl (by simp [hus])⟩
  simp only [decide_eq_true_eq] at h
  have hkl:k<ws.length:=by omega
  obtain⟨w,hw⟩:∃ w,ws[k]? = some w:=⟨_,List.getElem?_eq_getElem hkl⟩
  have hwl:=hlw w (List.mem_of_getElem? hw)
  obtain⟨b,o,all,hav,hb,hvb,hel,hol⟩:=hW.get hw
  obtain rfl:av=some ⟨b,o,none⟩:=by cases hav;rfl
  have hvb1:vw m1 b=some ⟨true,9,true,strsV all⟩:=by rw [hI.old.vw hb];exact hvb
  have hdr:ws.drop k=w::ws.drop (k+1):=by
   obtain⟨h1,h2⟩:=List.getElem?_eq_some_iff.1 hw
   rw [List.drop_eq_getElem_cons h1,h2]
  rw [hdr] at hai
  rw [thenA_normal]
  obtain⟨k1,hk1⟩:∃ k1,k1=k+1:=⟨_,rfl⟩
  have hw1:IntKind.wrap .i64 ((k:Int)+1)=(k1:Int):=by rw [wr64 _ (by omega) (by omega)];omega
  refine xseqN (fun l ds m'=>ds=[]∧∃ (a:List Int) (x8 x9:Value),RdI m m' { fs0 with ints:=a }∧a.length=k1∧allInts ws=(allInts (ws.drop k1)).map (a ++ ·)∧Sl [.string ⟨⟨[99]⟩⟩,.slice (some ⟨b,o,none⟩) ws.length ws.length,undef,undef,.pointer (some ⟨m.next,0,none⟩),.bool false,.pointer (some ⟨m.next+1,0,none⟩),.int .i64 (k:Nat),x8,x9] 135 l) ?_ ?_
  ·rintro l ds m3 ⟨rfl,a,x8,x9,hI,hal,hai,vs,hvs,rfl⟩
   refine xregQ fun Q' hQ=>?_
   simp [hvs,hw1]
   subst hQ
   exact⟨ws.length-k1,by omega,k1,a,_,_,rfl,by omega,rfl,hI,hal,hai,Sl.mk rfl (by simp [hvs])⟩
  refine xblock (xseq (xregQ fun Q' hQ=>?_))
  simp [hus,hkl,hvb1,hel,hol]
  refine xcall (ov_none (by decide)) (rinteger_ok hwl) ?_ (fun ch m' h=>h.elim)
  rintro r m2 ⟨rfl,z,ok,rfl,hz1,hz2,h1,h2⟩
  simp [hus]
  subst hQ
  cases ok with
  |false =>
   refine xseq (xseq (xregQ fun Q' hQ=>?_))
   simp [hus]
   subst hQ
   refine xyes (by simp [hus]) ?_
   obtain⟨a1,a2,a3,a4,b4,c4,d4,g1,g2,g3⟩:=done (ok:=false) hI (fun h=>by cases h) (fun _=>by rw [hrf,hai,allInts,h2 rfl];rfl)
   simp only [fsC] at g1 g3
   refine xsr fun Q' hQ=>?_
   simp [hus,g1,g2,fsC]
   subst hQ
   refine xret (g3 ?_)
   exact⟨_,_,_,_,_,rfl⟩
  |true =>
   refine xseq (xseq (xregQ fun Q' hQ=>?_))
   simp [hus]
   subst hQ
   refine xno (by simp [hus]) (xskip ?_)
   rw [thenA_normal]
   obtain⟨aw,vn,vt,aw1,m3,g1,g2,g3,hI3⟩:=hI.int1 z
   refine xregQ fun Q' hQ=>?_
   simp only at g1 g2 g3
   simp [hus,g1,fits_true _ a.length a.length 1 8 (by omega),g2,g3,stOk,oneC]
   subst hQ
   refine⟨rfl,a++[z],_,_,hI3,by simp;omega,?_,Sl.mk rfl (by simp [hus])⟩
   rw [hai,allInts,h1 rfl,hk1];simp [Option.map_map,Function.comp_def]
 rintro l ds m1 ⟨rfl,rfl,hc,ts,hts,rfl⟩
 have hrf:readF form ws=readGo form ws fs0:=by unfold readF;rw [if_neg hc]
 refine xseqN (fun l ds m'=>ds=[]∧m'=m1∧form.length=ws.length∧Sl [.string ⟨⟨form⟩⟩,.slice av ws.length ws.length,undef,undef,.pointer (some ⟨m.next,0,none⟩),.bool false,.pointer (some ⟨m.next+1,0,none⟩)] 138 l) ?_ ?_
 rotate_left
 ·refine xsr fun Q' hQ=>?_
  by_cases he:ws.length=form.length
  ·simp [hts,he]
   subst hQ
   refine xno (by simp [hts]) (xskip ?_)
   exact⟨rfl,rfl,he.symm,Sl.mk (by simp [he]) (by simp [hts])⟩
  ·have he':¬ (ws.length:Int)=(form.length:Int):=by omega
   simp [hts,he']
   subst hQ
   refine xyes (by simp [hts]) ?_
   obtain⟨a1,a2,a3,a4,b4,c4,d4,g1,g2,g3⟩:=done (ok:=false) hI0 (fun h=>by cases h) (fun _=>by rw [hrf,readGo_len _ _ _ (fun e=>he e.symm)])
   simp only [fsC] at g1 g3
   refine xsr fun Q' hQ=>?_
   simp [hts,g1,g2,fsC]
   subst hQ
   refine xret (g3 ?_)
   exact⟨_,_,_,_,_,rfl⟩
 clear hts
 rintro l ds m1 ⟨rfl,rfl,hlen,ts,hts,rfl⟩
 refine xseqN (fun l ds m'=>ds=[]∧∃ f x7 x8 x9,RdI m m' f∧readF form ws=some f∧Sl [.string ⟨⟨form⟩⟩,.slice av ws.length ws.length,undef,undef,.pointer (some ⟨m.next,0,none⟩),.bool false,.pointer (some ⟨m.next+1,0,none⟩),x7,x8,x9] 135 l) ?_ ?_
 ·rintro l ds m1 ⟨rfl,f,x7,x8,x9,hI,hf,ts,hts,rfl⟩
  obtain⟨a1,a2,a3,a4,b4,c4,d4,g1,g2,g3⟩:=done (ok:=true) hI (fun _=>hf) (fun h=>by cases h)
  simp only [fsC] at g1 g3
  refine xsr fun Q' hQ=>?_
  simp [hts,g1,g2,fsC]
  subst hQ
  refine xret (g3 ?_)
  exact⟨_,_,_,_,_,rfl⟩
 obtain⟨x7,ts7,rfl,hts7⟩:=ln_succ (n:=137) hts
 obtain⟨x8,ts8,rfl,hts8⟩:=ln_succ (n:=136) hts7
 obtain⟨x9,ts9,rfl,hts9⟩:=ln_succ (n:=135) hts8
 refine xsr fun Q' hQ=>?_
 simp [hts9]
 subst hQ
 obtain⟨y10,ts10,rfl,hts10⟩:=ln_succ (n:=134) hts9
 refine xblock (xwhile (N:=ws.length) (I:=fun q l ds m1=>∃ (k:Nat) (f:Fs),q=ws.length-k∧k≤ws.length∧ds=[]∧RdI m m1 f∧f.ints.length≤k∧f.nats.length≤k∧readF form ws=readGo (form.drop k) (ws.drop k) f∧Sl [.string ⟨⟨form⟩⟩,.slice av ws.length ws.length,undef,undef,.pointer (some ⟨m.next,0,none⟩),.bool false,.pointer (some ⟨m.next+1,0,none⟩),x7,x8,x9,.int .i64 (k:Nat)] 134 l) ?_ ?_)
 ·exact⟨0,fs0,rfl,by omega,rfl,hI0,by simp [fs0],by simp [fs0],hrf,Sl.mk rfl (by simp [hts10])⟩
 clear hts hts7 hts8 hts9 hts10
 rintro q l ds m1 ⟨k,f,rfl,hk,rfl,hI,hfi,hfn,hrg,us,hus,rfl⟩
 refine xseq (xseq (xregQ fun Q' hQ=>?_))
 simp [hus]
 subst hQ
 refine xif (v:=decide ((k:Int)<(ws.length:Int))) (by simp [hus]) (fun h=>xskip ?_) (fun h=>xexit ?_)
 rotate_left
 ·simp only [decide_eq_false_iff_not] at h
  obtain rfl:k=ws.length:=by omega
  rw [List.drop_length,← hlen,List.drop_length] at hrg
  exact⟨rfl,f,x7,x8,x9,hI,by rw [hrg];rfl,Sl.mk rfl (by simp [hus])⟩
 simp only [decide_eq_true_eq] at h
 have hkl:k<ws.length:=by omega
 obtain⟨w,hw⟩:∃ w,ws[k]? = some w:=⟨_,List.getElem?_eq_getElem hkl⟩
 obtain⟨c,hcf⟩:∃ c,form[k]? = some c:=⟨_,List.getElem?_eq_getElem (by omega)⟩
 have hwl:=hlw w (List.mem_of_getElem? hw)
 obtain⟨b,o,all,hav,hb,hvb,hel,hol⟩:=hW.get hw
 obtain rfl:av=some ⟨b,o,none⟩:=by cases hav;rfl
 have hvb1:vw m1 b=some ⟨true,9,true,strsV all⟩:=by rw [hI.old.vw hb];exact hvb
 have hdr:ws.drop k=w::ws.drop (k+1):=by
  obtain⟨h1,h2⟩:=List.getElem?_eq_some_iff.1 hw
  rw [List.drop_eq_getElem_cons h1,h2]
 rw [hdr,drop_get hcf,readGo] at hrg
 rw [thenA_normal]
 obtain⟨k1,hk1⟩:∃ k1,k1=k+1:=⟨_,rfl⟩
 have hw1:IntKind.wrap .i64 ((k:Int)+1)=(k1:Int):=by rw [wr64 _ (by omega) (by omega)];omega
 refine xseqN (fun l ds m'=>ds=[]∧∃ f,RdI m m' f∧f.ints.length≤k1∧f.nats.length≤k1∧readF form ws=readGo (form.drop k1) (ws.drop k1) f∧Sl [.string ⟨⟨form⟩⟩,.slice (some ⟨b,o,none⟩) ws.length ws.length,undef,undef,.pointer (some ⟨m.next,0,none⟩),.bool false,.pointer (some ⟨m.next+1,0,none⟩),x7,x8,x9,.int .i64 (k:Nat)] 134 l) ?_ ?_
 ·rintro l ds m3 ⟨rfl,f,hI,h1,h2,h3,vs,hvs,rfl⟩
  refine xregQ fun Q' hQ=>?_
  simp [hvs,hw1]
  subst hQ
  exact⟨ws.length-k1,by omega,k1,f,rfl,by omega,rfl,hI,h1,h2,h3,Sl.mk rfl (by simp [hvs])⟩
 refine xblock (xseq (xregQ fun Q' hQ=>?_))
 simp [hus]
 subst hQ
 obtain⟨y11,us2,rfl,hus2⟩:=ln_succ (n:=133) hus
 refine xseqN (fun l ds m'=>ds=[]∧∃ (f':Fs) (ok:Bool),RdI m m' f'∧f'.ints.length≤k1∧f'.nats.length≤k1∧(ok=true→rdOne c w f=some f')∧(ok=false→rdOne c w f=none)∧Sl [.string ⟨⟨form⟩⟩,.slice (some ⟨b,o,none⟩) ws.length ws.length,undef,undef,.pointer (some ⟨m.next,0,none⟩),.bool false,.pointer (some ⟨m.next+1,0,none⟩),x7,x8,x9,.int .i64 (k:Nat),.bool ok] 133 l) ?_ ?_
 ·rintro l ds m3 ⟨rfl,f',ok,hI,h1,h2,h3,h4,vs,hvs,rfl⟩
  refine xsr fun Q' hQ=>?_
  cases ok with
  |false =>
   simp [hvs]
   subst hQ
   refine xyes (by simp [hvs]) ?_
   obtain⟨a1,a2,a3,a4,b4,c4,d4,g1,g2,g3⟩:=done (ok:=false) hI (fun h=>by cases h) (fun _=>by rw [hrg,h4 rfl];rfl)
   simp only [fsC] at g1 g3
   refine xsr fun Q' hQ=>?_
   simp [hvs,g1,g2,fsC]
   subst hQ
   refine xret (g3 ?_)
   exact⟨_,_,_,_,_,rfl⟩
  |true =>
   simp [hvs]
   subst hQ
   refine xno (by simp [hvs]) (xskip ?_)
   exact⟨rfl,f',hI,h1,h2,by rw [hrg,h3 rfl,hk1];rfl,Sl.mk rfl (by simp [hvs])⟩
 refine xsr fun Q' hQ=>?_
 simp [hus2,hcf]
 subst hQ
 have no:∀ {l:List Value} {ok:Bool},ok=false→rdOne c w f=none→Sl [.string ⟨⟨form⟩⟩,.slice (some ⟨b,o,none⟩) ws.length ws.length,undef,undef,.pointer (some ⟨m.next,0,none⟩),.bool false,.pointer (some ⟨m.next+1,0,none⟩),x7,x8,x9,.int .i64 (k:Nat),.bool ok] 133 l →
   (∃ (f':Fs) (ok:Bool),RdI m m1 f'∧f'.ints.length≤k1∧f'.nats.length≤k1∧(ok=true→rdOne c w f=some f')∧(ok=false→rdOne c w f=none)∧Sl [.string ⟨⟨form⟩⟩,.slice (some ⟨b,o,none⟩) ws.length ws.length,undef,undef,.pointer (some ⟨m.next,0,none⟩),.bool false,.pointer (some ⟨m.next+1,0,none⟩),x7,x8,x9,.int .i64 (k:Nat),.bool ok] 133 l):=by
  rintro l ok rfl hno hl
  exact⟨f,false,hI,by omega,by omega,(fun h=>by cases h),fun _=>hno,hl⟩
 refine xblock (xseq (xregQ fun Q' hQ=>?_))
 by_cases c105:c=105
 ·subst c105
  simp [hus2]
  subst hQ
  refine xyes (by simp [hus2]) ?_
  refine xsr fun Q' hQ=>?_
  simp [hus2]
  subst hQ
  refine xsr fun Q' hQ=>?_
  simp [hus2,hkl,hvb1,hel,hol]
  refine xcall (ov_none (by decide)) (rinteger_ok hwl) ?_ (fun ch m' h=>h.elim)
  rintro r m2 ⟨rfl,z,ok,rfl,hz1,hz2,h1,h2⟩
  simp [hus2]
  subst hQ
  obtain⟨aw,vn,vt,aw1,m3,g1,g2,g3,hI3⟩:=hI.int1 z
  refine xregQ fun Q' hQ=>?_
  simp [hus2,g1,fits_true _ f.ints.length f.ints.length 1 8 (by omega),g2,g3,stOk,oneC]
  subst hQ
  refine⟨rfl,_,ok,hI3,by simp;omega,by simp;omega,(fun h=>by simp [rdOne,h1 h]),(fun h=>by simp [rdOne,h2 h]),Sl.mk rfl (by simp [hus2])⟩
 have c105':¬ (c.toNat:Int)=105:=fun e=>c105 ((u8i (n:=105) (by omega)).1 e)
 simp [hus2,c105']
 subst hQ
 refine xno (by simp [hus2]) ?_
 refine xsr fun Q' hQ=>?_
 by_cases c110:c=110
 ·subst c110
  simp [hus2]
  subst hQ
  refine xyes (by simp [hus2]) ?_
  refine xsr fun Q' hQ=>?_
  simp [hus2]
  subst hQ
  refine xsr fun Q' hQ=>?_
  simp [hus2,hkl,hvb1,hel,hol]
  refine xcall (ov_none (by decide)) (rnumber_ok (b:=18446744073709551615) hwl (by omega)) ?_ (fun ch m' h=>h.elim)
  rintro r m2 ⟨rfl,z,ok,rfl,hz,h1,h2⟩
  simp [hus2]
  subst hQ
  obtain⟨aw,vi,vt,aw1,m3,g1,g2,g3,hI3⟩:=hI.nat1 (z:Int)
  refine xregQ fun Q' hQ=>?_
  simp [hus2,g1,fits_true _ f.nats.length f.nats.length 1 8 (by omega),g2,g3,stOk,oneC]
  subst hQ
  refine⟨rfl,_,ok,hI3,by simp;omega,by simp;omega,(fun h=>by simp [rdOne,longOf,h1 h]),(fun h=>by simp [rdOne,longOf,h2 h]),Sl.mk rfl (by simp [hus2])⟩
 have c110':¬ (c.toNat:Int)=110:=fun e=>c110 ((u8i (n:=110) (by omega)).1 e)
 simp [hus2,c110']
 subst hQ
 refine xno (by simp [hus2]) ?_
 refine xsr fun Q' hQ=>?_
 by_cases c109:c=109
 ·subst c109
  simp [hus2]
  subst hQ
  refine xyes (by simp [hus2]) ?_
  refine xsr fun Q' hQ=>?_
  simp [hus2]
  subst hQ
  refine xsr fun Q' hQ=>?_
  simp [hus2,hkl,hvb1,hel,hol]
  refine xcall (ov_none (by decide)) (rnumber_ok (b:=4294967295) hwl (by omega)) ?_ (fun ch m' h=>h.elim)
  rintro r m2 ⟨rfl,z,ok,rfl,hz,h1,h2⟩
  simp [hus2]
  subst hQ
  obtain⟨aw,vi,vt,aw1,m3,g1,g2,g3,hI3⟩:=hI.nat1 (z:Int)
  refine xregQ fun Q' hQ=>?_
  simp [hus2,g1,fits_true _ f.nats.length f.nats.length 1 8 (by omega),g2,g3,stOk,oneC]
  subst hQ
  refine⟨rfl,_,ok,hI3,by simp;omega,by simp;omega,(fun h=>by simp [rdOne,maskOf,h1 h]),(fun h=>by simp [rdOne,maskOf,h2 h]),Sl.mk rfl (by simp [hus2])⟩
 have c109':¬ (c.toNat:Int)=109:=fun e=>c109 ((u8i (n:=109) (by omega)).1 e)
 simp [hus2,c109']
 subst hQ
 refine xno (by simp [hus2]) ?_
 refine xsr fun Q' hQ=>?_
 by_cases c119:c=119
 ·subst c119
  simp [hus2]
  subst hQ
  refine xyes (by simp [hus2]) ?_
  have hneq:([101,120,112,114,101,115,115]:List UInt8)≠[102,114,101,105,103,104,116]:=by decide
  obtain⟨⟨vi,vn,vt,g1⟩,hI3⟩:=hI.way1 1
  obtain⟨⟨vi2,vn2,vt2,g2⟩,hI4⟩:=hI3.way1 2
  by_cases hf:w=[102,114,101,105,103,104,116]
  ·have he:¬ w=[101,120,112,114,101,115,115]:=fun e=>hneq (e.symm.trans hf)
   have hfe:¬ ([102,114,101,105,103,104,116]:List UInt8)=[101,120,112,114,101,115,115]:=fun e=>hneq e.symm
   have hwy:wayOf w=some 2:=by unfold wayOf;rw [if_neg (show ¬ w=expressB from he),if_pos (show w=freightB from hf)]
   subst hf
   refine xsr fun Q' hQ=>?_
   simp [hus2,hkl,hvb1,hel,hol]
   subst hQ
   refine xsr fun Q' hQ=>?_
   simp [hus2,g1,stOk,oneC]
   subst hQ
   have hvb2:vw (stM m1 (m.next+1) 2 [.int .i64 1]) b=some ⟨true,9,true,strsV all⟩:=by rw [hI3.old.vw hb];exact hvb
   refine xsr fun Q' hQ=>?_
   simp [hus2,hkl,hvb2,hel,hol]
   subst hQ
   refine xyes (by simp [hus2]) ?_
   refine xregQ fun Q' hQ=>?_
   simp [hus2,g2,stOk,oneC]
   subst hQ
   refine⟨rfl,_,true,hI4,by simp;omega,by simp;omega,(fun h=>by simp [rdOne,hwy]),(fun h=>by cases h),Sl.mk rfl (by simp [hus2])⟩
  ·by_cases he:w=[101,120,112,114,101,115,115]
   ·have hwy:wayOf w=some 1:=by unfold wayOf;rw [if_pos (show w=expressB from he)]
    subst he
    refine xsr fun Q' hQ=>?_
    simp [hus2,hkl,hvb1,hel,hol]
    subst hQ
    refine xsr fun Q' hQ=>?_
    simp [hus2,g1,stOk,oneC]
    subst hQ
    have hvb2:vw (stM m1 (m.next+1) 2 [.int .i64 1]) b=some ⟨true,9,true,strsV all⟩:=by rw [hI3.old.vw hb];exact hvb
    refine xsr fun Q' hQ=>?_
    simp [hus2,hkl,hvb2,hel,hol]
    subst hQ
    refine xno (by simp [hus2]) (xskip ?_)
    refine⟨rfl,_,true,hI3,by simp;omega,by simp;omega,(fun h=>by simp [rdOne,hwy]),(fun h=>by cases h),Sl.mk rfl (by simp [hus2])⟩
   ·have hwy:wayOf w=none:=by unfold wayOf;rw [if_neg (show ¬ w=expressB from he),if_neg (show ¬ w=freightB from hf)]
    refine xsr fun Q' hQ=>?_
    simp [hus2,hkl,hvb1,hel,hol,he,hf]
    subst hQ
    refine xsr fun Q' hQ=>?_
    simp [hus2,g1,stOk,oneC]
    subst hQ
    have hvb2:vw (stM m1 (m.next+1) 2 [.int .i64 1]) b=some ⟨true,9,true,strsV all⟩:=by rw [hI3.old.vw hb];exact hvb
    refine xsr fun Q' hQ=>?_
    simp [hus2,hkl,hvb2,hel,hol,hf]
    subst hQ
    refine xno (by simp [hus2]) (xskip ?_)
    refine⟨rfl,_,false,hI3,by simp;omega,by simp;omega,(fun h=>by cases h),(fun h=>by simp [rdOne,hwy]),Sl.mk rfl (by simp [hus2])⟩
 have c119':¬ (c.toNat:Int)=119:=fun e=>c119 ((u8i (n:=119) (by omega)).1 e)
 simp [hus2,c119']
 subst hQ
 refine xno (by simp [hus2]) ?_
 refine xsr fun Q' hQ=>?_
 by_cases c116:c=116
 ·subst c116
  simp [hus2]
  subst hQ
  refine xyes (by simp [hus2]) ?_
  refine xsr fun Q' hQ=>?_
  simp [hus2,hkl,hvb1,hel,hol]
  refine xcall (ov_none (by decide)) (runquote_ok hwl) ?_ (fun ch m' h=>h.elim)
  rintro r m2 ⟨v',ok,rfl,hO2,h1,h2⟩
  simp [hus2]
  subst hQ
  cases ok with
  |true =>
   obtain⟨s,hs,hown,hsl⟩:=h1 rfl
   obtain⟨a',rfl⟩:=hown.shape
   obtain⟨⟨vi,vn,vt,g1⟩,hI3⟩:=hI.text1 hO2 (hown.le hI.old.1)
   refine xsr fun Q' hQ=>?_
   simp [hus2,g1,stOk,oneC]
   subst hQ
   refine xregQ fun Q' hQ=>?_
   simp [hus2]
   subst hQ
   exact⟨rfl,_,true,hI3,by simp;omega,by simp;omega,(fun h=>by simp [rdOne,hs]),(fun h=>by cases h),Sl.mk rfl (by simp [hus2])⟩
  |false =>
   obtain⟨hno,rfl⟩:=h2 rfl
   obtain⟨⟨vi,vn,vt,g1⟩,hI3⟩:=hI.text1 (s:=[]) hO2 (.inl ⟨rfl,rfl,rfl⟩)
   refine xsr fun Q' hQ=>?_
   simp [hus2,g1,stOk,oneC]
   subst hQ
   refine xregQ fun Q' hQ=>?_
   simp [hus2]
   subst hQ
   exact⟨rfl,_,false,hI3,by simp;omega,by simp;omega,(fun h=>by cases h),(fun h=>by simp [rdOne,hno]),Sl.mk rfl (by simp [hus2])⟩
 have c116':¬ (c.toNat:Int)=116:=fun e=>c116 ((u8i (n:=116) (by omega)).1 e)
 simp [hus2,c116']
 subst hQ
 refine xno (by simp [hus2]) (xskip ?_)
 exact⟨rfl,no rfl (by simp only [rdOne,if_neg c105,if_neg c110,if_neg c109,if_neg c119,if_neg c116]) (Sl.mk rfl (by simp [hus2]))⟩
end Go.Proofs.YtgmkbdmgifdfeaaGreatDoor

set_option maxRecDepth 8000
namespace Go.Proofs.YtgmkbdmgifdfeaaGreatDoor
open Go Go.Ev
theorem stp_len (s:Stp) (d c:Value):(stpCells s d c).length=17:=rfl
def StepsOld (n0:Nat) (m:Mem) (v:Value) (ss:List Stp):Prop :=
 ∃ cells,SlOld n0 m v ss.length cells∧cells.length=ss.length*17∧∀ k s,ss[k]? = some s→s.R∧∃ d c,takeN cells (k*17) 17=stpCells s d c∧SlOld n0 m d s.data.length (u8s s.data)∧SlOld n0 m c s.choices.length (i64s s.choices)
theorem StepsOld.old {n0:Nat} {m m':Mem} {v:Value} {ss:List Stp} (h:StepsOld n0 m v ss) (k:Old n0 m m'):StepsOld n0 m' v ss:=by
 obtain⟨cells,h1,h2,h3⟩:=h
 refine⟨cells,h1.old k,h2,fun j s hj=>?_⟩
 obtain⟨h4,d,c,h5,h6,h7⟩:=h3 j s hj
 exact⟨h4,d,c,h5,h6.old k,h7.old k⟩
theorem StepsOld.shape {n0:Nat} {m:Mem} {v:Value} {ss:List Stp} (h:StepsOld n0 m v ss):∃ a c,v=.slice a ss.length c:=by
 obtain⟨cells,h1,_⟩:=h
 rcases h1 with ⟨rfl,h1,_⟩|⟨b,o,c,rfl,_⟩
 ·exact⟨none,0,by rw [h1]⟩
 ·exact⟨_,_,rfl⟩
theorem StepsOld.load {n0:Nat} {m:Mem} {v:Value} {ss:List Stp} (h:StepsOld n0 m v ss) (hn:n0≤m.next) {k:Nat} {s:Stp} (hk:ss[k]? = some s) :
  ∃ b o c,v=.slice (some ⟨b,o,none⟩) ss.length c∧s.R∧∃ ad dc ac cc,opLoad tb 36 m (.pointer (some ⟨b,o+k*17,none⟩))=.r (.agg ⟨stpCells s (.slice ad s.data.length dc) (.slice ac s.choices.length cc)⟩) ∧
    SlOld n0 m (.slice ad s.data.length dc) s.data.length (u8s s.data)∧SlOld n0 m (.slice ac s.choices.length cc) s.choices.length (i64s s.choices)∧(stpCells s (.slice ad s.data.length dc) (.slice ac s.choices.length cc)).all oneC=true∧n0≤m.next∧k<ss.length:=by
 obtain⟨cells,h1,h2,h3⟩:=h
 obtain⟨h4,d,c,h5,h6,h7⟩:=h3 k s hk
 have hk1:=(List.getElem?_eq_some_iff.1 hk).1
 obtain⟨b,o,c',h8,h9,h10,h11,h12⟩:=(h1.at hn).loadA (k:=k*17) (sz:=17) (by omega) (by omega)
 obtain⟨ad,dc,rfl⟩:=(h6.at hn).shape
 obtain⟨ac,cc,rfl⟩:=(h7.at hn).shape
 refine⟨b,o,c',h8,h4,ad,dc,ac,cc,?_,h6,h7,rfl,hn,hk1⟩
 rw [h12 Ty.ti36 Ty.g36 Ty.s36,h5]
def weight (s:Stp):Nat:=400+100*s.choices.length+20*s.data.length
def weights (ss:List Stp):Nat:=(ss.map weight).sum
end Go.Proofs.YtgmkbdmgifdfeaaGreatDoor

set_option maxRecDepth 8000
namespace Go.Proofs.YtgmkbdmgifdfeaaGreatDoor
open Go Go.Ev
theorem c29_9 {m:Mem} {v:Value} {bs:List UInt8} (h:SlAt m v bs.length (u8s bs)):opConv tb m 29 9 v=.r (.string ⟨⟨bs⟩⟩):=by
 rcases h with ⟨rfl,h1,h2⟩|⟨b,o,c,rfl,h1,h2|⟨h2,h3⟩⟩
 ·obtain rfl:bs=[]:=List.length_eq_zero_iff.1 h1
  simp [opConv,convNilSl]
 ·obtain rfl:bs=[]:=by have:=congrArg List.length h2;simpa using this
  simp [opConv,convSl]
 ·simp only [opConv,Ty.ti29,Ty.ti9,convSl,Ty.d29,Ty.d9,Ty.ti5,Ty.d5]
  cases hl:bs with
  |nil=>rfl
  |cons x l =>
   simp only [List.length_cons]
   obtain⟨e1,e2⟩:=rd_some h2
   obtain⟨r,g1,g2,g3⟩:=e2 (by rw [u8s_length,hl];simp)
   rw [u8s_length,hl] at g2
   simp only [List.length_cons] at g2
   have:bytesAt m b o (l.length+1)=some ⟨⟨x::l⟩⟩:=by
    unfold bytesAt
    rw [g1];simp only [oB]
    rw [g2];simp only
    rw [bytesL_u8s]
   simp only [this]
theorem len_succ {α : Type} {l:List α} {n:Nat} (h:l.length=n+1):∃ x t,l=x::t∧t.length=n:=by
 cases l with
 |nil=>cases h
 |cons x t=>exact⟨x,t,rfl,by simpa using h⟩
end Go.Proofs.YtgmkbdmgifdfeaaGreatDoor

set_option maxRecDepth 8000
namespace Go.Proofs.YtgmkbdmgifdfeaaGreatDoor
open Go Go.Ev
def formOf:Nat→List UInt8
 |1=>[110]|2=>[105,105,105]|3=>[105]|4=>[105]|5=>[105]|6=>[105,110,110,116]|7=>[105,110]|8=>[]
 |9=>[119,105]|10=>[119,105]|11=>[119,105]|12=>[119,105,105,109]|13=>[105]|14=>[99]|15=>[]
 |16=>[105]|17=>[105]|18=>[105,110]|19=>[105]|20=>[105]|21=>[105]|22=>[105,110,110]
 |_=>[]
def rowCells (k:Nat):List Value:=[.string ⟨⟨wordOf k⟩⟩,.bool (!decide (k=1)),.int .i64 (k:Int),.string ⟨⟨formOf k⟩⟩]
def rcs:List Value:=match rrowsRows with|r::_=>r.cells | []=>[]
theorem rcs_len:rcs.length=88:=rfl
theorem rcs_row:∀ i,i<22→takeN rcs (i*4) 4=rowCells (i+1)
 |0,_=>rfl|1,_=>rfl|2,_=>rfl|3,_=>rfl|4,_=>rfl|5,_=>rfl|6,_=>rfl|7,_=>rfl|8,_=>rfl|9,_=>rfl|10,_=>rfl
 |11,_=>rfl|12,_=>rfl|13,_=>rfl|14,_=>rfl|15,_=>rfl|16,_=>rfl|17,_=>rfl|18,_=>rfl|19,_=>rfl|20,_=>rfl|21,_=>rfl
 |i+22,h=>absurd h (by omega)
theorem rows_vw {m:Mem} {k0:Nat} (h:RowsAt rrowsRows m k0):vw m k0=some ⟨true,88,false,rcs⟩:=by
 have:=h 0 _ rfl
 rw [Nat.add_zero] at this
 rw [this];rfl
end Go.Proofs.YtgmkbdmgifdfeaaGreatDoor

set_option maxRecDepth 8000
namespace Go.Proofs.YtgmkbdmgifdfeaaGreatDoor
open Go Go.Ev
def iForm:List UInt8:=[105,105,110,105,110,110,105,105,105]
def i0 (f:Fs) (k:Nat):Int:=f.ints.getD k 0
def n0 (f:Fs) (k:Nat):Int:=f.nats.getD k 0
def headF (f:Fs):Stu:=⟨i0 f 2,n0 f 1,n0 f 2,i0 f 3,i0 f 4,i0 f 5,i0 f 0,i0 f 1,n0 f 0⟩
def stepF (k:Nat) (n:Int) (f:Fs):Stp :=
 let s:Stp := { stp0 with kind:=k,node:=n }
 match k with
 |1 => { s with ticks:=n0 f 0 }
 |2 => { s with stream:=i0 f 0,qc:=i0 f 1,qb:=i0 f 2 }
 |3 => { s with stream:=i0 f 0 }
 |4 => { s with stream:=i0 f 0 }
 |5 => { s with stream:=i0 f 0 }
 |6 => { s with stream:=i0 f 0,time:=n0 f 0,life:=n0 f 1,data:=f.text }
 |7 => { s with stream:=i0 f 0,seq:=n0 f 0 }
 |9 => { s with way:=f.way,place:=i0 f 0 }
 |10 => { s with way:=f.way,place:=i0 f 0 }
 |11 => { s with way:=f.way,place:=i0 f 0 }
 |12 => { s with way:=f.way,place:=i0 f 0,pos:=i0 f 1,mask:=n0 f 0 }
 |13 => { s with pos:=i0 f 0 }
 |14 => { s with choices:=f.ints }
 |16 => { s with stream:=i0 f 0 }
 |17 => { s with cursor:=i0 f 0 }
 |18 => { s with cursor:=i0 f 0,time:=n0 f 0 }
 |19 => { s with cursor:=i0 f 0 }
 |20 => { s with cursor:=i0 f 0 }
 |21 => { s with cursor:=i0 f 0 }
 |22 => { s with stream:=i0 f 0,time:=n0 f 0,to:=n0 f 1 }
 |_=>s
def iN:Nat→Nat
 |2=>3|3=>1|4=>1|5=>1|6=>1|7=>1|9=>1|10=>1|11=>1|12=>2|13=>1|16=>1|17=>1|18=>1|19=>1|20=>1|21=>1|22=>1|_=>0
def nN:Nat→Nat
 |1=>1|6=>2|7=>1|12=>1|18=>1|22=>2|_=>0
theorem mask_range {w:List UInt8} {v:Int} (h:maskOf w=some v):0≤v∧v≤4294967295:=by
 unfold maskOf numOf at h
 split at h
 ·rename_i hh
  have e:((decVal w:Nat):Int)=v:=Option.some.inj h
  have:=hh.2.2.2
  omega
 ·cases h
def Shape (k:Nat) (f:Fs):Prop:=k=14∨(f.ints.length=iN k∧f.nats.length=nN k∧(k=12→0≤n0 f 0∧n0 f 0≤4294967295))
theorem rd_i (w:List UInt8) (f:Fs):rdOne 105 w f=(intOf w).map fun v => { f with ints:=f.ints++[v] }:=rfl
theorem rd_n (w:List UInt8) (f:Fs):rdOne 110 w f=(longOf w).map fun v => { f with nats:=f.nats++[v] }:=rfl
theorem rd_m (w:List UInt8) (f:Fs):rdOne 109 w f=(maskOf w).map fun v => { f with nats:=f.nats++[v] }:=rfl
theorem rd_w (w:List UInt8) (f:Fs):rdOne 119 w f=(wayOf w).map fun v => { f with way:=v }:=rfl
theorem rd_t (w:List UInt8) (f:Fs):rdOne 116 w f=(textOf w).map fun v => { f with text:=v }:=rfl
theorem readF_go {form:List UInt8} (h:form≠[99]) (ws:List (List UInt8)):readF form ws=readGo form ws fs0:=by unfold readF;rw [if_neg h]
def Law (k:Nat) (n:Int) (ws:List (List UInt8)):Prop :=
 (∀ f,readF (formOf k) ws=some f→readFds (fieldsOf k) { stp0 with kind:=k,node:=n } ws=some (stepF k n f,[])∧Shape k f) ∧
 (readF (formOf k) ws=none→∀ s,readFds (fieldsOf k) { stp0 with kind:=k,node:=n } ws≠some (s,[]))
theorem law1 (n:Int) (ws:List (List UInt8)):Law 1 n ws:=by
 rcases ws with _|⟨a0,_|⟨a1,r⟩⟩
 ·(constructor<;>simp [formOf,readF,readGo,fieldsOf,readFds,Fd.read,stepF,Shape,iN,nN,rd_i,rd_n,rd_m,rd_w,rd_t,fs0,stp0,i0,n0])
 ·cases h0:longOf a0<;>(constructor<;>simp [formOf,readF,readGo,fieldsOf,readFds,Fd.read,stepF,Shape,iN,nN,rd_i,rd_n,rd_m,rd_w,rd_t,fs0,stp0,i0,n0,h0])
 ·cases h0:longOf a0<;>(constructor<;>simp [formOf,readF,readGo,fieldsOf,readFds,Fd.read,stepF,Shape,iN,nN,rd_i,rd_n,rd_m,rd_w,rd_t,fs0,stp0,i0,n0,h0])
theorem law2 (n:Int) (ws:List (List UInt8)):Law 2 n ws:=by
 rcases ws with _|⟨a0,_|⟨a1,_|⟨a2,_|⟨a3,r⟩⟩⟩⟩
 ·(constructor<;>simp [formOf,readF,readGo,fieldsOf,readFds,Fd.read,stepF,Shape,iN,nN,rd_i,rd_n,rd_m,rd_w,rd_t,fs0,stp0,i0,n0])
 ·cases h0:intOf a0<;>(constructor<;>simp [formOf,readF,readGo,fieldsOf,readFds,Fd.read,stepF,Shape,iN,nN,rd_i,rd_n,rd_m,rd_w,rd_t,fs0,stp0,i0,n0,h0])
 ·cases h0:intOf a0<;>cases h1:intOf a1<;>(constructor<;>simp [formOf,readF,readGo,fieldsOf,readFds,Fd.read,stepF,Shape,iN,nN,rd_i,rd_n,rd_m,rd_w,rd_t,fs0,stp0,i0,n0,h0,h1])
 ·cases h0:intOf a0<;>cases h1:intOf a1<;>cases h2:intOf a2<;>(constructor<;>simp [formOf,readF,readGo,fieldsOf,readFds,Fd.read,stepF,Shape,iN,nN,rd_i,rd_n,rd_m,rd_w,rd_t,fs0,stp0,i0,n0,h0,h1,h2])
 ·cases h0:intOf a0<;>cases h1:intOf a1<;>cases h2:intOf a2<;>(constructor<;>simp [formOf,readF,readGo,fieldsOf,readFds,Fd.read,stepF,Shape,iN,nN,rd_i,rd_n,rd_m,rd_w,rd_t,fs0,stp0,i0,n0,h0,h1,h2])
theorem law3 (n:Int) (ws:List (List UInt8)):Law 3 n ws:=by
 rcases ws with _|⟨a0,_|⟨a1,r⟩⟩
 ·(constructor<;>simp [formOf,readF,readGo,fieldsOf,readFds,Fd.read,stepF,Shape,iN,nN,rd_i,rd_n,rd_m,rd_w,rd_t,fs0,stp0,i0,n0])
 ·cases h0:intOf a0<;>(constructor<;>simp [formOf,readF,readGo,fieldsOf,readFds,Fd.read,stepF,Shape,iN,nN,rd_i,rd_n,rd_m,rd_w,rd_t,fs0,stp0,i0,n0,h0])
 ·cases h0:intOf a0<;>(constructor<;>simp [formOf,readF,readGo,fieldsOf,readFds,Fd.read,stepF,Shape,iN,nN,rd_i,rd_n,rd_m,rd_w,rd_t,fs0,stp0,i0,n0,h0])
theorem law4 (n:Int) (ws:List (List UInt8)):Law 4 n ws:=by
 rcases ws with _|⟨a0,_|⟨a1,r⟩⟩
 ·(constructor<;>simp [formOf,readF,readGo,fieldsOf,readFds,Fd.read,stepF,Shape,iN,nN,rd_i,rd_n,rd_m,rd_w,rd_t,fs0,stp0,i0,n0])
 ·cases h0:intOf a0<;>(constructor<;>simp [formOf,readF,readGo,fieldsOf,readFds,Fd.read,stepF,Shape,iN,nN,rd_i,rd_n,rd_m,rd_w,rd_t,fs0,stp0,i0,n0,h0])
 ·cases h0:intOf a0<;>(constructor<;>simp [formOf,readF,readGo,fieldsOf,readFds,Fd.read,stepF,Shape,iN,nN,rd_i,rd_n,rd_m,rd_w,rd_t,fs0,stp0,i0,n0,h0])
theorem law5 (n:Int) (ws:List (List UInt8)):Law 5 n ws:=by
 rcases ws with _|⟨a0,_|⟨a1,r⟩⟩
 ·(constructor<;>simp [formOf,readF,readGo,fieldsOf,readFds,Fd.read,stepF,Shape,iN,nN,rd_i,rd_n,rd_m,rd_w,rd_t,fs0,stp0,i0,n0])
 ·cases h0:intOf a0<;>(constructor<;>simp [formOf,readF,readGo,fieldsOf,readFds,Fd.read,stepF,Shape,iN,nN,rd_i,rd_n,rd_m,rd_w,rd_t,fs0,stp0,i0,n0,h0])
 ·cases h0:intOf a0<;>(constructor<;>simp [formOf,readF,readGo,fieldsOf,readFds,Fd.read,stepF,Shape,iN,nN,rd_i,rd_n,rd_m,rd_w,rd_t,fs0,stp0,i0,n0,h0])
theorem law6 (n:Int) (ws:List (List UInt8)):Law 6 n ws:=by
 rcases ws with _|⟨a0,_|⟨a1,_|⟨a2,_|⟨a3,_|⟨a4,r⟩⟩⟩⟩⟩
 ·(constructor<;>simp [formOf,readF,readGo,fieldsOf,readFds,Fd.read,stepF,Shape,iN,nN,rd_i,rd_n,rd_m,rd_w,rd_t,fs0,stp0,i0,n0])
 ·cases h0:intOf a0<;>(constructor<;>simp [formOf,readF,readGo,fieldsOf,readFds,Fd.read,stepF,Shape,iN,nN,rd_i,rd_n,rd_m,rd_w,rd_t,fs0,stp0,i0,n0,h0])
 ·cases h0:intOf a0<;>cases h1:longOf a1<;>(constructor<;>simp [formOf,readF,readGo,fieldsOf,readFds,Fd.read,stepF,Shape,iN,nN,rd_i,rd_n,rd_m,rd_w,rd_t,fs0,stp0,i0,n0,h0,h1])
 ·cases h0:intOf a0<;>cases h1:longOf a1<;>cases h2:longOf a2<;>(constructor<;>simp [formOf,readF,readGo,fieldsOf,readFds,Fd.read,stepF,Shape,iN,nN,rd_i,rd_n,rd_m,rd_w,rd_t,fs0,stp0,i0,n0,h0,h1,h2])
 ·cases h0:intOf a0<;>cases h1:longOf a1<;>cases h2:longOf a2<;>cases h3:textOf a3<;>(constructor<;>simp [formOf,readF,readGo,fieldsOf,readFds,Fd.read,stepF,Shape,iN,nN,rd_i,rd_n,rd_m,rd_w,rd_t,fs0,stp0,i0,n0,h0,h1,h2,h3])
 ·cases h0:intOf a0<;>cases h1:longOf a1<;>cases h2:longOf a2<;>cases h3:textOf a3<;>(constructor<;>simp [formOf,readF,readGo,fieldsOf,readFds,Fd.read,stepF,Shape,iN,nN,rd_i,rd_n,rd_m,rd_w,rd_t,fs0,stp0,i0,n0,h0,h1,h2,h3])
theorem law7 (n:Int) (ws:List (List UInt8)):Law 7 n ws:=by
 rcases ws with _|⟨a0,_|⟨a1,_|⟨a2,r⟩⟩⟩
 ·(constructor<;>simp [formOf,readF,readGo,fieldsOf,readFds,Fd.read,stepF,Shape,iN,nN,rd_i,rd_n,rd_m,rd_w,rd_t,fs0,stp0,i0,n0])
 ·cases h0:intOf a0<;>(constructor<;>simp [formOf,readF,readGo,fieldsOf,readFds,Fd.read,stepF,Shape,iN,nN,rd_i,rd_n,rd_m,rd_w,rd_t,fs0,stp0,i0,n0,h0])
 ·cases h0:intOf a0<;>cases h1:longOf a1<;>(constructor<;>simp [formOf,readF,readGo,fieldsOf,readFds,Fd.read,stepF,Shape,iN,nN,rd_i,rd_n,rd_m,rd_w,rd_t,fs0,stp0,i0,n0,h0,h1])
 ·cases h0:intOf a0<;>cases h1:longOf a1<;>(constructor<;>simp [formOf,readF,readGo,fieldsOf,readFds,Fd.read,stepF,Shape,iN,nN,rd_i,rd_n,rd_m,rd_w,rd_t,fs0,stp0,i0,n0,h0,h1])
theorem law8 (n:Int) (ws:List (List UInt8)):Law 8 n ws:=by
 rcases ws with _|⟨a0,r⟩
 ·(constructor<;>simp [formOf,readF,readGo,fieldsOf,readFds,Fd.read,stepF,Shape,iN,nN,rd_i,rd_n,rd_m,rd_w,rd_t,fs0,stp0,i0,n0])
 ·(constructor<;>simp [formOf,readF,readGo,fieldsOf,readFds,Fd.read,stepF,Shape,iN,nN,rd_i,rd_n,rd_m,rd_w,rd_t,fs0,stp0,i0,n0])
theorem law9 (n:Int) (ws:List (List UInt8)):Law 9 n ws:=by
 rcases ws with _|⟨a0,_|⟨a1,_|⟨a2,r⟩⟩⟩
 ·(constructor<;>simp [formOf,readF,readGo,fieldsOf,readFds,Fd.read,stepF,Shape,iN,nN,rd_i,rd_n,rd_m,rd_w,rd_t,fs0,stp0,i0,n0])
 ·cases h0:wayOf a0<;>(constructor<;>simp [formOf,readF,readGo,fieldsOf,readFds,Fd.read,stepF,Shape,iN,nN,rd_i,rd_n,rd_m,rd_w,rd_t,fs0,stp0,i0,n0,h0])
 ·cases h0:wayOf a0<;>cases h1:intOf a1<;>(constructor<;>simp [formOf,readF,readGo,fieldsOf,readFds,Fd.read,stepF,Shape,iN,nN,rd_i,rd_n,rd_m,rd_w,rd_t,fs0,stp0,i0,n0,h0,h1])
 ·cases h0:wayOf a0<;>cases h1:intOf a1<;>(constructor<;>simp [formOf,readF,readGo,fieldsOf,readFds,Fd.read,stepF,Shape,iN,nN,rd_i,rd_n,rd_m,rd_w,rd_t,fs0,stp0,i0,n0,h0,h1])
theorem law10 (n:Int) (ws:List (List UInt8)):Law 10 n ws:=by
 rcases ws with _|⟨a0,_|⟨a1,_|⟨a2,r⟩⟩⟩
 ·(constructor<;>simp [formOf,readF,readGo,fieldsOf,readFds,Fd.read,stepF,Shape,iN,nN,rd_i,rd_n,rd_m,rd_w,rd_t,fs0,stp0,i0,n0])
 ·cases h0:wayOf a0<;>(constructor<;>simp [formOf,readF,readGo,fieldsOf,readFds,Fd.read,stepF,Shape,iN,nN,rd_i,rd_n,rd_m,rd_w,rd_t,fs0,stp0,i0,n0,h0])
 ·cases h0:wayOf a0<;>cases h1:intOf a1<;>(constructor<;>simp [formOf,readF,readGo,fieldsOf,readFds,Fd.read,stepF,Shape,iN,nN,rd_i,rd_n,rd_m,rd_w,rd_t,fs0,stp0,i0,n0,h0,h1])
 ·cases h0:wayOf a0<;>cases h1:intOf a1<;>(constructor<;>simp [formOf,readF,readGo,fieldsOf,readFds,Fd.read,stepF,Shape,iN,nN,rd_i,rd_n,rd_m,rd_w,rd_t,fs0,stp0,i0,n0,h0,h1])
theorem law11 (n:Int) (ws:List (List UInt8)):Law 11 n ws:=by
 rcases ws with _|⟨a0,_|⟨a1,_|⟨a2,r⟩⟩⟩
 ·(constructor<;>simp [formOf,readF,readGo,fieldsOf,readFds,Fd.read,stepF,Shape,iN,nN,rd_i,rd_n,rd_m,rd_w,rd_t,fs0,stp0,i0,n0])
 ·cases h0:wayOf a0<;>(constructor<;>simp [formOf,readF,readGo,fieldsOf,readFds,Fd.read,stepF,Shape,iN,nN,rd_i,rd_n,rd_m,rd_w,rd_t,fs0,stp0,i0,n0,h0])
 ·cases h0:wayOf a0<;>cases h1:intOf a1<;>(constructor<;>simp [formOf,readF,readGo,fieldsOf,readFds,Fd.read,stepF,Shape,iN,nN,rd_i,rd_n,rd_m,rd_w,rd_t,fs0,stp0,i0,n0,h0,h1])
 ·cases h0:wayOf a0<;>cases h1:intOf a1<;>(constructor<;>simp [formOf,readF,readGo,fieldsOf,readFds,Fd.read,stepF,Shape,iN,nN,rd_i,rd_n,rd_m,rd_w,rd_t,fs0,stp0,i0,n0,h0,h1])
theorem law12 (n:Int) (ws:List (List UInt8)):Law 12 n ws:=by
 rcases ws with _|⟨a0,_|⟨a1,_|⟨a2,_|⟨a3,_|⟨a4,r⟩⟩⟩⟩⟩
 ·(constructor<;>simp [formOf,readF,readGo,fieldsOf,readFds,Fd.read,stepF,Shape,iN,nN,rd_i,rd_n,rd_m,rd_w,rd_t,fs0,stp0,i0,n0])
 ·cases h0:wayOf a0<;>(constructor<;>simp [formOf,readF,readGo,fieldsOf,readFds,Fd.read,stepF,Shape,iN,nN,rd_i,rd_n,rd_m,rd_w,rd_t,fs0,stp0,i0,n0,h0])
 ·cases h0:wayOf a0<;>cases h1:intOf a1<;>(constructor<;>simp [formOf,readF,readGo,fieldsOf,readFds,Fd.read,stepF,Shape,iN,nN,rd_i,rd_n,rd_m,rd_w,rd_t,fs0,stp0,i0,n0,h0,h1])
 ·cases h0:wayOf a0<;>cases h1:intOf a1<;>cases h2:intOf a2<;>(constructor<;>simp [formOf,readF,readGo,fieldsOf,readFds,Fd.read,stepF,Shape,iN,nN,rd_i,rd_n,rd_m,rd_w,rd_t,fs0,stp0,i0,n0,h0,h1,h2])
 ·cases h0:wayOf a0<;>cases h1:intOf a1<;>cases h2:intOf a2<;>cases h3:maskOf a3<;>(constructor<;>simp [formOf,readF,readGo,fieldsOf,readFds,Fd.read,stepF,Shape,iN,nN,rd_i,rd_n,rd_m,rd_w,rd_t,fs0,stp0,i0,n0,h0,h1,h2,h3])<;>exact mask_range h3
 ·cases h0:wayOf a0<;>cases h1:intOf a1<;>cases h2:intOf a2<;>cases h3:maskOf a3<;>(constructor<;>simp [formOf,readF,readGo,fieldsOf,readFds,Fd.read,stepF,Shape,iN,nN,rd_i,rd_n,rd_m,rd_w,rd_t,fs0,stp0,i0,n0,h0,h1,h2,h3])
theorem law13 (n:Int) (ws:List (List UInt8)):Law 13 n ws:=by
 rcases ws with _|⟨a0,_|⟨a1,r⟩⟩
 ·(constructor<;>simp [formOf,readF,readGo,fieldsOf,readFds,Fd.read,stepF,Shape,iN,nN,rd_i,rd_n,rd_m,rd_w,rd_t,fs0,stp0,i0,n0])
 ·cases h0:intOf a0<;>(constructor<;>simp [formOf,readF,readGo,fieldsOf,readFds,Fd.read,stepF,Shape,iN,nN,rd_i,rd_n,rd_m,rd_w,rd_t,fs0,stp0,i0,n0,h0])
 ·cases h0:intOf a0<;>(constructor<;>simp [formOf,readF,readGo,fieldsOf,readFds,Fd.read,stepF,Shape,iN,nN,rd_i,rd_n,rd_m,rd_w,rd_t,fs0,stp0,i0,n0,h0])
theorem law15 (n:Int) (ws:List (List UInt8)):Law 15 n ws:=by
 rcases ws with _|⟨a0,r⟩
 ·(constructor<;>simp [formOf,readF,readGo,fieldsOf,readFds,Fd.read,stepF,Shape,iN,nN,rd_i,rd_n,rd_m,rd_w,rd_t,fs0,stp0,i0,n0])
 ·(constructor<;>simp [formOf,readF,readGo,fieldsOf,readFds,Fd.read,stepF,Shape,iN,nN,rd_i,rd_n,rd_m,rd_w,rd_t,fs0,stp0,i0,n0])
theorem law16 (n:Int) (ws:List (List UInt8)):Law 16 n ws:=by
 rcases ws with _|⟨a0,_|⟨a1,r⟩⟩
 ·(constructor<;>simp [formOf,readF,readGo,fieldsOf,readFds,Fd.read,stepF,Shape,iN,nN,rd_i,rd_n,rd_m,rd_w,rd_t,fs0,stp0,i0,n0])
 ·cases h0:intOf a0<;>(constructor<;>simp [formOf,readF,readGo,fieldsOf,readFds,Fd.read,stepF,Shape,iN,nN,rd_i,rd_n,rd_m,rd_w,rd_t,fs0,stp0,i0,n0,h0])
 ·cases h0:intOf a0<;>(constructor<;>simp [formOf,readF,readGo,fieldsOf,readFds,Fd.read,stepF,Shape,iN,nN,rd_i,rd_n,rd_m,rd_w,rd_t,fs0,stp0,i0,n0,h0])
theorem law17 (n:Int) (ws:List (List UInt8)):Law 17 n ws:=by
 rcases ws with _|⟨a0,_|⟨a1,r⟩⟩
 ·(constructor<;>simp [formOf,readF,readGo,fieldsOf,readFds,Fd.read,stepF,Shape,iN,nN,rd_i,rd_n,rd_m,rd_w,rd_t,fs0,stp0,i0,n0])
 ·cases h0:intOf a0<;>(constructor<;>simp [formOf,readF,readGo,fieldsOf,readFds,Fd.read,stepF,Shape,iN,nN,rd_i,rd_n,rd_m,rd_w,rd_t,fs0,stp0,i0,n0,h0])
 ·cases h0:intOf a0<;>(constructor<;>simp [formOf,readF,readGo,fieldsOf,readFds,Fd.read,stepF,Shape,iN,nN,rd_i,rd_n,rd_m,rd_w,rd_t,fs0,stp0,i0,n0,h0])
theorem law18 (n:Int) (ws:List (List UInt8)):Law 18 n ws:=by
 rcases ws with _|⟨a0,_|⟨a1,_|⟨a2,r⟩⟩⟩
 ·(constructor<;>simp [formOf,readF,readGo,fieldsOf,readFds,Fd.read,stepF,Shape,iN,nN,rd_i,rd_n,rd_m,rd_w,rd_t,fs0,stp0,i0,n0])
 ·cases h0:intOf a0<;>(constructor<;>simp [formOf,readF,readGo,fieldsOf,readFds,Fd.read,stepF,Shape,iN,nN,rd_i,rd_n,rd_m,rd_w,rd_t,fs0,stp0,i0,n0,h0])
 ·cases h0:intOf a0<;>cases h1:longOf a1<;>(constructor<;>simp [formOf,readF,readGo,fieldsOf,readFds,Fd.read,stepF,Shape,iN,nN,rd_i,rd_n,rd_m,rd_w,rd_t,fs0,stp0,i0,n0,h0,h1])
 ·cases h0:intOf a0<;>cases h1:longOf a1<;>(constructor<;>simp [formOf,readF,readGo,fieldsOf,readFds,Fd.read,stepF,Shape,iN,nN,rd_i,rd_n,rd_m,rd_w,rd_t,fs0,stp0,i0,n0,h0,h1])
theorem law19 (n:Int) (ws:List (List UInt8)):Law 19 n ws:=by
 rcases ws with _|⟨a0,_|⟨a1,r⟩⟩
 ·(constructor<;>simp [formOf,readF,readGo,fieldsOf,readFds,Fd.read,stepF,Shape,iN,nN,rd_i,rd_n,rd_m,rd_w,rd_t,fs0,stp0,i0,n0])
 ·cases h0:intOf a0<;>(constructor<;>simp [formOf,readF,readGo,fieldsOf,readFds,Fd.read,stepF,Shape,iN,nN,rd_i,rd_n,rd_m,rd_w,rd_t,fs0,stp0,i0,n0,h0])
 ·cases h0:intOf a0<;>(constructor<;>simp [formOf,readF,readGo,fieldsOf,readFds,Fd.read,stepF,Shape,iN,nN,rd_i,rd_n,rd_m,rd_w,rd_t,fs0,stp0,i0,n0,h0])
theorem law20 (n:Int) (ws:List (List UInt8)):Law 20 n ws:=by
 rcases ws with _|⟨a0,_|⟨a1,r⟩⟩
 ·(constructor<;>simp [formOf,readF,readGo,fieldsOf,readFds,Fd.read,stepF,Shape,iN,nN,rd_i,rd_n,rd_m,rd_w,rd_t,fs0,stp0,i0,n0])
 ·cases h0:intOf a0<;>(constructor<;>simp [formOf,readF,readGo,fieldsOf,readFds,Fd.read,stepF,Shape,iN,nN,rd_i,rd_n,rd_m,rd_w,rd_t,fs0,stp0,i0,n0,h0])
 ·cases h0:intOf a0<;>(constructor<;>simp [formOf,readF,readGo,fieldsOf,readFds,Fd.read,stepF,Shape,iN,nN,rd_i,rd_n,rd_m,rd_w,rd_t,fs0,stp0,i0,n0,h0])
theorem law21 (n:Int) (ws:List (List UInt8)):Law 21 n ws:=by
 rcases ws with _|⟨a0,_|⟨a1,r⟩⟩
 ·(constructor<;>simp [formOf,readF,readGo,fieldsOf,readFds,Fd.read,stepF,Shape,iN,nN,rd_i,rd_n,rd_m,rd_w,rd_t,fs0,stp0,i0,n0])
 ·cases h0:intOf a0<;>(constructor<;>simp [formOf,readF,readGo,fieldsOf,readFds,Fd.read,stepF,Shape,iN,nN,rd_i,rd_n,rd_m,rd_w,rd_t,fs0,stp0,i0,n0,h0])
 ·cases h0:intOf a0<;>(constructor<;>simp [formOf,readF,readGo,fieldsOf,readFds,Fd.read,stepF,Shape,iN,nN,rd_i,rd_n,rd_m,rd_w,rd_t,fs0,stp0,i0,n0,h0])
theorem law22 (n:Int) (ws:List (List UInt8)):Law 22 n ws:=by
 rcases ws with _|⟨a0,_|⟨a1,_|⟨a2,_|⟨a3,r⟩⟩⟩⟩
 ·(constructor<;>simp [formOf,readF,readGo,fieldsOf,readFds,Fd.read,stepF,Shape,iN,nN,rd_i,rd_n,rd_m,rd_w,rd_t,fs0,stp0,i0,n0])
 ·cases h0:intOf a0<;>(constructor<;>simp [formOf,readF,readGo,fieldsOf,readFds,Fd.read,stepF,Shape,iN,nN,rd_i,rd_n,rd_m,rd_w,rd_t,fs0,stp0,i0,n0,h0])
 ·cases h0:intOf a0<;>cases h1:longOf a1<;>(constructor<;>simp [formOf,readF,readGo,fieldsOf,readFds,Fd.read,stepF,Shape,iN,nN,rd_i,rd_n,rd_m,rd_w,rd_t,fs0,stp0,i0,n0,h0,h1])
 ·cases h0:intOf a0<;>cases h1:longOf a1<;>cases h2:longOf a2<;>(constructor<;>simp [formOf,readF,readGo,fieldsOf,readFds,Fd.read,stepF,Shape,iN,nN,rd_i,rd_n,rd_m,rd_w,rd_t,fs0,stp0,i0,n0,h0,h1,h2])
 ·cases h0:intOf a0<;>cases h1:longOf a1<;>cases h2:longOf a2<;>(constructor<;>simp [formOf,readF,readGo,fieldsOf,readFds,Fd.read,stepF,Shape,iN,nN,rd_i,rd_n,rd_m,rd_w,rd_t,fs0,stp0,i0,n0,h0,h1,h2])
theorem law14 (n:Int) (ws:List (List UInt8)):Law 14 n ws:=by
 have e:∀ s:Stp,readFds (fieldsOf 14) s ws=(allInts ws).map fun l=>({ s with choices:=s.choices++l },[]):=fun s=>by cases ws<;>simp only [fieldsOf,readFds,Fd.read]<;>cases allInts _<;>rfl
 unfold Law;rw [e];cases h:allInts ws<;>(constructor<;>simp [formOf,readF,stepF,Shape,fs0,stp0,h])
theorem read_law:∀ (k:Nat) (n:Int) (ws:List (List UInt8)),1≤k→k≤22→Law k n ws
 |1,n,ws,_,_=>law1 n ws
 |2,n,ws,_,_=>law2 n ws
 |3,n,ws,_,_=>law3 n ws
 |4,n,ws,_,_=>law4 n ws
 |5,n,ws,_,_=>law5 n ws
 |6,n,ws,_,_=>law6 n ws
 |7,n,ws,_,_=>law7 n ws
 |8,n,ws,_,_=>law8 n ws
 |9,n,ws,_,_=>law9 n ws
 |10,n,ws,_,_=>law10 n ws
 |11,n,ws,_,_=>law11 n ws
 |12,n,ws,_,_=>law12 n ws
 |13,n,ws,_,_=>law13 n ws
 |14,n,ws,_,_=>law14 n ws
 |15,n,ws,_,_=>law15 n ws
 |16,n,ws,_,_=>law16 n ws
 |17,n,ws,_,_=>law17 n ws
 |18,n,ws,_,_=>law18 n ws
 |19,n,ws,_,_=>law19 n ws
 |20,n,ws,_,_=>law20 n ws
 |21,n,ws,_,_=>law21 n ws
 |22,n,ws,_,_=>law22 n ws
 |0,_,_,h,_=>absurd h (by omega)
 |k+23,_,_,_,h=>absurd h (by omega)
def HeadLaw (ws:List (List UInt8)):Prop:=(∀ f,readF iForm ws=some f→headOf ws=some (headF f)∧f.ints.length=6∧f.nats.length=3)∧(readF iForm ws=none→headOf ws=none)
theorem head_len {ws:List (List UInt8)} (h:iForm.length≠ws.length) (h2:headOf ws=none):HeadLaw ws:=by
 have e:readF iForm ws=none:=by rw [readF_go (by decide)];exact readGo_len _ _ _ h
 exact⟨fun f hf=>by rw [e] at hf; (cases hf),fun _=>h2⟩
theorem head_law (ws:List (List UInt8)):HeadLaw ws:=by
 rcases ws with _|⟨a0,_|⟨a1,_|⟨a2,_|⟨a3,_|⟨a4,_|⟨a5,_|⟨a6,_|⟨a7,_|⟨a8,_|⟨a9,r⟩⟩⟩⟩⟩⟩⟩⟩⟩⟩
 ·exact head_len (by simp [iForm]) rfl
 ·exact head_len (by simp [iForm]) rfl
 ·exact head_len (by simp [iForm]) rfl
 ·exact head_len (by simp [iForm]) rfl
 ·exact head_len (by simp [iForm]) rfl
 ·exact head_len (by simp [iForm]) rfl
 ·exact head_len (by simp [iForm]) rfl
 ·exact head_len (by simp [iForm]) rfl
 ·exact head_len (by simp [iForm]) rfl
 ·unfold HeadLaw
  cases h0:intOf a0 with
  |none=>(constructor<;>simp [readF,iForm,readGo,headOf,rd_i,rd_n,fs0,headF,i0,n0,h0])
  |some v0 =>
   cases h1:intOf a1 with
   |none=>(constructor<;>simp [readF,iForm,readGo,headOf,rd_i,rd_n,fs0,headF,i0,n0,h0,h1])
   |some v1 =>
    cases h2:longOf a2 with
    |none=>(constructor<;>simp [readF,iForm,readGo,headOf,rd_i,rd_n,fs0,headF,i0,n0,h0,h1,h2])
    |some v2 =>
     cases h3:intOf a3 with
     |none=>(constructor<;>simp [readF,iForm,readGo,headOf,rd_i,rd_n,fs0,headF,i0,n0,h0,h1,h2,h3])
     |some v3 =>
      cases h4:longOf a4 with
      |none=>(constructor<;>simp [readF,iForm,readGo,headOf,rd_i,rd_n,fs0,headF,i0,n0,h0,h1,h2,h3,h4])
      |some v4 =>
       cases h5:longOf a5 with
       |none=>(constructor<;>simp [readF,iForm,readGo,headOf,rd_i,rd_n,fs0,headF,i0,n0,h0,h1,h2,h3,h4,h5])
       |some v5 =>
        cases h6:intOf a6 with
        |none=>(constructor<;>simp [readF,iForm,readGo,headOf,rd_i,rd_n,fs0,headF,i0,n0,h0,h1,h2,h3,h4,h5,h6])
        |some v6 =>
         cases h7:intOf a7 with
         |none=>(constructor<;>simp [readF,iForm,readGo,headOf,rd_i,rd_n,fs0,headF,i0,n0,h0,h1,h2,h3,h4,h5,h6,h7])
         |some v7 =>
          cases h8:intOf a8 with
          |none=>(constructor<;>simp [readF,iForm,readGo,headOf,rd_i,rd_n,fs0,headF,i0,n0,h0,h1,h2,h3,h4,h5,h6,h7,h8])
          |some v8 =>
           (constructor<;>simp [readF,iForm,readGo,headOf,rd_i,rd_n,fs0,headF,i0,n0,h0,h1,h2,h3,h4,h5,h6,h7,h8])
 ·exact head_len (by simp [iForm]) rfl
end Go.Proofs.YtgmkbdmgifdfeaaGreatDoor

set_option maxRecDepth 8000
namespace Go.Proofs.YtgmkbdmgifdfeaaGreatDoor
open Go Go.Ev
theorem own_some {n0 n:Nat} {m:Mem} {v:Value} {e:TypeId} {cells:List Value} (h:Own n0 m v e n cells) (hn:n≠0):∃ b,v=.slice (some ⟨b,0,none⟩) n n∧n0≤b∧b<m.next∧vw m b=some ⟨true,e,true,cells⟩:=by
 rcases h with ⟨_,h,_⟩|h
 ·exact absurd h hn
 ·exact h
theorem len1 {l:List Int} (h:l.length=1):∃ a,l=[a]:=by
 match l,h with
 | [a],_=>exact⟨a,rfl⟩
theorem len2 {l:List Int} (h:l.length=2):∃ a b,l=[a,b]:=by
 match l,h with
 | [a,b],_=>exact⟨a,b,rfl⟩
theorem len3 {l:List Int} (h:l.length=3):∃ a b c,l=[a,b,c]:=by
 match l,h with
 | [a,b,c],_=>exact⟨a,b,c,rfl⟩
theorem len6 {l:List Int} (h:l.length=6):∃ a b c d e f,l=[a,b,c,d,e,f]:=by
 match l,h with
 | [a,b,c,d,e,f],_=>exact⟨a,b,c,d,e,f,rfl⟩
def HeadR (ws:List (List UInt8)) (m:Mem) (r:Value) (m':Mem):Prop :=
 ∃ x ok,r=.tuple ⟨[.agg ⟨stuCells' x⟩,.bool ok]⟩∧Old m.next m m'∧(ok=true→headOf ws=some x)∧(ok=false→headOf ws=none)
theorem rhead_ok {m:Mem} {v:Value} {ws:List (List UInt8)} (hW:WordsV m m.next v ws) (hl:ws.length≤2000000) (hlw:∀ w∈ws,w.length≤2000000) :
  CallsA tb 77 [v] m (retR (HeadR ws m)):=by
 refine callsS Tryz.func77 e77 rfl rfl ?_
 simp only [s77,List.replicate,List.length_cons,List.length_nil,List.cons_append,List.nil_append,Nat.reduceAdd,Nat.reduceSub]
 obtain⟨av,rfl⟩:=hW.shape
 obtain⟨r0,hr0⟩:∃ r0,r0=m.next:=⟨_,rfl⟩
 refine xseqN (fun l ds m'=>ds=[]∧Old m.next m m'∧m'.next=r0+1∧vw m' r0=some ⟨true,26,false,stuCells' stu0⟩∧Sl [.slice av ws.length ws.length,undef,.pointer (some ⟨r0,0,none⟩),.bool false] 50 l) ?_ ?_
 rotate_left
 ·refine xregQ fun Q' hQ=>?_
  simp
  subst hQ
  refine⟨rfl,(Old.refl _ _).new (Nat.le_refl _) _,by rw [next_newObjA,hr0],?_,Sl.mk (by rw [hr0];rfl) rfl⟩
  rw [vw_new,if_pos hr0];exact vwO_zero1 26 (stuCells' stu0)
 rintro l ds m1 ⟨rfl,hO1,hn1,hv1,ts,hts,rfl⟩
 have hW1:WordsV m1 m1.next (.slice av ws.length ws.length) ws:=by
  rcases hW with h|⟨b,all,h1,h2,h3⟩
  ·exact .inl h
  ·exact .inr ⟨b,all,by omega,by rw [hO1.vw h1];exact h2,h3⟩
 refine xsr fun Q' hQ=>?_
 simp [hts]
 refine xcall (ov_none (by decide)) (rread_ok (form:=iForm) hW1 hl hlw (by decide)) ?_ (fun ch m' h=>h.elim)
 rintro r m2 ⟨f,a1,a2,a3,ok,rfl,hO2,h1,h2⟩
 rw [hn1] at hO2 h1
 simp only [fsC] at h1 ⊢
 simp [hts]
 subst hQ
 obtain⟨m3,hm3,hn3,hv3,hg3⟩:=alloc_st' m2 141 4 [Value.slice none 0 0,Value.slice none 0 0,Value.int IntKind.i64 0,Value.slice none 0 0] [Value.slice a1 f.ints.length f.ints.length,Value.slice a2 f.nats.length f.nats.length,Value.int IntKind.i64 f.way,Value.slice a3 f.text.length f.text.length] rfl rfl rfl
 rw [← hm3]
 obtain⟨q,hq⟩:∃ q,q=m2.next:=⟨_,rfl⟩
 rw [← hq] at hn3 hv3 hg3 ⊢
 have hrq:r0+1≤q:=by have:=hO2.1;omega
 have hv3r:vw m3 r0=some ⟨true,26,false,stuCells' stu0⟩:=by
  have:vw m2 r0=some ⟨true,26,false,stuCells' stu0⟩:=by rw [hO2.vw (by omega)];exact hv1
  unfold vw at this ⊢;rw [hg3 _ (by omega)];exact this
 have hO3:Old m.next m m3:=⟨by omega,fun x hx=>by rw [hg3 x (by omega),hO2.2 x (by omega),hO1.2 x hx]⟩
 clear hm3
 have fin:∀ {x:Stu} {ok:Bool} {m4:Mem},Old m.next m m4→vw m4 r0=some ⟨true,26,false,stuCells' stu0⟩→(ok=true→headOf ws=some x)→(ok=false→headOf ws=none)→∀ {l:List Value},(∃ x0 x1 ts,l=x0::x1::.pointer (some ⟨r0,0,none⟩)::.bool ok::ts)→endX tb Tryz.f77.results.toList (retR (HeadR ws m)) (.jump .ret) l [] (stM m4 r0 0 (stuCells' x)):=by
  rintro x ok m4 hO hv h1 h2 l ⟨x0,x1,ts,rfl⟩
  have hs:stOk ⟨true,26,false,stuCells' stu0⟩ 0 (stuCells' x)=true:=rfl
  refine⟨rfl,_,resX_ct (i:=2) (j:=3) rfl (loadA_all Ty.ti26 Ty.g26 (vw_stM_eq hv hs) (by rw [Ty.s26];rfl)),x,ok,rfl,?_,h1,h2⟩
  exact⟨by rw [stM_next];exact hO.1,fun y hy=>by rw [stM_get (by omega)];exact hO.2 y hy⟩
 obtain⟨hl1,hl2⟩:=head_law ws
 simp only [stuCells',stu0] at hv3r fin
 cases ok with
 |false =>
  refine xseq (xseq (xregQ fun Q' hQ=>?_))
  simp [hts]
  subst hQ
  refine xyes (by simp [hts]) ?_
  refine xsr fun Q' hQ=>?_
  simp [hts,hv3r,stOk,oneC]
  subst hQ
  refine xret (fin (x:=stu0) (ok:=false) hO3 hv3r (fun h=>by cases h) (fun _=>hl2 (h2 rfl)) ?_)
  exact⟨_,_,_,rfl⟩
 |true =>
  obtain⟨hrd,hF⟩:=h1 rfl
  obtain⟨hho,hil,hnl⟩:=hl1 f hrd
  obtain⟨vi,vn,vt,hagg,o1,o2,o3⟩:=hF
  have e1:vi=.slice a1 f.ints.length f.ints.length∧vn=.slice a2 f.nats.length f.nats.length:=by cases hagg;exact⟨rfl,rfl⟩
  obtain⟨rfl,rfl⟩:=e1
  obtain⟨bi,eb,hbi1,hbi2,hbi3⟩:=own_some o1 (by omega)
  obtain⟨bn,en,hbn1,hbn2,hbn3⟩:=own_some o2 (by omega)
  obtain rfl:a1=some ⟨bi,0,none⟩:=by cases eb;rfl
  obtain rfl:a2=some ⟨bn,0,none⟩:=by cases en;rfl
  obtain⟨ints,nats,way,text⟩:=f
  simp only at hil hnl hv3 hbi3 hbn3 hho o3 hts ⊢
  obtain⟨y0,y1,y2,y3,y4,y5,rfl⟩:=len6 hil
  obtain⟨z0,z1,z2,rfl⟩:=len3 hnl
  have hb3:vw m3 bi=some ⟨true,3,true,i64s [y0,y1,y2,y3,y4,y5]⟩:=by unfold vw at hbi3 ⊢;rw [hg3 _ (by omega)];exact hbi3
  have hb4:vw m3 bn=some ⟨true,22,true,u64s [z0,z1,z2]⟩:=by unfold vw at hbn3 ⊢;rw [hg3 _ (by omega)];exact hbn3
  simp only [i64s,u64s,List.map_cons,List.map_nil,List.length_cons,List.length_nil,Nat.zero_add,Nat.reduceAdd] at hb3 hb4 hv3
  refine xseq (xseq (xregQ fun Q' hQ=>?_))
  simp [hts]
  subst hQ
  refine xno (by simp [hts]) (xskip ?_)
  refine xseq (xdrw 3 fun Q' hQ=>?_)
  simp [hts,hv3,hb3,hb4]
  subst hQ
  obtain⟨m4,hm4,hn4,hv4,hg4⟩:=alloc_st' m3 24 6 [Value.int IntKind.i64 0,Value.int IntKind.u64 0,Value.int IntKind.u64 0,Value.int IntKind.i64 0,Value.int IntKind.i64 0,Value.int IntKind.i64 0] [Value.int IntKind.i64 y2,Value.int IntKind.u64 z1,Value.int IntKind.u64 z2,Value.int IntKind.i64 y3,Value.int IntKind.i64 y4,Value.int IntKind.i64 y5] rfl rfl rfl
  rw [← hm4]
  clear hm4
  have hk:∀ x,x<m3.next→vw m4 x=vw m3 x:=fun x hx=>by unfold vw;rw [hg4 x hx]
  have hv4r:=(hk r0 (by omega)).trans hv3r
  have hv4q:=(hk q (by omega)).trans hv3
  have hb34:=(hk bi (by omega)).trans hb3
  have hb44:=(hk bn (by omega)).trans hb4
  have hO4:Old m.next m m4:=⟨by have:=hO3.1;omega,fun x hx=>by rw [hg4 x (by omega)];exact hO3.2 x hx⟩
  refine xseq (xdrw 3 fun Q' hQ=>?_)
  simp [hts,hv4,hv4q,hb34,hb44,hv4r,stOk,oneC]
  subst hQ
  refine xret (fin (x:=headF ⟨[y0,y1,y2,y3,y4,y5],[z0,z1,z2],way,text⟩) (ok:=true) hO4 hv4r (fun _=>hho) (fun h=>by cases h) ?_)
  exact⟨_,_,_,rfl⟩
end Go.Proofs.YtgmkbdmgifdfeaaGreatDoor

set_option maxRecDepth 8000
namespace Go.Proofs.YtgmkbdmgifdfeaaGreatDoor
open Go Go.Ev
def dOf (k:Nat) (f:Fs) (a3:Option Addr):Value:=if k=6 then .slice a3 f.text.length f.text.length else .slice none 0 0
def cOf (k:Nat) (f:Fs) (a1:Option Addr):Value:=if k=14 then .slice a1 f.ints.length f.ints.length else .slice none 0 0
def StepFR (k:Nat) (n:Int) (f:Fs) (a1 a3:Option Addr) (m:Mem) (r:Value) (m':Mem):Prop :=
 r=.agg ⟨stpCells (stepF k n f) (dOf k f a3) (cOf k f a1)⟩∧Old m.next m m'
noncomputable def vwJ (m:Mem) (b i:Nat) (l:List Value):Option Vw:=vw (stM m b i l) b
theorem vw_stM_same (m:Mem) (b i:Nat) (l:List Value):vw (stM m b i l) b=match vw m b with
  |some V=>if stOk V i l=true then some ⟨true,V.elem,V.ext,spl V.cs i l⟩ else vwJ m b i l
  |none=>vwJ m b i l:=by
 cases h:vw m b with
 |none=>rfl
 |some V =>
  simp only
  split
  ·exact vw_stM_eq h (by assumption)
  ·rfl
structure StM (m m2:Mem) (r0 k:Nat) (n:Int) (f:Fs) (a1 a2 a3:Option Addr):Prop where
 old:Old m.next m m2
 eq:r0=m.next
 v0:vw m2 r0=some ⟨true,88,false,rowCells k⟩
 v1:vw m2 (r0+1)=some ⟨true,141,false,fsC f a1 a2 a3⟩
 v2:vw m2 (r0+2)=some ⟨true,36,false,stpCells stp0 (.slice none 0 0) (.slice none 0 0)⟩
 v3:vw m2 (r0+3)=some ⟨true,36,false,stpCells { stp0 with kind:=k,node:=n } (.slice none 0 0) (.slice none 0 0)⟩
theorem own_at {n0 n:Nat} {m m2:Mem} {v:Value} {e:TypeId} {cells:List Value} (h:Own n0 m v e n cells) (hn:n≠0) (hO:Old m.next m m2):∃ b,v=.slice (some ⟨b,0,none⟩) n n∧b<m.next∧vw m2 b=some ⟨true,e,true,cells⟩:=by
 obtain⟨b,h1,_,h3,h4⟩:=own_some h hn
 exact⟨b,h1,h3,by rw [hO.vw h3];exact h4⟩
theorem FsV.parts {n0:Nat} {m:Mem} {f:Fs} {a1 a2 a3:Option Addr} (h:FsV n0 m f (.agg ⟨fsC f a1 a2 a3⟩)):Own n0 m (.slice a1 f.ints.length f.ints.length) 3 f.ints.length (i64s f.ints)∧Own n0 m (.slice a2 f.nats.length f.nats.length) 22 f.nats.length (u64s f.nats)∧Own n0 m (.slice a3 f.text.length f.text.length) 5 f.text.length (u8s f.text):=by
 obtain⟨vi,vn,vt,hagg,o1,o2,o3⟩:=h
 have e:vi=.slice a1 f.ints.length f.ints.length∧vn=.slice a2 f.nats.length f.nats.length∧vt=.slice a3 f.text.length f.text.length:=by cases hagg;exact⟨rfl,rfl,rfl⟩
 obtain⟨rfl,rfl,rfl⟩:=e
 exact⟨o1,o2,o3⟩
theorem front79 {m:Mem} {k:Nat} {n:Int} {f:Fs} {a1 a2 a3:Option Addr} {B:SCode} {Q:PostA}
  (h:∀ (l ts:List Value) (m2:Mem) (x0 x2 x4:Value),ts.length=157→StM m m2 m.next k n f a1 a2 a3→l=[x0,.int .i64 n,x2,.pointer (some ⟨m.next,0,none⟩),x4,.pointer (some ⟨m.next+1,0,none⟩),.pointer (some ⟨m.next+2,0,none⟩),.pointer (some ⟨m.next+3,0,none⟩)]++ts→wpX tb ⟨79,.normal,none⟩ B l [] m2 Q) :
  wpX tb ⟨79,.normal,none⟩ (.seq (.reg [⟨some 3,.box 88 (.tmp 0),0,.no⟩,⟨some 5,.box 141 (.tmp 2),0,.no⟩,⟨some 6,.alloc 36,0,.no⟩]) (.seq (.reg [⟨some 8,.fieldAddr 88 (.tmp 3) 2,0,.no⟩,⟨some 9,.load 3 (.tmp 8),3,.no⟩,⟨some 10,.move (.tmp 1),3,.no⟩,⟨some 11,.build 36 #[(0,.tmp 9),(1,.tmp 10)],36,.no⟩,⟨some 7,.alloc 36,0,.no⟩,⟨none,.store 36 (.tmp 7) (.tmp 11),0,.no⟩]) B))
   (.agg ⟨rowCells k⟩::.int .i64 n::.agg ⟨fsC f a1 a2 a3⟩::List.replicate (Tryz.f79.ntmps-3) undef) [] m Q:=by
 have hn:List.replicate (Tryz.f79.ntmps-3) undef=List.replicate 162 undef:=rfl
 rw [hn]
 simp only [List.replicate]
 obtain⟨r0,hr0⟩:∃ r0,r0=m.next:=⟨_,rfl⟩
 rw [← hr0] at h
 refine xseqN (fun l ds m1=>ds=[]∧Old m.next m m1∧m1.next=r0+3∧vw m1 r0=some ⟨true,88,false,rowCells k⟩∧vw m1 (r0+1)=some ⟨true,141,false,fsC f a1 a2 a3⟩∧vw m1 (r0+2)=some ⟨true,36,false,stpCells stp0 (.slice none 0 0) (.slice none 0 0)⟩∧∃ x0 x2 x4,Sl [x0,.int .i64 n,x2,.pointer (some ⟨r0,0,none⟩),x4,.pointer (some ⟨r0+1,0,none⟩),.pointer (some ⟨r0+2,0,none⟩)] 158 l) ?_ ?_
 rotate_left
 ·refine xregQ fun Q' hQ=>?_
  simp only [rowCells,fsC]
  simp
  subst hQ
  refine⟨rfl,(((Old.refl _ _).new (Nat.le_refl _) _).new (by rw [next_newObjA];omega) _).new (by rw [next_newObjA,next_newObjA];omega) _,by rw [next_newObjA,next_newObjA,next_newObjA,hr0],?_,?_,?_,_,_,_,Sl.mk (by rw [hr0];rfl) rfl⟩
  ·simp [hr0,show ¬ m.next=m.next+1+1 by omega,show ¬ m.next=m.next+1 by omega];rfl
  ·simp [hr0,show ¬ m.next+1=m.next+1+1 by omega];rfl
  ·simp [hr0];rfl
 rintro l ds m1 ⟨rfl,hO1,hn1,h0,h1,h2,x0,x2,x4,ts,hts,rfl⟩
 simp only [rowCells] at h0
 obtain⟨y7,ts7,rfl,hts7⟩:=ln_succ (n:=157) hts
 refine xsr fun Q' hQ=>?_
 simp [hts7,h0,hn1]
 obtain⟨m2,hm2,hn2,hv2,hg2⟩:=alloc_st' m1 36 17 [Value.int IntKind.i64 0,Value.int IntKind.i64 0,Value.int IntKind.i64 0,Value.int IntKind.u64 0,Value.int IntKind.u64 0,Value.slice none 0 0,Value.int IntKind.u64 0,Value.int IntKind.i64 0,Value.int IntKind.i64 0,Value.int IntKind.i64 0,Value.int IntKind.i64 0,Value.int IntKind.i64 0,Value.int IntKind.u32 0,Value.int IntKind.u64 0,Value.slice none 0 0,Value.int IntKind.i64 0,Value.int IntKind.u64 0] (stpCells { stp0 with kind:=k,node:=n } (.slice none 0 0) (.slice none 0 0)) rfl rfl rfl
 simp only [stpCells,stp0,hn1] at hm2 hv2
 rw [← hm2]
 subst hQ
 have hk:∀ x,x<r0+3→vw m2 x=vw m1 x:=fun x hx=>by unfold vw;rw [hg2 x (by omega)]
 refine h _ _ m2 x0 x2 x4 ?_ ⟨⟨by have:=hO1.1;omega,fun x hx=>by rw [hg2 x (by omega)];exact hO1.2 x hx⟩,hr0,by rw [hk _ (by omega)];exact h0,by rw [hk _ (by omega)];exact h1,by rw [hk _ (by omega)];exact h2,hv2⟩ rfl
 simp [hts7]
theorem tail79 {m m3:Mem} {k:Nat} {n:Int} {f:Fs} {a1 a3:Option Addr} {l ts:List Value} {x0 x1 x2 x3 x4 x5:Value} (hO:Old m.next m m3) (hv2:vw m3 (m.next+2)=some ⟨true,36,false,stpCells stp0 (.slice none 0 0) (.slice none 0 0)⟩) {s:Stp} {ad ac:Option Addr} {nd nc:Nat}
  (hv3:vw m3 (m.next+3)=some ⟨true,36,false,stpCells s (.slice ad nd nd) (.slice ac nc nc)⟩) (hs:s=stepF k n f) (hd':.slice ad nd nd=dOf k f a3) (hc':.slice ac nc nc=cOf k f a1) (hl:l=[x0,x1,x2,x3,x4,x5,.pointer (some ⟨m.next+2,0,none⟩),.pointer (some ⟨m.next+3,0,none⟩)]++ts) (hts:ts.length=157) :
  wpX tb ⟨79,.normal,none⟩ (.seq (.reg [⟨some 164,.load 36 (.tmp 7),36,.no⟩,⟨none,.store 36 (.tmp 6) (.tmp 164),0,.no⟩]) .ret) l [] m3 (endX tb Tryz.f79.results.toList (retR (StepFR k n f a1 a3 m))):=by
 subst hl
 have hst:stOk ⟨true,36,false,stpCells stp0 (.slice none 0 0) (.slice none 0 0)⟩ 0 (stpCells s (.slice ad nd nd) (.slice ac nc nc))=true:=by simp [stOk,stpCells,oneC]
 have hall:(stpCells s (.slice ad nd nd) (.slice ac nc nc)).all oneC=true:=by simp [stpCells,oneC]
 have hln:(stpCells s (.slice ad nd nd) (.slice ac nc nc)).length=17:=rfl
 have hz:(stpCells stp0 (.slice none 0 0) (.slice none 0 0)).length=17:=rfl
 have htk:takeN (stpCells s (.slice ad nd nd) (.slice ac nc nc)) 0 17=stpCells s (.slice ad nd nd) (.slice ac nc nc):=rfl
 refine xsr fun Q' hQ=>?_
 simp [hts,hv2,hv3,hall,hln,hz,htk]
 subst hQ
 refine xret ⟨rfl,.agg ⟨stpCells s (.slice ad nd nd) (.slice ac nc nc)⟩,?_,?_,?_⟩
 ·show resX tb [.cell 6 36] _ _=_
  unfold resX
  rw [resA_cell (i:=6) (b:=m.next+2) (v:=.agg ⟨stpCells s (.slice ad nd nd) (.slice ac nc nc)⟩) rfl ((loadA_all Ty.ti36 Ty.g36 (vw_stM_eq hv2 hst) (by rw [Ty.s36,spl_length];rfl)).trans (by rfl)) resA_nil]
 ·rw [hs,hd',hc']
 ·exact hO.st (by omega) _ _
end Go.Proofs.YtgmkbdmgifdfeaaGreatDoor

