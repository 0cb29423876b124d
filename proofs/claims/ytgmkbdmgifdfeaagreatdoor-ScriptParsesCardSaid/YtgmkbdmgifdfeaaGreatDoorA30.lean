/- A part of a proof: ScriptParses. -/
import Derived.Test.YtgmkbdmgifdfeaaGreatDoorA29
set_option linter.unusedVariables false
set_option linter.unusedSimpArgs false
set_option maxRecDepth 8000
namespace Go.Proofs.YtgmkbdmgifdfeaaGreatDoor
open Go Go.Ev
theorem resX_c3 {l:List Value} {m:Mem} {i j k p b:Nat} {t:TypeId} {v:Value} (h:gx l i=.pointer (some ⟨b,0,none⟩)) (hv:loadA tb t m b 0=some v):resX tb [.cell i t,.tmp j,.tmp k,.tmp p] l m=some (.tuple ⟨[v,gx l j,gx l k,gx l p]⟩):=by
 have h1:=slots_ofList l i
 have h2:=slots_ofList l j
 have h4:=slots_ofList l k
 have h5:=slots_ofList l p
 rw [gx_eq] at h1 h2 h4 h5
 simp only [ev] at h1 h2 h4 h5
 have h3:(T.ofList l).get i=some (.pointer (some ⟨b,0,none⟩)):=by
  cases hg:(T.ofList l).get i with
  |none=>rw [hg,h] at h1;cases h1
  |some x=>rw [hg,h] at h1;rw [show x=_ from h1]
 simp only [resX,resA,h3,oB,hv,h2,h4,h5]
theorem WordsV.ex' {p p':Nat} {m m':Mem} {v:Value} {ws:List (List UInt8)} (h:WordsV m p v ws) (hp:p≤p') (hg:∀ x V,x<p→vw m x=some V→V.elem=9→vw m' x=vw m x):WordsV m' p' v ws:=by
 rcases h with h|⟨b,all,h1,h2,h3⟩
 ·exact .inl h
 ·exact .inr ⟨b,all,by omega,by rw [hg b _ h1 h2 rfl];exact h2,h3⟩
structure RPI (m0:Mem) (tx:List UInt8) (p:Nat) (lv:Value) (i:Nat) (s:Scr) (v:Value) (m:Mem):Prop where
 go:parseGo s (i:Int) ((cutLines tx).drop i)=parseOut tx
 old:Old m0.next m0 m
 nx:m0.next+2≤m.next
 np:p≤m.next
 out:vw m m0.next=some ⟨true,26,false,stuCells' stu0⟩
 stu:vw m (m0.next+1)=some ⟨true,26,false,stuCells' s.setup⟩
 steps:StepsAt m0.next m v s.steps
 cnt:s.steps.length≤i
 lns:WordsV m p lv (cutLines tx)
theorem rparse_ok {m:Mem} {tx:List UInt8} (hm8:8≤m.next) (hlen:tx.length≤9223372036854775807):CallsA tb 20 [.string ⟨⟨tx⟩⟩] m (retR (ParseR m tx)):=by
 refine callsS Tryz.func20 e20 rfl rfl ?_
 simp only [s20,List.replicate,List.length_cons,List.length_nil,List.cons_append,List.nil_append,Nat.reduceAdd,Nat.reduceSub]
 obtain⟨r0,hr0⟩:∃ r0,r0=m.next:=⟨_,rfl⟩
 refine xseqN (fun l ds m'=>ds=[]∧Old m.next m m'∧m'.next=r0+1∧vw m' r0=some ⟨true,26,false,stuCells' stu0⟩∧Sl [.string ⟨⟨tx⟩⟩,undef,.pointer (some ⟨r0,0,none⟩),.slice none 0 0,.int .i64 0,.int .i64 0] 59 l) ?_ ?_
 rotate_left
 ·refine xregQ fun Q' hQ=>?_
  simp
  subst hQ
  refine⟨rfl,(Old.refl _ _).new (Nat.le_refl _) _,by rw [next_newObjA,hr0],?_,Sl.mk (by rw [hr0];rfl) rfl⟩
  rw [vw_new,if_pos hr0];exact vwO_zero1 26 (stuCells' stu0)
 rintro l ds m1 ⟨rfl,hO1,hn1,hv1,ts,hts,rfl⟩
 have fin:∀ {x:Stu} {ss:List Stp} {n e:Int} {v:Value} {m4:Mem},parseOut tx=(x,ss,n,e)→Old m.next m m4→vw m4 r0=some ⟨true,26,false,stuCells' stu0⟩→StepsAt m.next m4 v ss →
   ∀ {l:List Value},(∃ x0 x1 ts,l=x0::x1::.pointer (some ⟨r0,0,none⟩)::v::.int .i64 n::.int .i64 e::ts)→endX tb Tryz.f20.results.toList (retR (ParseR m tx)) (.jump .ret) l [] (stM m4 r0 0 (stuCells' x)):=by
  rintro x ss n e v m4 hpo hO hv hst l ⟨x0,x1,ts,rfl⟩
  have hs:stOk ⟨true,26,false,stuCells' stu0⟩ 0 (stuCells' x)=true:=rfl
  refine⟨rfl,_,resX_c3 (i:=2) (j:=3) (k:=4) (p:=5) rfl (load_st Ty.ti26 Ty.g26 hv hs rfl (by rw [Ty.s26];rfl)),v,by rw [hpo];rfl,?_,?_⟩
  ·rw [hpo]
   refine hst.ex (by rw [stM_next];exact Nat.le_refl _) fun y V hy h0 hV hx=>stM_get fun e=>?_
   subst e;rw [hv] at hV;cases hV;cases hx
  ·exact⟨by rw [stM_next];exact hO.1,fun y hy=>by rw [stM_get (by omega)];exact hO.2 y hy⟩
 simp only [stuCells',stu0] at hv1
 refine xseqN (fun l ds m'=>ds=[]∧m'=m1∧tx.length≤1048576∧Sl [.string ⟨⟨tx⟩⟩,undef,.pointer (some ⟨r0,0,none⟩),.slice none 0 0,.int .i64 0,.int .i64 0] 59 l) ?_ ?_
 rotate_left
 ·refine xsr fun Q' hQ=>?_
  by_cases hbig:1048576<tx.length
  ·have hbig':(1048576:Int)<(tx.length:Int):=by omega
   simp [hts,hbig']
   subst hQ
   refine xyes (by simp [hts,hbig]) ?_
   refine xsr fun Q' hQ=>?_
   simp [hts,hv1,stOk,oneC]
   subst hQ
   refine xret (fin (x:=stu0) (ss:=[]) (n:=0) (e:=81) (v:=.slice none 0 0) (by unfold parseOut;rw [if_pos hbig]) hO1 hv1 (steps_nil _ _) ?_)
   exact⟨_,_,_,rfl⟩
  ·have hbig':¬ (1048576:Int)<(tx.length:Int):=by omega
   simp [hts,hbig']
   subst hQ
   refine xno (by simp [hts,hbig]) (xskip ?_)
   exact⟨rfl,rfl,by omega,Sl.mk rfl (by simp [hts])⟩
 clear hts
 rintro l ds m2 ⟨rfl,rfl,hsm,ts,hts,rfl⟩
 have hpo:parseOut tx=parseGo ⟨stu0,[],false⟩ 0 (cutLines tx):=by unfold parseOut;rw [if_neg (by omega)]
 obtain⟨x6,ts6,rfl,hts6⟩:=ln_succ (n:=58) hts
 obtain⟨x7,ts7,rfl,hts7⟩:=ln_succ (n:=57) hts6
 obtain⟨x8,ts8,rfl,hts8⟩:=ln_succ (n:=56) hts7
 obtain⟨x9,ts9,rfl,hts9⟩:=ln_succ (n:=55) hts8
 obtain⟨x10,ts10,rfl,hts10⟩:=ln_succ (n:=54) hts9
 clear hts hts6 hts7 hts8 hts9
 obtain⟨m3,hm3⟩:∃ m3,m3=newObjA m2 (zeroObj 26 9 (stuCells' stu0)):=⟨_,rfl⟩
 have hn3:m3.next=r0+2:=by rw [hm3,next_newObjA,hn1]
 have hv30:vw m3 r0=some ⟨true,26,false,stuCells' stu0⟩:=by rw [hm3,vw_new,if_neg (by omega)];exact hv1
 have hv31:vw m3 (r0+1)=some ⟨true,26,false,stuCells' stu0⟩:=by rw [hm3,vw_new,if_pos (by omega)];exact vwO_zero1 26 (stuCells' stu0)
 have hO3:Old m.next m m3:=by rw [hm3];exact hO1.new (by omega) _
 simp only [stuCells',stu0] at hm3
 refine xsr fun Q' hQ=>?_
 simp [hts10,hn1,← hm3]
 subst hQ
 refine xsr fun Q' hQ=>?_
 simp [hts10]
 subst hQ
 refine xsr fun Q' hQ=>?_
 simp [hts10]
 subst hQ
 refine xsr fun Q' hQ=>?_
 simp [hts10]
 refine xcall (ov_none (by decide)) (rlines_ok (m:=m3) (tx:=tx) (by omega)) ?_ (fun ch m' h=>h.elim)
 rintro lv m4 ⟨hown,hO4,hll⟩
 subst hQ
 obtain⟨cl1,cl2⟩:=cut_len tx
 obtain⟨al,rfl⟩:=hown.shape
 have hW:=words_of_own hown (Nat.le_refl _)
 obtain⟨L,hL⟩:∃ L,L=(cutLines tx).length:=⟨_,rfl⟩
 rw [← hL] at hll cl1
 have hI0:RPI m tx m4.next (.slice al (cutLines tx).length (cutLines tx).length) 0 ⟨stu0,[],false⟩ (.slice none 0 0) m4:=by
  refine⟨by rw [hpo];rfl,hO3.trans (hO4.le (by omega)),by have:=hO4.1;omega,Nat.le_refl _,by rw [← hr0,hO4.vw (by omega)];exact hv30,by rw [← hr0,hO4.vw (by omega)];exact hv31,steps_nil _ _,Nat.le_refl _,hW⟩
 obtain⟨p,hp⟩:∃ p,p=m4.next:=⟨_,rfl⟩
 rw [← hp] at hI0
 clear hW hown hO4 hv30 hv31 hO3 hm3 hO1 hv1
 refine xseqN (fun l ds m'=>ds=[]∧∃ (s:Scr) (v x9 x10:Value),RPI m tx p (.slice al (cutLines tx).length (cutLines tx).length) L s v m'∧Sl [.string ⟨⟨tx⟩⟩,undef,.pointer (some ⟨r0,0,none⟩),.slice none 0 0,.int .i64 0,.int .i64 0,.pointer (some ⟨r0+1,0,none⟩),v,.bool s.begun,x9,x10] 54 l) ?_ ?_
 ·rintro l ds m5 ⟨rfl,s,v,x9,x10,hI,us,hus,rfl⟩
  have hgo:=hI.go
  rw [hL,List.drop_length] at hgo
  have hout:=hI.out
  have hstu:=hI.stu
  have hst:=hI.steps
  rw [← hr0] at hout hstu
  simp only [stuCells',stu0] at hout
  refine xseq (xseq (xregQ fun Q' hQ=>?_))
  cases hbg:s.begun with
  |false =>
   have hp2:parseOut tx=(stu0,[],1,210):=by rw [← hgo];simp [parseGo,hbg]
   simp [hus]
   subst hQ
   refine xyes (by simp [hus]) ?_
   refine xsr fun Q' hQ=>?_
   simp [hus,hout,stOk,oneC]
   subst hQ
   refine xret (fin (x:=stu0) (ss:=[]) (n:=1) (e:=210) (v:=.slice none 0 0) hp2 hI.old hout (steps_nil _ _) ?_)
   exact⟨_,_,_,rfl⟩
  |true =>
   have hp2:parseOut tx=(s.setup,s.steps,0,0):=by rw [← hgo];simp [parseGo,hbg]
   simp [hus]
   subst hQ
   refine xno (by simp [hus]) (xskip ?_)
   rw [thenA_normal]
   simp only [stuCells'] at hstu
   refine xsr fun Q' hQ=>?_
   simp [hus,hout,hstu,stOk,oneC]
   subst hQ
   refine xret (fin (x:=s.setup) (ss:=s.steps) (n:=0) (e:=0) (v:=v) hp2 hI.old hout hst ?_)
   exact⟨_,_,_,rfl⟩
 refine xsr fun Q' hQ=>?_
 simp [hts10]
 subst hQ
 refine xblock (xwhile (N:=L) (I:=fun q l ds m5=>∃ (i:Nat) (s:Scr) (v:Value),q=L-i∧i≤L∧ds=[]∧RPI m tx p (.slice al (cutLines tx).length (cutLines tx).length) i s v m5 ∧
   Sl [.string ⟨⟨tx⟩⟩,undef,.pointer (some ⟨r0,0,none⟩),.slice none 0 0,.int .i64 0,.int .i64 0,.pointer (some ⟨r0+1,0,none⟩),v,.bool s.begun,.slice al L L,.int .i64 (i:Nat)] 54 l) ?_ ?_)
 ·refine⟨0,⟨stu0,[],false⟩,.slice none 0 0,rfl,by omega,rfl,hI0,?_⟩
  rw [hL]
  exact Sl.mk rfl (by simp [hts10])
 clear hts10 hI0
 rintro q l ds m5 ⟨i,s,v,rfl,hi,rfl,hI,ts,hts,rfl⟩
 obtain⟨x11,ts11,rfl,hts11⟩:=ln_succ (n:=53) hts
 obtain⟨x12,ts12,rfl,hts12⟩:=ln_succ (n:=52) hts11
 clear hts hts11
 refine xseq (xseq (xregQ fun Q' hQ=>?_))
 simp [hts12]
 subst hQ
 refine xif (v:=decide ((i:Int)<(L:Int))) (by simp [hts12]) (fun h=>xskip ?_) (fun h=>xexit ?_)
 rotate_left
 ·simp only [decide_eq_false_iff_not] at h
  obtain rfl:i=L:=by omega
  exact⟨rfl,s,v,_,_,hI,Sl.mk rfl (by simp [hts12])⟩
 simp only [decide_eq_true_eq] at h
 have hiL:i<L:=by omega
 obtain⟨ln,hln⟩:∃ ln,(cutLines tx)[i]? = some ln:=⟨_,List.getElem?_eq_getElem (by omega)⟩
 have hlnl:ln.length≤2000000:=by have:=cl2 ln (List.mem_of_getElem? hln);omega
 have hdr:(cutLines tx).drop i=ln::(cutLines tx).drop (i+1):=by
  obtain⟨h1,h2⟩:=List.getElem?_eq_some_iff.1 hln
  rw [List.drop_eq_getElem_cons h1,h2]
 obtain⟨b,o,all,hav,hb,hvb,hel,hol⟩:=hI.lns.get hln
 obtain rfl:al=some ⟨b,o,none⟩:=by cases hav;rfl
 have hgo:=hI.go
 rw [hdr] at hgo
 rw [thenA_normal]
 obtain⟨i1,hi1⟩:∃ i1,i1=i+1:=⟨_,rfl⟩
 have hw1:IntKind.wrap .i64 ((i:Int)+1)=(i1:Int):=by rw [wr64 _ (by omega) (by omega)];omega
 refine xseqN (fun l ds m'=>ds=[]∧∃ (s:Scr) (v:Value),RPI m tx p (.slice (some ⟨b,o,none⟩) (cutLines tx).length (cutLines tx).length) i1 s v m'∧Sl [.string ⟨⟨tx⟩⟩,undef,.pointer (some ⟨r0,0,none⟩),.slice none 0 0,.int .i64 0,.int .i64 0,.pointer (some ⟨r0+1,0,none⟩),v,.bool s.begun,.slice (some ⟨b,o,none⟩) L L,.int .i64 (i:Nat)] 54 l) ?_ ?_
 ·rintro l ds m6 ⟨rfl,s,v,hI,us,hus,rfl⟩
  refine xregQ fun Q' hQ=>?_
  simp [hus,hw1]
  subst hQ
  exact⟨L-i1,by omega,i1,s,v,rfl,by omega,rfl,hI,Sl.mk rfl (by simp [hus])⟩
 refine xblock (xseq (xregQ fun Q' hQ=>?_))
 simp [hts12,hiL,hvb,hel,hol]
 refine xcall (ov_none (by decide)) (rone_ok (m:=m5) hlnl (by have:=hI.nx;omega)) ?_ (fun ch m' h=>h.elim)
 rintro r m6 ⟨b1,b2,x,t,ad,nd,ac,nc,ok,rfl,hO6,h0,h1⟩
 simp only [oneCells,stuCells',stpCells,List.cons_append,List.nil_append]
 simp [hts12,stOk,oneC]
 subst hQ
 obtain⟨m7,hm7,hn7,hv7,hg7⟩:=alloc_st' m6 105 28 (oneCells false false stu0 stp0 (.slice none 0 0) (.slice none 0 0)) (oneCells b1 b2 x t (.slice ad nd nd) (.slice ac nc nc)) rfl rfl rfl
 obtain⟨q,hq⟩:∃ q,q=m6.next:=⟨_,rfl⟩
 simp only [oneCells,stuCells',stpCells,stu0,stp0,List.cons_append,List.nil_append] at hm7 hv7
 rw [← hm7]
 rw [← hq] at hm7 hv7 hn7 hg7 ⊢
 clear hm7
 have hO7:Old m5.next m5 m7:=⟨by have:=hO6.1;omega,fun y hy=>by rw [hg7 y (by have:=hO6.1;omega)];exact hO6.2 y hy⟩
 have hW7:WordsV m7 p (.slice (some ⟨b,o,none⟩) (cutLines tx).length (cutLines tx).length) (cutLines tx):=hI.lns.ex (Nat.le_refl _) fun y hy=>hO7.vw (by have:=hI.np;omega)
 have hnx:=hI.nx
 have hnp:=hI.np
 have hout:vw m7 r0=some ⟨true,26,false,stuCells' stu0⟩:=by rw [hO7.vw (by omega),hr0];exact hI.out
 have hstu:vw m7 (r0+1)=some ⟨true,26,false,stuCells' s.setup⟩:=by rw [hO7.vw (by omega),hr0];exact hI.stu
 have hst7:StepsAt r0 m7 v s.steps:=by
  rw [hr0];exact hI.steps.ex hO7.1 fun y V hy _ _ _=>hO7.2 y hy
 have hOm:Old m.next m m7:=hI.old.trans (hO7.le (by omega))
 have hcnt:=hI.cnt
 have hgx:∀ s',takeLn s ln=some s'→parseGo s' (i1:Int) ((cutLines tx).drop i1)=parseOut tx:=fun s' h=>by
  rw [← hgo,parseGo,h,hi1];rfl
 have hgf:takeLn s ln=none→parseOut tx=(stu0,[],(i1:Int),210):=fun h=>by
  rw [← hgo,parseGo,h,hi1];rfl
 simp only [stuCells',stu0] at hout
 have bad:takeLn s ln=none→∀ {l:List Value},Sl [.string ⟨⟨tx⟩⟩,undef,.pointer (some ⟨r0,0,none⟩),.slice none 0 0,.int .i64 0,.int .i64 0,.pointer (some ⟨r0+1,0,none⟩),v,.bool s.begun,.slice (some ⟨b,o,none⟩) L L,.int .i64 (i:Nat)] 54 l →
   ∀ {Q:PostA},(∀ {l:List Value} {m':Mem},endX tb Tryz.f20.results.toList (retR (ParseR m tx)) (.jump .ret) l [] m'→Q (.jump .ret) l [] m')→wpX tb ⟨20,.normal,none⟩ (.seq (.reg [⟨some 45,.build 26 #[],26,.no⟩,⟨some 46,.move (.tmp 10),3,.no⟩,⟨some 47,.binOp .add 3 (.tmp 46) (.const (.int .i64 1)) 3,3,.no⟩,⟨none,.store 26 (.tmp 2) (.tmp 45),0,.no⟩,⟨some 3,.assign (.const (.slice none 0 0)),27,.no⟩,⟨some 4,.assign (.tmp 47),3,.no⟩,⟨some 5,.assign (.const (.int .i64 210)),3,.no⟩]) .ret) l [] m7 Q:=by
  rintro hno l ⟨us,hus,rfl⟩ Q hQ0
  refine xsr fun Q' hQ=>?_
  simp [hus,hout,stOk,oneC,hw1]
  subst hQ
  refine xret (hQ0 (fin (x:=stu0) (ss:=[]) (n:=(i1:Int)) (e:=210) (v:=.slice none 0 0) (hgf hno) hOm hout (steps_nil _ _) ?_))
  exact⟨_,_,_,rfl⟩
 have take:takeLn s ln=match lineOf ln with
   |none=>none
   |some .nothing=>some s
   |some (.head x)=>if s.begun then none else some { s with setup:=x,begun:=true }
   |some (.step t)=>if s.begun then some { s with steps:=s.steps++[t] } else none:=rfl
 refine xseqN (fun l ds m'=>ds=[]∧m'=m7∧((b1=false∧lineOf ln=some .nothing)∨(b1=true∧b2=true∧s.begun=false∧lineOf ln=some (.head x)) ∨
   (b1=true∧b2=false∧s.begun=true∧lineOf ln=some (.step t)∧Own m5.next m6 (.slice ad nd nd) 5 t.data.length (u8s t.data)∧Own m5.next m6 (.slice ac nc nc) 3 t.choices.length (i64s t.choices))) ∧
   Sl [.string ⟨⟨tx⟩⟩,undef,.pointer (some ⟨r0,0,none⟩),.slice none 0 0,.int .i64 0,.int .i64 0,.pointer (some ⟨r0+1,0,none⟩),v,.bool s.begun,.slice (some ⟨b,o,none⟩) L L,.int .i64 (i:Nat),.pointer (some ⟨q,0,none⟩)] 53 l) ?_ ?_
 rotate_left
 ·refine xsr fun Q' hQ=>?_
  cases ok with
  |false =>
   have hno:takeLn s ln=none:=by rw [take,h0 rfl]
   simp [hts12]
   subst hQ
   refine xyes (by simp [hts12]) ?_
   refine bad hno ?_ ?_
   ·exact Sl.mk rfl (by simp [hts12])
   ·exact fun h=>h
  |true =>
   rcases h1 rfl with ⟨rfl,hl⟩|⟨rfl,rfl,hl⟩|⟨rfl,rfl,hl,o1,o2⟩
   ·simp [hts12,hv7]
    subst hQ
    refine xno (by simp [hts12]) (xskip ?_)
    exact⟨rfl,rfl,.inl ⟨rfl,hl⟩,Sl.mk rfl (by simp [hts12])⟩
   ·cases hbg:s.begun with
    |true =>
     have hno:takeLn s ln=none:=by rw [take,hl];simp [hbg]
     simp [hts12,hv7,beq4]
     subst hQ
     refine xyes (by simp [hts12]) ?_
     refine bad hno ?_ ?_
     ·exact Sl.mk (by rw [hbg];rfl) (by simp [hts12])
     ·exact fun h=>h
    |false =>
     simp [hts12,hv7,beq4]
     subst hQ
     refine xno (by simp [hts12]) (xskip ?_)
     exact⟨rfl,rfl,.inr (.inl ⟨rfl,rfl,hbg,hl⟩),Sl.mk (by rw [hbg];rfl) (by simp [hts12])⟩
   ·cases hbg:s.begun with
    |false =>
     have hno:takeLn s ln=none:=by rw [take,hl];simp [hbg]
     simp [hts12,hv7,beq4]
     subst hQ
     refine xyes (by simp [hts12]) ?_
     refine bad hno ?_ ?_
     ·exact Sl.mk (by rw [hbg];rfl) (by simp [hts12])
     ·exact fun h=>h
    |true =>
     simp [hts12,hv7,beq4]
     subst hQ
     refine xno (by simp [hts12]) (xskip ?_)
     exact⟨rfl,rfl,.inr (.inr ⟨rfl,rfl,hbg,hl,o1,o2⟩),Sl.mk (by rw [hbg];rfl) (by simp [hts12])⟩
 clear hts12 bad
 rintro l ds m8 ⟨rfl,rfl,hcase,ts,hts,rfl⟩
 rcases hcase with ⟨rfl,hl⟩|⟨rfl,rfl,hbg,hl⟩|⟨rfl,rfl,hbg,hl,o1,o2⟩
 ·
  refine xseq (xseq (xregQ fun Q' hQ=>?_))
  simp [hts,hv7]
  subst hQ
  refine xyes (by simp [hts]) ?_
  refine xexit ⟨rfl,s,v,⟨hgx s (by rw [take,hl]),hOm,by have:=hO7.1;omega,by have:=hO7.1;omega,by rw [← hr0];exact hout,by rw [← hr0];exact hstu,by rw [← hr0];exact hst7,by omega,hW7⟩,Sl.mk rfl (by simp [hts])⟩
 ·
  refine xseq (xseq (xregQ fun Q' hQ=>?_))
  simp [hts,hv7]
  subst hQ
  refine xno (by simp [hts]) (xskip ?_)
  rw [thenA_normal]
  refine xsr fun Q' hQ=>?_
  simp [hts,hv7]
  subst hQ
  refine xyes (by simp [hts]) ?_
  have hs:stOk ⟨true,26,false,stuCells' s.setup⟩ 0 (stuCells' x)=true:=rfl
  have hnew:=vw_stM_eq hstu hs
  rw [spl_eq (by show 0+9≤9;omega)] at hnew
  have htk9:takeLn s ln=some { s with setup:=x,begun:=true }:=by rw [take,hl];simp [hbg]
  have hO9:Old m.next m (stM m8 (r0+1) 0 (stuCells' x)):=hOm.st (by omega) _ _
  have hRP:RPI m tx p (.slice (some ⟨b,o,none⟩) (cutLines tx).length (cutLines tx).length) i1 { s with setup:=x,begun:=true } v (stM m8 (r0+1) 0 (stuCells' x)):=by
   refine⟨hgx _ htk9,hO9,by rw [stM_next];have:=hO7.1;omega,by rw [stM_next];have:=hO7.1;omega,by rw [← hr0,vw_stM_ne (by omega)];exact hout,?_,?_,by simp;omega,?_⟩
   ·rw [← hr0,hnew];rfl
   ·rw [← hr0]
    refine hst7.ex (by rw [stM_next];exact Nat.le_refl _) fun y V hy h0 hV hx=>stM_get fun e=>?_
    subst e;rw [hstu] at hV;cases hV;cases hx
   ·refine hW7.ex' (Nat.le_refl _) fun y V hy hV he=>vw_stM_ne fun e=>?_
    subst e;rw [hstu] at hV;cases hV;cases he
  simp only [stuCells'] at hstu hRP
  refine xsr fun Q' hQ=>?_
  simp [hts,hv7,hstu,stOk,oneC]
  subst hQ
  generalize stM m8 (r0+1) 0 [Value.int IntKind.i64 x.mtu,Value.int IntKind.u64 x.ack,Value.int IntKind.u64 x.retry,Value.int IntKind.i64 x.retries,Value.int IntKind.i64 x.window,Value.int IntKind.i64 x.inbox,Value.int IntKind.i64 x.sectors,Value.int IntKind.i64 x.room,Value.int IntKind.u64 x.start]=m9 at hRP
  refine xregQ fun Q' hQ=>?_
  simp [hts]
  subst hQ
  exact⟨rfl,{ s with setup:=x,begun:=true },v,hRP,Sl.mk rfl (by simp [hts])⟩
 ·
  refine xseq (xseq (xregQ fun Q' hQ=>?_))
  simp [hts,hv7]
  subst hQ
  refine xno (by simp [hts]) (xskip ?_)
  rw [thenA_normal]
  refine xsr fun Q' hQ=>?_
  simp [hts,hv7]
  subst hQ
  refine xno (by simp [hts]) ?_
  have htk9:takeLn s ln=some { s with steps:=s.steps++[t] }:=by rw [take,hl];simp [hbg]
  have own:∀ {v:Value} {e:TypeId} {n:Nat} {cs:List Value},Own m5.next m6 v e n cs→Own r0 m8 v e n cs:=fun ho =>
   (ho.ex (by omega) fun y hy _ _=>hg7 y (by omega)).le (by omega)
  obtain⟨aw,bn,m9,rfl,g1,g2,g3,g4,g5⟩:=steps_app hst7 (by have:=hO7.1;omega) (own o1) (own o2)
  have hRP:RPI m tx p (.slice (some ⟨b,o,none⟩) (cutLines tx).length (cutLines tx).length) i1 { s with steps:=s.steps++[t] } (.slice (some ⟨bn,0,none⟩) (s.steps.length+1) (s.steps.length+1)) m9:=by
   refine⟨hgx _ htk9,hOm.trans (g3.le (by omega)),by have:=hO7.1;omega,by have:=hO7.1;omega,?_,?_,by rw [← hr0];exact g2,by simp;omega,?_⟩
   ·rw [← hr0]
    have:=g5 r0 _ (by have:=hO7.1;omega) hout (.inr rfl)
    unfold vw at hout ⊢;rw [this];exact hout
   ·rw [← hr0]
    have:=g5 (r0+1) _ (by have:=hO7.1;omega) hstu (.inr rfl)
    unfold vw at hstu ⊢;rw [this];exact hstu
   ·refine hW7.ex' (Nat.le_refl _) fun y V hy hV he=>?_
    have:=g5 y V (by have:=hO7.1;omega) hV (.inl (by rw [he];decide))
    unfold vw;rw [this]
  have hsl:s.steps.length≤8000000:=by omega
  simp only [stpCells,z17] at g1
  refine xregQ fun Q' hQ=>?_
  simp [hts,hv7,fits_true _ s.steps.length s.steps.length 1 168 (by omega),g1]
  subst hQ
  exact⟨rfl,{ s with steps:=s.steps++[t] },_,hRP,Sl.mk rfl (by simp [hts])⟩
end Go.Proofs.YtgmkbdmgifdfeaaGreatDoor

set_option maxRecDepth 8000
namespace Go.Proofs.YtgmkbdmgifdfeaaGreatDoor
open Go Go.Ev
theorem num_ok (m:Mem) (z:Int):CallsA tb 15 [.int .i64 z] m (retR fun r m'=>r=.int .i64 z∧m'=m):=by
 refine callsS Tryz.func15 e15 rfl rfl ?_
 simp only [s15,List.replicate,List.length_cons,List.length_nil,List.cons_append,List.nil_append,Nat.reduceAdd,Nat.reduceSub]
 refine xsr fun Q' hQ=>?_
 simp
 subst hQ
 refine xsr fun Q' hQ=>?_
 simp
 subst hQ
 exact xret ⟨rfl,_,resX_one _,rfl,rfl⟩
theorem guard32:(tv 32).guard=false:=by kernel_rfl
theorem held32:(tv 32).held=false:=by kernel_rfl
theorem b_neq32 (m:Mem) (x y:Operand) (a b:Int):binA tb m .neq 32 x y (.agg ⟨[.int .i64 a,.int .i64 b]⟩) (.agg ⟨[.int .i64 a,.int .i64 b]⟩)=some (.bool false):=by
 have h3:∀ z:Int,eqA tb m 63 3 (.int .i64 z) (.int .i64 z)=some true:=by
  intro z
  unfold eqA
  simp only [Ty.ti3,oB,Ty.d3,eqInt,kEq_self,intEq_eq,beq_self_eq_true]
 have e:eqA tb m 64 32 (.agg ⟨[.int .i64 a,.int .i64 b]⟩) (.agg ⟨[.int .i64 a,.int .i64 b]⟩)=some true:=by
  rw [eqA]
  simp only [Ty.ti32,oB,Ty.d32,eqSt,held32,Ty.f32]
  have p0:partA tb 3 [Value.int IntKind.i64 a,Value.int IntKind.i64 b] 0=some (.int .i64 a):=by
   unfold partA;simp only [Ty.ti3,Ty.g3,oB];rfl
  have p1:partA tb 3 [Value.int IntKind.i64 a,Value.int IntKind.i64 b] 1=some (.int .i64 b):=by
   unfold partA;simp only [Ty.ti3,Ty.g3,oB];rfl
  simp only [eqFields,p0,p1,oB,h3]
 unfold binA
 simp only [eqOp,guardOk,Ty.ti32,guard32,Bool.not_false,e,oB,Bool.not_true]
theorem sameStep_ok {m:Mem} {s:Stp} {ad ac ad' ac':Option Addr} {dc cc dc' cc':Nat} (hd:SlAt m (.slice ad s.data.length dc) s.data.length (u8s s.data)) (hd':SlAt m (.slice ad' s.data.length dc') s.data.length (u8s s.data))
  (hc:SlAt m (.slice ac s.choices.length cc) s.choices.length (i64s s.choices)) (hc':SlAt m (.slice ac' s.choices.length cc') s.choices.length (i64s s.choices)) (hb:s.choices.length≤1000000000) :
  CallsA tb 38 [.agg ⟨stpCells s (.slice ad s.data.length dc) (.slice ac s.choices.length cc)⟩,.agg ⟨stpCells s (.slice ad' s.data.length dc') (.slice ac' s.choices.length cc')⟩] m (retR fun r m'=>r=.bool true∧Old m.next m m'):=by
 refine callsS Tryz.func38 e38 rfl rfl ?_
 simp only [s38,List.replicate,List.length_cons,List.length_nil,List.cons_append,List.nil_append,Nat.reduceAdd,Nat.reduceSub]
 refine xseqP (PS:=fun l' ds' m1=>ds'=[]∧m1.next=m.next+2∧Old m.next m m1∧vw m1 m.next=some ⟨true,36,false,stpCells s (.slice ad s.data.length dc) (.slice ac s.choices.length cc)⟩∧vw m1 (m.next+1)=some ⟨true,36,false,stpCells s (.slice ad' s.data.length dc') (.slice ac' s.choices.length cc')⟩ ∧
   Sl [.agg ⟨stpCells s (.slice ad s.data.length dc) (.slice ac s.choices.length cc)⟩,.agg ⟨stpCells s (.slice ad' s.data.length dc') (.slice ac' s.choices.length cc')⟩,.pointer (some ⟨m.next,0,none⟩),.pointer (some ⟨m.next+1,0,none⟩),.bool false] 131 l') ?_ ?_
 ·refine xregQ fun Q' hQ=>?_
  simp
  subst hQ
  refine⟨rfl,rfl,by simp,?_,?_,?_,Sl.mk rfl rfl⟩
  ·exact ((Old.refl _ _).new (Nat.le_refl _) _).new (by simp) _
  ·simp [vw_new]
  ·simp [vw_new]
 rintro l ds m1 ⟨rfl,hnx,hO,hv1,hv2,⟨ts,hts,rfl⟩⟩
 have hr1:=hv1
 have hr2:=hv2
 have zs:∀ d c:Value,(stpCells s d c)[0]? = some (.int .i64 s.kind)∧(stpCells s d c)[1]? = some (.int .i64 s.node)∧(stpCells s d c)[2]? = some (.int .i64 s.stream)∧(stpCells s d c)[3]? = some (.int .u64 s.time)∧(stpCells s d c)[4]? = some (.int .u64 s.life)∧(stpCells s d c)[5]? = some d∧(stpCells s d c)[6]? = some (.int .u64 s.seq)∧takeN (stpCells s d c) 7 2=[.int .i64 s.qc,.int .i64 s.qb]∧9≤(stpCells s d c).length:=fun _ _=>⟨rfl,rfl,rfl,rfl,rfl,rfl,rfl,rfl,by rw [stp_len];omega⟩
 have zt:∀ d c:Value,(stpCells s d c)[9]? = some (.int .i64 s.way)∧(stpCells s d c)[10]? = some (.int .i64 s.place)∧(stpCells s d c)[11]? = some (.int .i64 s.pos)∧(stpCells s d c)[12]? = some (.int .u32 s.mask)∧(stpCells s d c)[13]? = some (.int .u64 s.ticks)∧(stpCells s d c)[14]? = some c∧(stpCells s d c)[15]? = some (.int .i64 s.cursor)∧(stpCells s d c)[16]? = some (.int .u64 s.to):=fun _ _=>⟨rfl,rfl,rfl,rfl,rfl,rfl,rfl,rfl⟩
 have hd1:=SlAt.old hd hO
 have hd2:=SlAt.old hd' hO
 have hc1:=SlAt.old hc hO
 have hc2:=SlAt.old hc' hO
 refine xseqP (PS:=fun l' ds' m'=>ds'=[]∧m'=m1∧Sl [.agg ⟨stpCells s (.slice ad s.data.length dc) (.slice ac s.choices.length cc)⟩,.agg ⟨stpCells s (.slice ad' s.data.length dc') (.slice ac' s.choices.length cc')⟩,.pointer (some ⟨m.next,0,none⟩),.pointer (some ⟨m.next+1,0,none⟩),.bool false] 131 l') ?_ ?_
 ·refine xsr fun Q' hQ=>?_
  simp [hts,hv1,hv2,zs,c29_9 hd1,c29_9 hd2,b_neq32]
  subst hQ
  rw [thenA_normal]
  refine xif (v:=false) ?_ (fun h=>by cases h) (fun h=>xskip ?_)
  ·rw [evL_tmp']
   simp [hts]
  exact⟨rfl,rfl,rfl,Sl.mk rfl (by simp [hts])⟩
 rintro l ds m2 ⟨rfl,rfl,⟨ts,hts,rfl⟩⟩
 refine xseqP (PS:=fun l' ds' m'=>ds'=[]∧m'=m2∧Sl [.agg ⟨stpCells s (.slice ad s.data.length dc) (.slice ac s.choices.length cc)⟩,.agg ⟨stpCells s (.slice ad' s.data.length dc') (.slice ac' s.choices.length cc')⟩,.pointer (some ⟨m.next,0,none⟩),.pointer (some ⟨m.next+1,0,none⟩),.bool false] 131 l') ?_ ?_
 ·refine xsr fun Q' hQ=>?_
  simp [hts,hv1,hv2,zt]
  subst hQ
  rw [thenA_normal]
  refine xif (v:=false) ?_ (fun h=>by cases h) (fun h=>xskip ?_)
  ·rw [evL_tmp']
   simp [hts]
  exact⟨rfl,rfl,rfl,Sl.mk rfl (by simp [hts])⟩
 rintro l ds m3 ⟨rfl,rfl,⟨ts,hts,rfl⟩⟩
 refine xseq (xseq (xregQ fun Q' hQ=>?_))
 simp [hts]
 subst hQ
 obtain⟨x5,ts',rfl,hts'⟩:=len_succ (n:=130) hts
 refine xblock (xwhile (N:=s.choices.length) (I:=fun n l ds m2=>∃ k,n=s.choices.length-k∧k≤s.choices.length∧ds=[]∧m2=m3∧Sl [.agg ⟨stpCells s (.slice ad s.data.length dc) (.slice ac s.choices.length cc)⟩,.agg ⟨stpCells s (.slice ad' s.data.length dc') (.slice ac' s.choices.length cc')⟩,.pointer (some ⟨m.next,0,none⟩),.pointer (some ⟨m.next+1,0,none⟩),.bool false,.int .i64 (k:Nat)] 130 l) ?_ ?_)
 ·exact⟨0,rfl,by omega,rfl,rfl,ts',hts',rfl⟩
 rintro n l ds m4 ⟨k,rfl,hk,rfl,rfl,⟨us,hus,rfl⟩⟩
 refine xseq (xseq (xregQ fun Q' hQ=>?_))
 simp [hus,hv1,zt]
 subst hQ
 refine xif (v:=decide ((k:Int)<(s.choices.length:Int))) (by first|rfl|simp [hus]) (fun h=>xskip ?_) (fun h=>xexit ?_)
 ·simp only [decide_eq_true_eq] at h
  have hk2:k<s.choices.length:=by omega
  have q:(i64s s.choices)[k]? = some (.int .i64 (s.choices[k])):=by rw [i64s_get,List.getElem?_eq_getElem hk2];rfl
  obtain⟨b1,o1,c1,h1,h2,h3,-,h4⟩:=hc1.load q
  obtain⟨b2,o2,c2,g1,g2,g3,-,g4⟩:=hc2.load q
  simp only [Value.slice.injEq] at h1 g1
  obtain⟨rfl,-,rfl⟩:=h1
  obtain⟨rfl,-,rfl⟩:=g1
  have ql:=h4 (t:=3) (s:=none) Ty.ti3 Ty.g3
  have qg:=g4 (t:=3) (s:=none) Ty.ti3 Ty.g3
  refine xseq (xblock (xseq (xdrw 1 fun Q' hQ=>?_)))
  simp [hus,hv1,hv2,zt,ql,qg,hk2,h]
  subst hQ
  refine xif (v:=false) (by first|rfl|simp [hus]) (fun h=>by cases h) (fun h=>xskip ?_)
  refine xregQ fun Q' hQ=>?_
  simp [hus]
  rw [wr64 _ (by omega) (by omega)]
  subst hQ
  exact⟨s.choices.length-(k+1),by omega,k+1,rfl,by omega,rfl,rfl,Sl.mk (by simp) (by simp [hus])⟩
 ·refine xsr fun Q' hQ=>?_
  simp [hus]
  subst hQ
  refine xret ?_
  exact⟨rfl,_,resX_one _,by simp [hus],hO⟩
end Go.Proofs.YtgmkbdmgifdfeaaGreatDoor

set_option maxRecDepth 8000
namespace Go.Proofs.YtgmkbdmgifdfeaaGreatDoor
open Go Go.Ev
theorem intOf_R {w:List UInt8} {v:Int} (h:intOf w=some v):i64R v:=by
 unfold intOf at h
 split at h
 ·split at h
  ·rename_i z hz
   have:=numOf_le hz
   split at h
   ·obtain rfl:=Option.some.inj h;unfold i64R;omega
   ·cases h
  ·cases h
 ·cases hz:numOf w 2147483647 with
  |none=>rw [hz] at h;cases h
  |some z =>
   rw [hz] at h
   have e:(z:Int)=v:=Option.some.inj h
   have:=numOf_le hz
   unfold i64R;omega
theorem longOf_R {w:List UInt8} {v:Int} (h:longOf w=some v):u64R v:=by
 unfold longOf at h
 cases hz:numOf w 18446744073709551615 with
 |none=>rw [hz] at h;cases h
 |some z =>
  rw [hz] at h
  have e:(z:Int)=v:=Option.some.inj h
  have:=numOf_le hz
  unfold u64R;omega
theorem maskOf_R {w:List UInt8} {v:Int} (h:maskOf w=some v):u32R v:=mask_range h
theorem wayOf_R {w:List UInt8} {v:Int} (h:wayOf w=some v):i64R v:=by
 unfold wayOf at h
 split at h
 ·obtain rfl:=Option.some.inj h;unfold i64R;omega
 ·split at h
  ·obtain rfl:=Option.some.inj h;unfold i64R;omega
  ·cases h
theorem allInts_R:∀ (ws:List (List UInt8)) (l:List Int),allInts ws=some l→l.length=ws.length∧∀ c∈l,i64R c
 | [],l,h=>by obtain rfl:=Option.some.inj h;simp
 |w::ws,l,h=>by
  rw [allInts] at h
  cases hw:intOf w with
  |none=>rw [hw] at h;cases h
  |some v =>
   rw [hw] at h
   cases hr:allInts ws with
   |none=>rw [hr] at h;cases h
   |some r =>
    rw [hr] at h
    obtain rfl:=Option.some.inj h
    obtain⟨h1,h2⟩:=allInts_R ws r hr
    refine⟨by simp [h1],fun c hc=>?_⟩
    rcases List.mem_cons.1 hc with rfl|hc
    ·exact intOf_R hw
    ·exact h2 c hc
def RB (B:Nat) (s:Stp) (ws:List (List UInt8)):Prop:=s.R∧s.choices.length+ws.length≤B
theorem one_R {α : Type} {P:Int→Prop} {g:List UInt8→Option Int} (hg:∀ {w v},g w=some v→P v) {w:List UInt8} {f:Int → α} {a : α} (h:(g w).map f=some a):∃ v,a=f v∧P v:=by
 cases hv:g w with
 |none=>rw [hv] at h;cases h
 |some v=>rw [hv] at h;obtain rfl:=Option.some.inj h;exact⟨v,rfl,hg hv⟩
theorem read_R {B:Nat} (f:Fd) {s s':Stp} {ws ws':List (List UInt8)} (h:f.read s ws=some (s',ws')) (hs:RB B s ws):RB B s' ws':=by
 obtain⟨hR,hl⟩:=hs
 by_cases hc:f=.choices
 ·subst hc
  have h':(allInts ws).map (fun l=>(({ s with choices:=s.choices++l }:Stp),([]:List (List UInt8))))=some (s',ws'):=by
   cases ws<;>exact h
  cases ha:allInts ws with
  |none=>rw [ha] at h';cases h'
  |some l =>
   rw [ha] at h'
   obtain⟨h1,h2⟩:=allInts_R ws l ha
   obtain⟨rfl,rfl⟩:=Prod.mk.inj (Option.some.inj h')
   refine⟨{ hR with choices:=fun c hc=>?_ },by simp [h1];omega⟩
   rcases List.mem_append.1 hc with hc|hc
   ·exact hR.choices c hc
   ·exact h2 c hc
 cases ws with
 |nil=>cases f<;>first|(cases h;done)|exact absurd rfl hc
 |cons w ws =>
  simp only [List.length_cons] at hl
  cases f with
  |choices=>exact absurd rfl hc
  |stream=>obtain⟨v,e,hv⟩:=one_R (P:=i64R) (g:=intOf) (w:=w) intOf_R h;obtain⟨rfl,rfl⟩:=Prod.mk.inj e;exact⟨{ hR with stream:=hv },by simp only;omega⟩
  |qc=>obtain⟨v,e,hv⟩:=one_R (P:=i64R) (g:=intOf) (w:=w) intOf_R h;obtain⟨rfl,rfl⟩:=Prod.mk.inj e;exact⟨{ hR with qc:=hv },by simp only;omega⟩
  |qb=>obtain⟨v,e,hv⟩:=one_R (P:=i64R) (g:=intOf) (w:=w) intOf_R h;obtain⟨rfl,rfl⟩:=Prod.mk.inj e;exact⟨{ hR with qb:=hv },by simp only;omega⟩
  |place=>obtain⟨v,e,hv⟩:=one_R (P:=i64R) (g:=intOf) (w:=w) intOf_R h;obtain⟨rfl,rfl⟩:=Prod.mk.inj e;exact⟨{ hR with place:=hv },by simp only;omega⟩
  |pos=>obtain⟨v,e,hv⟩:=one_R (P:=i64R) (g:=intOf) (w:=w) intOf_R h;obtain⟨rfl,rfl⟩:=Prod.mk.inj e;exact⟨{ hR with pos:=hv },by simp only;omega⟩
  |cursor=>obtain⟨v,e,hv⟩:=one_R (P:=i64R) (g:=intOf) (w:=w) intOf_R h;obtain⟨rfl,rfl⟩:=Prod.mk.inj e;exact⟨{ hR with cursor:=hv },by simp only;omega⟩
  |time=>obtain⟨v,e,hv⟩:=one_R (P:=u64R) (g:=longOf) (w:=w) longOf_R h;obtain⟨rfl,rfl⟩:=Prod.mk.inj e;exact⟨{ hR with time:=hv },by simp only;omega⟩
  |life=>obtain⟨v,e,hv⟩:=one_R (P:=u64R) (g:=longOf) (w:=w) longOf_R h;obtain⟨rfl,rfl⟩:=Prod.mk.inj e;exact⟨{ hR with life:=hv },by simp only;omega⟩
  |seq=>obtain⟨v,e,hv⟩:=one_R (P:=u64R) (g:=longOf) (w:=w) longOf_R h;obtain⟨rfl,rfl⟩:=Prod.mk.inj e;exact⟨{ hR with seq:=hv },by simp only;omega⟩
  |to=>obtain⟨v,e,hv⟩:=one_R (P:=u64R) (g:=longOf) (w:=w) longOf_R h;obtain⟨rfl,rfl⟩:=Prod.mk.inj e;exact⟨{ hR with to:=hv },by simp only;omega⟩
  |ticks=>obtain⟨v,e,hv⟩:=one_R (P:=u64R) (g:=longOf) (w:=w) longOf_R h;obtain⟨rfl,rfl⟩:=Prod.mk.inj e;exact⟨{ hR with ticks:=hv },by simp only;omega⟩
  |mask=>obtain⟨v,e,hv⟩:=one_R (P:=u32R) (g:=maskOf) (w:=w) maskOf_R h;obtain⟨rfl,rfl⟩:=Prod.mk.inj e;exact⟨{ hR with mask:=hv },by simp only;omega⟩
  |way=>obtain⟨v,e,hv⟩:=one_R (P:=i64R) (g:=wayOf) (w:=w) wayOf_R h;obtain⟨rfl,rfl⟩:=Prod.mk.inj e;exact⟨{ hR with way:=hv },by simp only;omega⟩
  |data =>
   have h':(textOf w).map (fun v=>(({ s with data:=v }:Stp),ws))=some (s',ws'):=h
   cases hv:textOf w with
   |none=>rw [hv] at h';cases h'
   |some v=>rw [hv] at h';obtain⟨rfl,rfl⟩:=Prod.mk.inj (Option.some.inj h');exact⟨{ hR with },by simp only;omega⟩
theorem reads_R {B:Nat}:∀ (fs:List Fd) {s s':Stp} {ws ws':List (List UInt8)},readFds fs s ws=some (s',ws')→RB B s ws→RB B s' ws'
 | [],s,s',ws,ws',h,hs=>by obtain⟨rfl,rfl⟩:=Prod.mk.inj (Option.some.inj h);exact hs
 |f::fs,s,s',ws,ws',h,hs=>by
  rw [readFds] at h
  cases hf:f.read s ws with
  |none=>rw [hf] at h;cases h
  |some a=>obtain⟨s1,ws1⟩:=a;rw [hf] at h;exact reads_R fs h (read_R f hf hs)
theorem stepOf_R {ws:List (List UInt8)} {s:Stp} (h:stepOf ws=some s):s.R∧s.choices.length≤ws.length:=by
 unfold stepOf at h
 cases hn:nodeOf ws with
 |none=>rw [hn] at h;cases h
 |some a =>
  obtain⟨n,w,vs⟩:=a
  rw [hn] at h
  simp only at h
  have hnr:(n=0∨n=1∨n=2)∧vs.length≤ws.length:=by
   unfold nodeOf at hn
   split at hn
   ·cases hn
   ·split at hn
    ·split at hn
     ·cases hn
     ·obtain⟨rfl,rfl,rfl⟩:=Option.some.inj hn
      refine⟨?_,by simp;omega⟩
      split<;>simp
    ·obtain⟨rfl,rfl,rfl⟩:=Option.some.inj hn
     exact⟨.inl rfl,by simp⟩
  cases hk:kindOf w with
  |none=>rw [hk] at h;cases h
  |some k =>
   rw [hk] at h
   simp only at h
   obtain⟨k1,k2,-⟩:=kind_some hk
   split at h
   ·split at h
    ·rename_i s1 hr
     obtain rfl:=Option.some.inj h
     have h0:RB vs.length ({ stp0 with kind:=k,node:=n }:Stp) vs:=by
      refine⟨⟨?_,?_,?_,?_,?_,?_,?_,?_,?_,?_,?_,?_,?_,?_,?_,?_⟩,by simp [stp0]⟩<;>simp only [stp0,i64R,u64R,u32R,List.not_mem_nil,false_imp_iff,implies_true]<;>omega
     have:=reads_R _ hr h0
     exact⟨this.1,by have:=this.2;simp at this;omega⟩
    ·cases h
   ·cases h
end Go.Proofs.YtgmkbdmgifdfeaaGreatDoor

set_option maxRecDepth 8000
namespace Go.Proofs.YtgmkbdmgifdfeaaGreatDoor
open Go Go.Ev
theorem line_R {l:List UInt8} {s:Stp} (h:lineOf l=some (.step s)):s.R∧s.choices.length≤l.length+1:=by
 unfold lineOf at h
 cases hs:splitOf l with
 |none=>rw [hs] at h;cases h
 |some ws =>
  have hl:=(split_len l [] none false false ws l.length hs (by simp) (by simp) (by simp)).1
  rw [hs] at h
  cases ws with
  |nil=>cases h
  |cons w ws =>
   simp only at h
   split at h
   ·cases hh:headOf ws with
    |none=>rw [hh] at h;cases h
    |some x=>rw [hh] at h;cases h
   ·cases hh:stepOf (w::ws) with
    |none=>rw [hh] at h;cases h
    |some t =>
     rw [hh] at h
     cases h
     obtain⟨h1,h2⟩:=stepOf_R hh
     exact⟨h1,by simp at hl h2;omega⟩
theorem go_R {B:Nat}:∀ (ls:List (List UInt8)) (s:Scr) (n:Int),(∀ l∈ls,l.length≤B)→(∀ t∈s.steps,t.R∧t.choices.length≤B+1)→(∀ t∈(parseGo s n ls).2.1,t.R∧t.choices.length≤B+1)∧(parseGo s n ls).2.1.length≤s.steps.length+ls.length
 | [],s,n,_,hs=>by
   unfold parseGo
   split
   ·exact⟨hs,by simp⟩
   ·exact⟨by simp,by simp⟩
 |l::ls,s,n,hl,hs=>by
  rw [parseGo]
  cases ht:takeLn s l with
  |none=>exact⟨by simp,by simp⟩
  |some s' =>
   simp only
   have h':(∀ t∈s'.steps,t.R∧t.choices.length≤B+1)∧s'.steps.length≤s.steps.length+1:=by
    unfold takeLn at ht
    cases hln:lineOf l with
    |none=>rw [hln] at ht;cases ht
    |some x =>
     rw [hln] at ht
     cases x with
     |nothing=>cases ht;exact⟨hs,by omega⟩
     |head x =>
      simp only at ht
      split at ht
      ·cases ht
      ·cases ht;exact⟨hs,by simp⟩
     |step t =>
      simp only at ht
      split at ht
      ·cases ht
       refine⟨fun t' ht'=>?_,by simp⟩
       rcases List.mem_append.1 ht' with h|h
       ·exact hs t' h
       ·obtain rfl:=List.mem_singleton.1 h
        obtain⟨g1,g2⟩:=line_R hln
        have:=hl l (.head _)
        exact⟨g1,by omega⟩
      ·cases ht
   obtain⟨g1,g2⟩:=go_R ls s' (n+1) (fun l hl'=>hl l (.tail _ hl')) h'.1
   exact⟨g1,by have:=h'.2;simp;omega⟩
theorem parse_R (tx:List UInt8):(∀ t∈(parseOut tx).2.1,t.R∧t.choices.length≤1048577)∧(parseOut tx).2.1.length≤1048577:=by
 unfold parseOut
 split
 ·exact⟨by simp,by simp⟩
 ·obtain⟨c1,c2⟩:=cut_len tx
  obtain⟨g1,g2⟩:=go_R (B:=1048576) (cutLines tx) ⟨stu0,[],false⟩ 0 (fun l hl=>by have:=c2 l hl;omega) (by simp)
  exact⟨g1,by simp at g2;omega⟩
theorem own_old {n0 n:Nat} {m:Mem} {v:Value} {e:TypeId} {cells:List Value} (h:Own n0 m v e n cells):SlOld m.next m v n cells:=by
 rcases h with h|⟨b,rfl,h1,h2,h3⟩
 ·exact .inl h
 ·refine .inr ⟨b,0,n,rfl,Nat.le_refl _,.inr ⟨?_,h2⟩⟩
  have:=rd_vw h3 (o:=0) (k:=cells.length) (by simp)
  rw [this];simp [takeN]
theorem steps_old {n0:Nat} {m:Mem} {v:Value} {ss:List Stp} (h:StepsAt n0 m v ss) (hR:∀ s∈ss,s.R):StepsOld m.next m v ss:=by
 obtain⟨cells,h1,h2,h3⟩:=h
 refine⟨cells,own_old h1,h2,fun k s hs=>?_⟩
 obtain⟨d,c,g1,g2,g3⟩:=h3 k s hs
 exact⟨hR s (List.mem_of_getElem? hs),d,c,g1,own_old g2,own_old g3⟩
theorem sameSteps2 {m:Mem} {v w:Value} {ss:List Stp} (hv:StepsOld m.next m v ss) (hw:StepsOld m.next m w ss) (hlen:ss.length≤1048577) (hch:∀ s∈ss,s.choices.length≤1048577) :
  CallsA tb 16 [v,w] m (retR fun r m'=>r=.bool true∧Old m.next m m'):=by
 obtain⟨av,cv,rfl⟩:=hv.shape
 obtain⟨aw,cw,rfl⟩:=hw.shape
 refine callsS Tryz.func16 e16 rfl rfl ?_
 simp only [s16,List.replicate,List.length_cons,List.length_nil,List.cons_append,List.nil_append,Nat.reduceAdd,Nat.reduceSub]
 refine xsr fun Q' hQ=>?_
 simp
 subst hQ
 refine xseq (xseq (xregQ fun Q' hQ=>?_))
 simp
 subst hQ
 refine xno rfl (xskip ?_)
 refine xseq (xseq (xregQ fun Q' hQ=>?_))
 simp
 subst hQ
 refine xblock (xwhile (N:=ss.length) (I:=fun n l ds m2=>∃ k,n=ss.length-k∧k≤ss.length∧ds=[]∧Old m.next m m2∧Sl [.slice av ss.length cv,.slice aw ss.length cw,undef,undef,.bool false,.int .i64 (k:Nat)] 21 l) ?_ ?_)
 ·exact⟨0,rfl,by omega,rfl,.refl _ _,Sl.mk rfl rfl⟩
 rintro n l ds m2 ⟨k,rfl,hk,rfl,hO,⟨us,hus,rfl⟩⟩
 refine xseq (xseq (xregQ fun Q' hQ=>?_))
 simp [hus]
 subst hQ
 refine xif (v:=decide ((k:Int)<(ss.length:Int))) (by simp [hus]) (fun h=>xskip ?_) (fun h=>xexit ?_)
 ·simp only [decide_eq_true_eq] at h
  have hk2:k<ss.length:=by omega
  have hks:ss[k]? = some ss[k]:=List.getElem?_eq_getElem hk2
  generalize ss[k]=s at hks
  obtain⟨b1,o1,c1,h1,hR,ad,dc,ac,cc,h2,h3,h4,-,-,-⟩:=(hv.old hO).load hO.1 hks
  obtain⟨b2,o2,c2,g1,-,ad',dc',ac',cc',g2,g3,g4,-,-,-⟩:=(hw.old hO).load hO.1 hks
  simp only [Value.slice.injEq] at h1 g1
  obtain⟨rfl,-,rfl⟩:=h1
  obtain⟨rfl,-,rfl⟩:=g1
  have hcl:s.choices.length≤1000000000:=by have:=hch s (List.mem_of_getElem? hks);omega
  refine xseq (xblock (xseq (xdrw 2 fun Q' hQ=>?_)))
  simp [hus,h2,g2,hk2,h]
  refine xcall (ov_none (by decide)) (sameStep_ok (h3.at hO.1) (g3.at hO.1) (h4.at hO.1) (g4.at hO.1) hcl) ?_ (fun ch m' h=>h.elim)
  rintro r m3 ⟨rfl,hO3⟩
  simp [hus]
  subst hQ
  refine xif (v:=false) (by simp [hus]) (fun h=>by cases h) (fun h=>xskip ?_)
  refine xregQ fun Q' hQ=>?_
  simp [hus]
  rw [wr64 _ (by omega) (by omega)]
  subst hQ
  exact⟨ss.length-(k+1),by omega,k+1,rfl,by omega,rfl,hO.trans (hO3.le hO.1),Sl.mk rfl (by simp [hus])⟩
 ·refine xsr fun Q' hQ=>?_
  simp [hus]
  subst hQ
  refine xret ?_
  exact⟨rfl,_,resX_one _,by simp [hus],hO⟩
end Go.Proofs.YtgmkbdmgifdfeaaGreatDoor

set_option maxRecDepth 8000
namespace Go.Proofs.YtgmkbdmgifdfeaaGreatDoor
open Go Go.Ev
theorem guard26:(tv 26).guard=false:=by kernel_rfl
theorem held26:(tv 26).held=false:=by kernel_rfl
theorem held24:(tv 24).held=false:=by kernel_rfl
theorem b_eql26 (m:Mem) (x y:Operand) (s:Stu):binA tb m .eql 26 x y (.agg ⟨[.int .i64 s.mtu,.int .u64 s.ack,.int .u64 s.retry,.int .i64 s.retries,.int .i64 s.window,.int .i64 s.inbox,.int .i64 s.sectors,.int .i64 s.room,.int .u64 s.start]⟩) (.agg ⟨[.int .i64 s.mtu,.int .u64 s.ack,.int .u64 s.retry,.int .i64 s.retries,.int .i64 s.window,.int .i64 s.inbox,.int .i64 s.sectors,.int .i64 s.room,.int .u64 s.start]⟩)=some (.bool true):=by
 obtain⟨a,b,c,d,e,f,g,h,i⟩:=s
 simp only
 have h3:∀ (n:Nat) (z:Int),eqA tb m (n+1) 3 (.int .i64 z) (.int .i64 z)=some true:=by
  intro n z
  unfold eqA
  simp only [Ty.ti3,oB,Ty.d3,eqInt,kEq_self,intEq_eq,beq_self_eq_true]
 have h22:∀ (n:Nat) (z:Int),eqA tb m (n+1) 22 (.int .u64 z) (.int .u64 z)=some true:=by
  intro n z
  unfold eqA
  simp only [Ty.ti22,oB,Ty.d22,eqInt,kEq_self,intEq_eq,beq_self_eq_true]
 have p3:∀ (cs:List Value) (o:Nat) (z:Int),cs[o]? = some (.int .i64 z)→partA tb 3 cs o=some (.int .i64 z):=by
  intro cs o z ho
  unfold partA;simp only [Ty.ti3,Ty.g3,oB,ho]
 have p22:∀ (cs:List Value) (o:Nat) (z:Int),cs[o]? = some (.int .u64 z)→partA tb 22 cs o=some (.int .u64 z):=by
  intro cs o z ho
  unfold partA;simp only [Ty.ti22,Ty.g22,oB,ho]
 have e24:eqA tb m 63 24 (.agg ⟨[.int .i64 a,.int .u64 b,.int .u64 c,.int .i64 d,.int .i64 e,.int .i64 f]⟩) (.agg ⟨[.int .i64 a,.int .u64 b,.int .u64 c,.int .i64 d,.int .i64 e,.int .i64 f]⟩)=some true:=by
  rw [eqA]
  simp only [Ty.ti24,oB,Ty.d24,eqSt,held24,Ty.f24]
  simp only [eqFields,p3 [.int .i64 a,.int .u64 b,.int .u64 c,.int .i64 d,.int .i64 e,.int .i64 f] 0 a rfl,p22 [.int .i64 a,.int .u64 b,.int .u64 c,.int .i64 d,.int .i64 e,.int .i64 f] 1 b rfl,p22 [.int .i64 a,.int .u64 b,.int .u64 c,.int .i64 d,.int .i64 e,.int .i64 f] 2 c rfl,p3 [.int .i64 a,.int .u64 b,.int .u64 c,.int .i64 d,.int .i64 e,.int .i64 f] 3 d rfl,p3 [.int .i64 a,.int .u64 b,.int .u64 c,.int .i64 d,.int .i64 e,.int .i64 f] 4 e rfl,p3 [.int .i64 a,.int .u64 b,.int .u64 c,.int .i64 d,.int .i64 e,.int .i64 f] 5 f rfl,oB,h3,h22]
 have p24:partA tb 24 [.int .i64 a,.int .u64 b,.int .u64 c,.int .i64 d,.int .i64 e,.int .i64 f,.int .i64 g,.int .i64 h,.int .u64 i] 0=some (.agg ⟨[.int .i64 a,.int .u64 b,.int .u64 c,.int .i64 d,.int .i64 e,.int .i64 f]⟩):=by
  unfold partA;simp only [Ty.ti24,Ty.g24,oB,Ty.s24];rfl
 have e26:eqA tb m 64 26 (.agg ⟨[.int .i64 a,.int .u64 b,.int .u64 c,.int .i64 d,.int .i64 e,.int .i64 f,.int .i64 g,.int .i64 h,.int .u64 i]⟩) (.agg ⟨[.int .i64 a,.int .u64 b,.int .u64 c,.int .i64 d,.int .i64 e,.int .i64 f,.int .i64 g,.int .i64 h,.int .u64 i]⟩)=some true:=by
  rw [eqA]
  simp only [Ty.ti26,oB,Ty.d26,eqSt,held26,Ty.f26]
  simp only [eqFields,p24,e24,p3 [.int .i64 a,.int .u64 b,.int .u64 c,.int .i64 d,.int .i64 e,.int .i64 f,.int .i64 g,.int .i64 h,.int .u64 i] 6 g rfl,p3 [.int .i64 a,.int .u64 b,.int .u64 c,.int .i64 d,.int .i64 e,.int .i64 f,.int .i64 g,.int .i64 h,.int .u64 i] 7 h rfl,p22 [.int .i64 a,.int .u64 b,.int .u64 c,.int .i64 d,.int .i64 e,.int .i64 f,.int .i64 g,.int .i64 h,.int .u64 i] 8 i rfl,oB,h3,h22]
 unfold binA
 simp only [eqOp,guardOk,Ty.ti26,guard26,Bool.not_false,e26,oB]
theorem parses_ok {m:Mem} {tx:List UInt8} (hE:ErrAt m) (hm8:8≤m.next) (hlen:tx.length≤9223372036854775807):CallsA tb 4 [.string ⟨⟨tx⟩⟩] m (retR fun r m'=>r=.bool true):=by
 refine callsS Tryz.func4 e4 rfl rfl ?_
 simp only [s4,List.replicate,List.length_cons,List.length_nil,List.cons_append,List.nil_append,Nat.reduceAdd,Nat.reduceSub]
 obtain⟨hR,hln⟩:=parse_R tx
 obtain⟨x,ss,n,e,hpo⟩:∃ x ss n e,parseOut tx=(x,ss,n,e):=⟨_,_,_,_,rfl⟩
 rw [hpo] at hR hln
 simp only at hR hln
 refine xsr fun Q' hQ=>?_
 simp
 subst hQ
 refine xsr fun Q' hQ=>?_
 simp
 refine xcall (ov_none (by decide)) (parse_ok hE hlen) ?_ (fun ch m' h=>h.elim)
 rintro r m1 ⟨v1,rfl,hs1,hO1⟩
 rw [hpo] at hs1 ⊢
 simp only at hs1 ⊢
 simp only [stuCells']
 simp [stOk,oneC]
 subst hQ
 obtain⟨m2,hm2,hn2,hv2,hg2⟩:=alloc_st' m1 26 9 [Value.int IntKind.i64 0,Value.int IntKind.u64 0,Value.int IntKind.u64 0,Value.int IntKind.i64 0,Value.int IntKind.i64 0,Value.int IntKind.i64 0,Value.int IntKind.i64 0,Value.int IntKind.i64 0,Value.int IntKind.u64 0] [Value.int IntKind.i64 x.mtu,Value.int IntKind.u64 x.ack,Value.int IntKind.u64 x.retry,Value.int IntKind.i64 x.retries,Value.int IntKind.i64 x.window,Value.int IntKind.i64 x.inbox,Value.int IntKind.i64 x.sectors,Value.int IntKind.i64 x.room,Value.int IntKind.u64 x.start] rfl rfl rfl
 obtain⟨q1,hq1⟩:∃ q1,q1=m1.next:=⟨_,rfl⟩
 rw [← hm2,← hq1]
 rw [← hq1] at hn2 hv2 hg2
 clear hm2
 have hs2:StepsAt m.next m2 v1 ss:=hs1.ex (by omega) fun y V hy _ _ _=>hg2 y (by omega)
 refine xsr fun Q' hQ=>?_
 simp
 refine xcall (ov_none (by decide)) (rparse_ok (m:=m2) (by have:=hO1.1;omega) hlen) ?_ (fun ch m' h=>h.elim)
 rintro r m3 ⟨v2,rfl,hs3,hO3⟩
 rw [hpo] at hs3 ⊢
 simp only at hs3 ⊢
 simp only [stuCells']
 simp [stOk,oneC]
 subst hQ
 obtain⟨m4,hm4,hn4,hv4,hg4⟩:=alloc_st' m3 26 9 [Value.int IntKind.i64 0,Value.int IntKind.u64 0,Value.int IntKind.u64 0,Value.int IntKind.i64 0,Value.int IntKind.i64 0,Value.int IntKind.i64 0,Value.int IntKind.i64 0,Value.int IntKind.i64 0,Value.int IntKind.u64 0] [Value.int IntKind.i64 x.mtu,Value.int IntKind.u64 x.ack,Value.int IntKind.u64 x.retry,Value.int IntKind.i64 x.retries,Value.int IntKind.i64 x.window,Value.int IntKind.i64 x.inbox,Value.int IntKind.i64 x.sectors,Value.int IntKind.i64 x.room,Value.int IntKind.u64 x.start] rfl rfl rfl
 obtain⟨q2,hq2⟩:∃ q2,q2=m3.next:=⟨_,rfl⟩
 rw [← hm4,← hq2]
 rw [← hq2] at hn4 hv4 hg4
 clear hm4
 have hq12:q1<q2:=by have:=hO3.1;omega
 have hv41:vw m4 q1=some ⟨true,26,false,[Value.int IntKind.i64 x.mtu,Value.int IntKind.u64 x.ack,Value.int IntKind.u64 x.retry,Value.int IntKind.i64 x.retries,Value.int IntKind.i64 x.window,Value.int IntKind.i64 x.inbox,Value.int IntKind.i64 x.sectors,Value.int IntKind.i64 x.room,Value.int IntKind.u64 x.start]⟩:=by
  have:vw m3 q1=some ⟨true,26,false,[Value.int IntKind.i64 x.mtu,Value.int IntKind.u64 x.ack,Value.int IntKind.u64 x.retry,Value.int IntKind.i64 x.retries,Value.int IntKind.i64 x.window,Value.int IntKind.i64 x.inbox,Value.int IntKind.i64 x.sectors,Value.int IntKind.i64 x.room,Value.int IntKind.u64 x.start]⟩:=by rw [hO3.vw (by omega)];exact hv2
  unfold vw at this ⊢;rw [hg4 _ (by omega)];exact this
 have hs41:StepsAt m.next m4 v1 ss:=(hs2.ex hO3.1 fun y V hy _ _ _=>hO3.2 y hy).ex (by omega) fun y V hy _ _ _=>hg4 y (by omega)
 have hs42:StepsAt m2.next m4 v2 ss:=hs3.ex (by omega) fun y V hy _ _ _=>hg4 y (by omega)
 have hRR:∀ s∈ss,s.R:=fun s hs=>(hR s hs).1
 refine xsr fun Q' hQ=>?_
 simp
 refine xcall (ov_none (by decide)) (num_ok m4 e) ?_ (fun ch m' h=>h.elim)
 rintro r m5 ⟨rfl,rfl⟩
 simp [hv41,hv4,b_eql26]
 refine xcall (ov_none (by decide)) (sameSteps2 (steps_old hs41 hRR) (steps_old hs42 hRR) hln (fun s hs=>(hR s hs).2)) ?_ (fun ch m' h=>h.elim)
 rintro r m6 ⟨rfl,hO6⟩
 subst hQ
 exact xret ⟨rfl,_,resX_one _,rfl⟩
end Go.Proofs.YtgmkbdmgifdfeaaGreatDoor

set_option maxRecDepth 1000000
namespace Go.Proofs.YtgmkbdmgifdfeaaGreatDoor
open Go Go.Ev
noncomputable def tb0:Tabs:=mkTabs Tryz.prog 8 .lf
theorem good:Tryz.prog.funcs.toList.all (goodFn 8)=true:=by kernel_rfl
noncomputable def formsRun:Option (Value × Mem):=runF tb0 600 30 [] ⟨.lf,8⟩
noncomputable def rrowsRun:Option (Value × Mem):=runF tb0 60 67 [] ⟨.lf,8⟩
theorem forms_ran:ranTo 8 formsRun formsV formsRows:=ranTo_of (by kernel_rfl) (by kernel_rfl) (by kernel_rfl) (by kernel_rfl)
theorem rrows_ran:ranTo 8 rrowsRun rrowsV rrowsRows:=ranTo_of (by kernel_rfl) (by kernel_rfl) (by kernel_rfl) (by kernel_rfl)
end Go.Proofs.YtgmkbdmgifdfeaaGreatDoor

