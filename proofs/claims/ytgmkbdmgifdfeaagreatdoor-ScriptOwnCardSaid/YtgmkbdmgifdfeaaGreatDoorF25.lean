/- A part of a proof: ScriptOwn. -/
import Derived.Test.YtgmkbdmgifdfeaaGreatDoorF24
set_option linter.unusedVariables false
set_option linter.unusedSimpArgs false
set_option maxRecDepth 8000
namespace Go.Proofs.YtgmkbdmgifdfeaaGreatDoor
open Go Go.Ev
theorem apart22 {m0:Mem} {arg:Value} {l:List Enf} (h:LsAt m0 29 5 1 arg l):CallsA tbz 22 [arg] m0 (retR fun r m'=>r=.bool true∧∀ x,x<m0.next→x∉l.flatMap Enf.blk→m'.objs.get x=m0.objs.get x):=by
 obtain⟨hlen,hok,hlb⟩:=h
 have hlol0:Lol m0 29 arg l:=by
  rcases hlb with h|⟨lb,x,h1,h2,h3,h4⟩
  ·exact .inl h
  ·exact .inr ⟨lb,x,h1,h2,h3,(List.nodup_cons.1 h4).1⟩
 have hd:(l.flatMap Enf.blk).Nodup:=by
  rcases hlb with ⟨_,rfl⟩|⟨lb,x,h1,h2,h3,h4⟩
  ·simp
  ·exact (List.nodup_cons.1 h4).2
 have hnb:∀ a∈l,a.n≤1000000000:=fun a ha=>by
  have:=hok a ha
  cases a with
  |nil=>simp [Enf.n]
  |own b=>simp [Enf.n]
  |fix q o n c=>exact this.2.2.1
 obtain⟨ad,rfl⟩:=hlol0.shape
 refine callsS0 Tryz.func22 e22 rfl rfl ?_
 simp only [s22,List.length_cons,List.length_nil,List.cons_append,List.nil_append,Nat.reduceAdd]
 refine xsr fun Q' hQ=>?_
 simp
 subst hQ
 refine xsr fun Q' hQ=>?_
 simp
 subst hQ
 refine xseqM (fun ls ds m=>ds=[]∧Mk m0 29 5 (fun k=>[bmk k]) (.slice ad l.length l.length) l l.length 0 m∧Sl [.slice ad l.length l.length,undef,.bool false,.slice none 0 0] 99 ls) ?_ ?_
 rotate_left
 ·refine xsr fun Q' hQ=>?_
  simp
  subst hQ
  refine xblock (xwhile (N:=l.length) (I:=fun n ls ds m=>∃ i:Nat,n=l.length-i∧i≤l.length∧ds=[]∧Mk m0 29 5 (fun k=>[bmk k]) (.slice ad l.length l.length) l i 0 m∧Sl [.slice ad l.length l.length,undef,.bool false,.slice none 0 0,.int .i64 (i:Nat)] 98 ls) ?_ ?_)
  ·refine⟨0,rfl,by omega,rfl,⟨rfl,fun _ _=>rfl,hlol0,fun k a hk=>?_⟩,Sl.mk rfl rfl⟩
   rw [if_neg (by omega)]
   have:(if k=0 then 0 else 0)=0:=by split<;>rfl
   rw [this]
   exact Lst.of rfl (hok a (List.mem_of_getElem? hk))
  rintro n ls ds m ⟨i,rfl,hi,rfl,hM,us,hus,rfl⟩
  obtain⟨y5,vs,rfl,hvs⟩:=ln_suc (n:=97) hus
  refine xseq (xseq (xregQ fun Q' hQ=>?_))
  simp [hvs]
  subst hQ
  refine xif (v:=decide ((i:Int)<(l.length:Int))) (by simp [hvs]) (fun hlt=>xskip ?_) (fun hlt=>xexit ?_)
  ·simp only [decide_eq_true_eq] at hlt
   have hil:i<l.length:=by omega
   have ha:l[i]? = some l[i]:=List.getElem?_eq_getElem hil
   generalize l[i]=a at ha
   have han:=hnb a (List.mem_of_getElem? ha)
   refine xseqM (fun ls ds m2=>ds=[]∧Mk m0 29 5 (fun k=>[bmk k]) (.slice ad l.length l.length) l i a.n m2∧∃ y,Sl [.slice ad l.length l.length,undef,.bool false,.slice none 0 0,.int .i64 (i:Nat),y] 97 ls) ?_ ?_
   rotate_left
   ·refine xblock (xseq (xregQ fun Q' hQ=>?_))
    simp [hvs]
    subst hQ
    refine xblock (xwhile (N:=a.n) (I:=fun n ls ds m2=>∃ j:Nat,n=a.n-j∧j≤a.n∧ds=[]∧Mk m0 29 5 (fun k=>[bmk k]) (.slice ad l.length l.length) l i j m2∧Sl [.slice ad l.length l.length,undef,.bool false,.slice none 0 0,.int .i64 (i:Nat),.int .i64 (j:Nat)] 97 ls) ?_ ?_)
    ·exact⟨0,rfl,by omega,rfl,hM,Sl.mk rfl (by simp [hvs])⟩
    rintro n ls ds m2 ⟨j,rfl,hj,rfl,hM2,ws,hws,rfl⟩
    obtain⟨lb,hlb2,hld⟩:=hM2.lol.at ha
    cases hlb2
    obtain⟨av,cv,hav⟩:=enf_shape a
    have hld2:=hld Ty0.ti29 Ty.g29
    rw [hav] at hld2
    refine xseq (xseq (xregQ fun Q' hQ=>?_))
    simp [hws,hlt,hil,hld2]
    subst hQ
    refine xif (v:=decide ((j:Int)<(a.n:Int))) (by simp [hws]) (fun hjlt=>xskip ?_) (fun hjlt=>xexit ?_)
    ·simp only [decide_eq_true_eq] at hjlt
     have hjn:j<a.n:=by omega
     obtain⟨q,o,c,hv,hst⟩:=hM2.store (V:=bmk i) (sz:=1) rfl hd ha hjn rfl rfl
     rw [hav] at hv
     cases hv
     obtain⟨m3,e3,hM3⟩:=hst Ty0.ti5 Ty.s5
     refine xseq (xblock (xdrw 4 fun Q' hQ=>?_))
     simp [-o_storeW,hws,hlt,hil,hld2,hjlt,hjn]
     refine xcall (ov0 _) (byteMark_ok (k:=i) (by omega)) ?_ (fun ch m' h=>h.elim)
     rintro r m4 ⟨rfl,rfl⟩
     have e3':=e3
     simp only [bmk,Nat.mul_one] at e3'
     simp [-o_storeW,hws,hld2,e3',-Int.natCast_emod,-Int.natCast_add]
     subst hQ
     refine xregQ fun Q' hQ=>?_
     simp [hws]
     rw [wr64 _ (by omega) (by omega)]
     subst hQ
     exact⟨a.n-(j+1),by omega,j+1,rfl,by omega,rfl,hM3,Sl.mk rfl (by simp [hws])⟩
    ·simp only [decide_eq_false_iff_not] at hjlt
     obtain rfl:j=a.n:=by omega
     exact⟨rfl,hM2,_,Sl.mk rfl (by simp [hws])⟩
   rintro ls ds m2 ⟨rfl,hM2,y,ws,hws,rfl⟩
   refine xregQ fun Q' hQ=>?_
   simp [hws]
   rw [wr64 _ (by omega) (by omega)]
   subst hQ
   refine⟨l.length-(i+1),by omega,i+1,rfl,by omega,rfl,⟨hM2.next,hM2.old,hM2.lol,fun k b hk=>?_⟩,Sl.mk rfl (by simp [hws])⟩
   have hb:=hM2.lst k b hk
   by_cases e:k=i
   ·subst e
    rw [ha] at hk;cases hk
    rw [if_neg (by omega),if_pos rfl] at hb
    rw [if_pos (by omega)];exact hb
   ·rw [if_neg e] at hb
    have:(if k<i+1 then b.n else if k=i+1 then 0 else 0)=(if k<i then b.n else 0):=by
     by_cases h2:k<i
     ·rw [if_pos h2,if_pos (by omega)]
     ·rw [if_neg h2,if_neg (by omega)];split<;>rfl
    rw [this];exact hb
  ·simp only [decide_eq_false_iff_not] at hlt
   obtain rfl:i=l.length:=by omega
   exact⟨rfl,hM,Sl.mk rfl (by simp [hvs])⟩
 rintro ls ds m1 ⟨rfl,hM,us,hus,rfl⟩
 have hblk:∀ {k:Nat} {a:Enf},l[k]? = some a→∀ x∈a.blk,x<m0.next:=fun {k a} hk x hx=>by
  have:=hok a (List.mem_of_getElem? hk)
  cases a with
  |nil=>simp [Enf.blk] at hx
  |own b=>simp only [Enf.blk,List.mem_singleton] at hx;rw [hx];exact this.1
  |fix q o n c=>simp only [Enf.blk,List.mem_singleton] at hx;rw [hx];exact this.2.2.2.1
 refine xseqM (fun ls ds m=>ds=[]∧(∃ gs gv,Grown m0 29 5 (fun k=>[bmk k]) (.slice ad l.length l.length) l l.length gs gv m∧Sl [.slice ad l.length l.length,undef,.bool false,gv] 99 ls)) ?_ ?_
 rotate_left
 ·obtain⟨y4,y5,y6,vs,rfl,hvs⟩:∃ a b c r,us=a::b::c::r∧r.length=96:=by
   match us,hus with
   |a::b::c::r,h=>exact⟨a,b,c,r,rfl,by simpa using h⟩
  refine xsr fun Q' hQ=>?_
  simp [hvs]
  subst hQ
  refine xblock (xwhile (N:=l.length) (I:=fun n ls ds m=>∃ i:Nat,n=l.length-i∧i≤l.length∧ds=[]∧(∃ gs gv y z,Grown m0 29 5 (fun k=>[bmk k]) (.slice ad l.length l.length) l i gs gv m∧Sl [.slice ad l.length l.length,undef,.bool false,gv,y,z,.int .i64 (i:Nat)] 96 ls)) ?_ ?_)
  ·exact⟨0,rfl,by omega,rfl,[],_,_,_,Grown.start hlol0 hM,Sl.mk rfl (by simp [hvs])⟩
  rintro n ls ds m ⟨i,rfl,hi,rfl,gs,gv,y4',y5',hG,ws0,hws0,rfl⟩
  obtain⟨y7,y8,ws,rfl,hws⟩:∃ a b r,ws0=a::b::r∧r.length=94:=by
   match ws0,hws0 with
   |a::b::r,h=>exact⟨a,b,r,rfl,by simpa using h⟩
  refine xseq (xseq (xregQ fun Q' hQ=>?_))
  simp [hws]
  subst hQ
  refine xif (v:=decide ((i:Int)<(l.length:Int))) (by simp [hws]) (fun hlt=>xskip ?_) (fun hlt=>xexit ?_)
  ·simp only [decide_eq_true_eq] at hlt
   have hil:i<l.length:=by omega
   have ha:l[i]? = some l[i]:=List.getElem?_eq_getElem hil
   generalize l[i]=a at ha
   have han:=hnb a (List.mem_of_getElem? ha)
   refine xseqM (fun ls ds m2=>ds=[]∧(∃ gs gv y z,Grown m0 29 5 (fun k=>[bmk k]) (.slice ad l.length l.length) l (i+1) gs gv m2∧Sl [.slice ad l.length l.length,undef,.bool false,gv,y,z,.int .i64 (i:Nat)] 96 ls)) ?_ ?_
   rotate_left
   ·obtain⟨lb,hlb2,hld⟩:=hG.lol.at ha
    cases hlb2
    have hld2:=hld Ty0.ti29 Ty.g29
    refine xblock (xseq (xregQ fun Q' hQ=>?_))
    simp [hws,hlt,hil,hld2]
    subst hQ
    obtain⟨av,cv,hav⟩:=enf_shape a
    refine xseqM (fun ls ds m2=>ds=[]∧m.next≤m2.next∧(∀ x,x<m.next→x∉a.blk→m2.objs.get x=m.objs.get x)∧∃ g y,Cur m.next m2 5 [bmk i] a 64 g∧Sl [.slice (some ⟨lb,0,none⟩) l.length l.length,undef,.bool false,gv,y4',y5',.int .i64 (i:Nat),g,y] 94 ls) ?_ ?_
    rotate_left
    ·refine xsr fun Q' hQ=>?_
     simp [hws]
     subst hQ
     refine xblock (xwhile (N:=64) (I:=fun n ls ds m2=>∃ t:Nat,n=64-t∧t≤64∧ds=[]∧m.next≤m2.next∧(∀ x,x<m.next→x∉a.blk→m2.objs.get x=m.objs.get x)∧∃ g,Cur m.next m2 5 [bmk i] a t g∧Sl [.slice (some ⟨lb,0,none⟩) l.length l.length,undef,.bool false,gv,y4',y5',.int .i64 (i:Nat),g,.int .i64 (t:Nat)] 94 ls) ?_ ?_)
     ·exact⟨0,rfl,by omega,rfl,Nat.le_refl _,fun _ _ _=>rfl,_,Cur.start (hG.lst i a ha (Nat.le_refl _)),Sl.mk rfl (by simp [hws])⟩
     rintro n ls ds m2 ⟨t,rfl,ht,rfl,hn2,hfr2,g,hC,ws1,hws1,rfl⟩
     obtain⟨ag,cg,hgs⟩:=hC.shape
     refine xseq (xseq (xregQ fun Q' hQ=>?_))
     simp [hws1]
     subst hQ
     refine xif (v:=decide ((t:Int)<64)) (by simp [hws1]) (fun htl=>xskip ?_) (fun htl=>xexit ?_)
     ·simp only [decide_eq_true_eq] at htl
      refine xseq (xblock (xregQ fun Q' hQ=>?_))
      simp [hws1]
      refine xcall (ov0 _) (byteMark_ok (k:=i) (by omega)) ?_ (fun ch m' h=>h.elim)
      rintro r m3 ⟨rfl,rfl⟩
      obtain⟨m4,hm4⟩:∃ m4,m4=newObjA m3 (.row ⟨T.setL [Value.int .u8 ((i%251+1:Nat):Int)] 0 T.lf,1,[Value.int .u8 0],5,.none,false⟩):=⟨_,rfl⟩
      have hn4:m4.next=m3.next+1:=by rw [hm4];rfl
      have hg4:∀ x,x<m3.next→m4.objs.get x=m3.objs.get x:=fun x hx=>by rw [hm4,get_newObjA,if_neg (by omega)]
      have hC4:Cur m.next m4 5 [bmk i] a t g:=hC.ex (by omega) (fun x hx=>hg4 x (by have:=hblk ha x hx;have:=hG.next;omega)) fun x _ _ hx _=>hg4 x hx
      obtain⟨g',m5,k1,k2,k3,k4⟩:=hC4.app (sz:=1) rfl (by decide) (by omega) rfl (fun x hx=>by have:=hblk ha x hx;have:=hG.next;omega)
      simp only [bmk] at k1
      rw [hgs] at k1
      subst hgs
      rw [hm4] at k1
      simp [-at_W,hws1,-Int.natCast_emod,-Int.natCast_add,fits_true _ (a.n+t) cg 1 1 (by omega),k1]
      subst hQ
      refine xregQ fun Q' hQ=>?_
      simp [hws1]
      rw [wr64 _ (by omega) (by omega)]
      subst hQ
      refine⟨64-(t+1),by omega,t+1,rfl,by omega,rfl,by omega,fun x hx hxa=>?_,g',k2,Sl.mk rfl (by simp [hws1])⟩
      rw [k4 x hx hxa,hg4 x (by omega)]
      exact hfr2 x hx hxa
     ·simp only [decide_eq_false_iff_not] at htl
      obtain rfl:t=64:=by omega
      exact⟨rfl,hn2,hfr2,g,_,hC,Sl.mk rfl (by simp [hws1])⟩
    rintro ls ds m2 ⟨rfl,hn2,hfr2,g,y,hC,ws1,hws1,rfl⟩
    obtain⟨ag,cg,hgs⟩:=hC.shape
    obtain⟨agv,hgv⟩:=hG.own.shape
    obtain⟨gv',m3,k1,hG3⟩:=hG.step hd (fun {k} {a} hk=>hblk hk) ha hn2 hfr2 hC (by decide) (.row ⟨T.setL [g] 0 T.lf,1,[.slice none 0 0],29,.none,false⟩)
    rw [hgv] at k1
    rw [hgs] at k1
    subst hgs
    subst hgv
    refine xregQ fun Q' hQ=>?_
    simp [-at_W,hws1,fits_true _ i i 1 24 (by omega),k1]
    subst hQ
    exact⟨rfl,_,gv',y4',y5',hG3,Sl.mk rfl (by simp [hws1])⟩
   rintro ls ds m2 ⟨rfl,gs2,gv2,y2,z2,hG2,ws2,hws2,rfl⟩
   refine xregQ fun Q' hQ=>?_
   simp [hws2]
   rw [wr64 _ (by omega) (by omega)]
   subst hQ
   exact⟨l.length-(i+1),by omega,i+1,rfl,by omega,rfl,gs2,gv2,y2,z2,hG2,Sl.mk rfl (by simp [hws2])⟩
  ·simp only [decide_eq_false_iff_not] at hlt
   obtain rfl:i=l.length:=by omega
   exact⟨rfl,gs,gv,hG,Sl.mk rfl (by simp [hws])⟩
 rintro ls ds m ⟨rfl,gs,gv,hG,us2,hus2,rfl⟩
 refine xseqM (fun ls ds m2=>ds=[]∧m2=m∧Sl [.slice ad l.length l.length,undef,.bool false,gv] 99 ls) ?_ ?_
 rotate_left
 ·obtain⟨y4,y5,y6,y7,y8,y9,y10,vs,rfl,hvs⟩:∃ a b c d e f g r,us2=a::b::c::d::e::f::g::r∧r.length=92:=by
   match us2,hus2 with
   |a::b::c::d::e::f::g::r,h=>exact⟨a,b,c,d,e,f,g,r,rfl,by simpa using h⟩
  refine xsr fun Q' hQ=>?_
  simp [hvs]
  subst hQ
  refine xblock (xwhile (N:=l.length) (I:=fun n ls ds m2=>∃ i:Nat,n=l.length-i∧i≤l.length∧ds=[]∧m2=m∧(∃ z,Sl [.slice ad l.length l.length,undef,.bool false,gv,y4,y5,y6,y7,y8,.int .i64 (i:Nat),z] 92 ls)) ?_ ?_)
  ·exact⟨0,rfl,by omega,rfl,rfl,_,Sl.mk rfl (by simp [hvs])⟩
  rintro n ls ds m2 ⟨i,rfl,hi,rfl,rfl,z,ws,hws,rfl⟩
  refine xseq (xseq (xregQ fun Q' hQ=>?_))
  simp [hws]
  subst hQ
  refine xif (v:=decide ((i:Int)<(l.length:Int))) (by simp [hws]) (fun hlt=>xskip ?_) (fun hlt=>xexit ?_)
  ·simp only [decide_eq_true_eq] at hlt
   have hil:i<l.length:=by omega
   have ha:l[i]? = some l[i]:=List.getElem?_eq_getElem hil
   generalize l[i]=a at ha
   have han:=hnb a (List.mem_of_getElem? ha)
   obtain⟨g,hgk,hC⟩:=hG.cur i a ha hil
   obtain⟨lb,hlb2,hld⟩:=hG.lol.at ha
   cases hlb2
   have hld2:=hld Ty0.ti29 Ty.g29
   obtain⟨bg,hbg,hgl⟩:=own_read hG.own hgk
   subst hbg
   have hgl2:=hgl Ty0.ti29 Ty.g29
   obtain⟨av,cv,hav⟩:=enf_shape a
   obtain⟨ag,cg,hgs⟩:=hC.shape
   refine xseqM (fun ls ds m3=>ds=[]∧m3=m2∧(∃ z,Sl [.slice (some ⟨lb,0,none⟩) l.length l.length,undef,.bool false,.slice (some ⟨bg,0,none⟩) l.length l.length,y4,y5,y6,y7,y8,.int .i64 (i:Nat),z] 92 ls)) ?_ ?_
   rotate_left
   ·refine xblock (xseq (xregQ fun Q' hQ=>?_))
    simp [hws]
    subst hQ
    refine xblock (xwhile (N:=a.n+64) (I:=fun n ls ds m3=>∃ j:Nat,n=a.n+64-j∧j≤a.n+64∧ds=[]∧m3=m2∧Sl [.slice (some ⟨lb,0,none⟩) l.length l.length,undef,.bool false,.slice (some ⟨bg,0,none⟩) l.length l.length,y4,y5,y6,y7,y8,.int .i64 (i:Nat),.int .i64 (j:Nat)] 92 ls) ?_ ?_)
    ·exact⟨0,rfl,by omega,rfl,rfl,Sl.mk rfl (by simp [hws])⟩
    rintro n ls ds m3 ⟨j,rfl,hj,rfl,rfl,ws1,hws1,rfl⟩
    rw [hav] at hld2
    rw [hgs] at hgl2
    refine xseq (xseq (xregQ fun Q' hQ=>?_))
    simp [hws1,hlt,hil,hgl2]
    subst hQ
    refine xif (v:=decide ((j:Int)<((a.n+64:Nat):Int))) (by simp [hws1]) (fun hjlt=>xskip ?_) (fun hjlt=>xexit ?_)
    ·simp only [decide_eq_true_eq] at hjlt
     have hjn:j<a.n+64:=by omega
     obtain⟨b1,o1,c1,e1,r1⟩:=hC.read (sz:=1) (i:=0) rfl hjn rfl
     rw [hgs] at e1
     cases e1
     have r1':=r1 (s:=none) Ty0.ti5 Ty.g5
     simp only [bmk,Nat.mul_one,Nat.add_zero] at r1'
     refine xseq (xblock (xseqM (fun ls ds m4=>ds=[]∧m4=m3∧gx ls 102=.bool false∧Sl [.slice (some ⟨lb,0,none⟩) l.length l.length,undef,.bool false,.slice (some ⟨bg,0,none⟩) l.length l.length,y4,y5,y6,y7,y8,.int .i64 (i:Nat),.int .i64 (j:Nat)] 92 ls) ?_ ?_))
     rotate_left
     ·refine xdrw 5 fun Q' hQ=>?_
      by_cases hjl:j<a.n
      ·obtain⟨b2,o2,c2,e2,r2⟩:=hC.1.read (sz:=1) (i:=0) rfl hjl rfl
       rw [hav] at e2
       cases e2
       have r2':=r2 (s:=none) Ty0.ti5 Ty.g5
       simp only [bmk,Nat.mul_one,Nat.add_zero] at r2'
       have hjc:(j:Int)<(a.n:Int):=by omega
       simp [hws1,hlt,hil,hgl2,hld2,r1',r2',hjn,hjlt,hjl,hjc,-Int.natCast_emod,-Int.natCast_add]
       refine xcall (ov0 _) (byteMark_ok (k:=i) (by omega)) ?_ (fun ch m' h=>h.elim)
       rintro r m4 ⟨rfl,rfl⟩
       simp [hws1,hlt,hil,hgl2,hld2,r1',r2',hjn,hjlt,hjl,hjc,-Int.natCast_emod,-Int.natCast_add]
       refine xcall (ov0 _) (byteMark_ok (k:=i) (by omega)) ?_ (fun ch m' h=>h.elim)
       rintro r m5 ⟨rfl,rfl⟩
       simp [hws1,hlt,hil,hgl2,hld2,r1',r2',hjn,hjlt,hjl,hjc,-Int.natCast_emod,-Int.natCast_add]
       subst hQ
       exact⟨rfl,rfl,by simp [hws1],Sl.mk rfl (by simp [hws1])⟩
      ·have hjc:¬ (j:Int)<(a.n:Int):=by omega
       simp [hws1,hlt,hil,hgl2,hld2,r1',hjn,hjlt,hjl,hjc,-Int.natCast_emod,-Int.natCast_add]
       refine xcall (ov0 _) (byteMark_ok (k:=i) (by omega)) ?_ (fun ch m' h=>h.elim)
       rintro r m4 ⟨rfl,rfl⟩
       simp [hws1,hlt,hil,hgl2,hld2,r1',hjn,hjlt,hjl,hjc,-Int.natCast_emod,-Int.natCast_add]
       subst hQ
       exact⟨rfl,rfl,by simp [hws1],Sl.mk rfl (by simp [hws1])⟩
     rintro ls ds m4 ⟨rfl,rfl,hg,ws3,hws3,rfl⟩
     refine xif (v:=false) (by rw [evL_tmp'];exact hg) (fun h=>by cases h) (fun _=>xskip ?_)
     refine xregQ fun Q' hQ=>?_
     simp [hws3]
     rw [wr64 _ (by omega) (by omega)]
     subst hQ
     exact⟨a.n+64-(j+1),by omega,j+1,rfl,by omega,rfl,rfl,Sl.mk rfl (by simp [hws3])⟩
    ·simp only [decide_eq_false_iff_not] at hjlt
     obtain rfl:j=a.n+64:=by omega
     exact⟨rfl,rfl,_,Sl.mk rfl (by simp [hws1])⟩
   rintro ls ds m3 ⟨rfl,rfl,z2,ws2,hws2,rfl⟩
   refine xregQ fun Q' hQ=>?_
   simp [hws2]
   rw [wr64 _ (by omega) (by omega)]
   subst hQ
   exact⟨l.length-(i+1),by omega,i+1,rfl,by omega,rfl,rfl,z2,Sl.mk rfl (by simp [hws2])⟩
  ·simp only [decide_eq_false_iff_not] at hlt
   obtain rfl:i=l.length:=by omega
   exact⟨rfl,rfl,Sl.mk rfl (by simp [hws])⟩
 rintro ls ds m2 ⟨rfl,rfl,us3,hus3,rfl⟩
 refine xsr fun Q' hQ=>?_
 simp [hus3]
 subst hQ
 exact xret ⟨rfl,_,resX_one _,by simp,fun x hx hxl=>hG.old x hx hxl⟩
end Go.Proofs.YtgmkbdmgifdfeaaGreatDoor

set_option maxRecDepth 8000
namespace Go.Proofs.YtgmkbdmgifdfeaaGreatDoor
open Go Go.Ev
def imk (k:Nat):Value:=.int .i64 (-1000-(k:Int))
theorem apart23 {m0:Mem} {arg:Value} {l:List Enf} (h:LsAt m0 34 3 1 arg l):CallsA tbz 23 [arg] m0 (retR fun r m'=>r=.bool true∧∀ x,x<m0.next→x∉l.flatMap Enf.blk→m'.objs.get x=m0.objs.get x):=by
 obtain⟨hlen,hok,hlb⟩:=h
 have hlol0:Lol m0 34 arg l:=by
  rcases hlb with h|⟨lb,x,h1,h2,h3,h4⟩
  ·exact .inl h
  ·exact .inr ⟨lb,x,h1,h2,h3,(List.nodup_cons.1 h4).1⟩
 have hd:(l.flatMap Enf.blk).Nodup:=by
  rcases hlb with ⟨_,rfl⟩|⟨lb,x,h1,h2,h3,h4⟩
  ·simp
  ·exact (List.nodup_cons.1 h4).2
 have hnb:∀ a∈l,a.n≤1000000000:=fun a ha=>by
  have:=hok a ha
  cases a with
  |nil=>simp [Enf.n]
  |own b=>simp [Enf.n]
  |fix q o n c=>exact this.2.2.1
 obtain⟨ad,rfl⟩:=hlol0.shape
 refine callsS0 Tryz.func23 e23 rfl rfl ?_
 simp only [s23,List.length_cons,List.length_nil,List.cons_append,List.nil_append,Nat.reduceAdd]
 refine xsr fun Q' hQ=>?_
 simp
 subst hQ
 refine xsr fun Q' hQ=>?_
 simp
 subst hQ
 refine xseqM (fun ls ds m=>ds=[]∧Mk m0 34 3 (fun k=>[imk k]) (.slice ad l.length l.length) l l.length 0 m∧Sl [.slice ad l.length l.length,undef,.bool false,.slice none 0 0] 99 ls) ?_ ?_
 rotate_left
 ·refine xsr fun Q' hQ=>?_
  simp
  subst hQ
  refine xblock (xwhile (N:=l.length) (I:=fun n ls ds m=>∃ i:Nat,n=l.length-i∧i≤l.length∧ds=[]∧Mk m0 34 3 (fun k=>[imk k]) (.slice ad l.length l.length) l i 0 m∧Sl [.slice ad l.length l.length,undef,.bool false,.slice none 0 0,.int .i64 (i:Nat)] 98 ls) ?_ ?_)
  ·refine⟨0,rfl,by omega,rfl,⟨rfl,fun _ _=>rfl,hlol0,fun k a hk=>?_⟩,Sl.mk rfl rfl⟩
   rw [if_neg (by omega)]
   have:(if k=0 then 0 else 0)=0:=by split<;>rfl
   rw [this]
   exact Lst.of rfl (hok a (List.mem_of_getElem? hk))
  rintro n ls ds m ⟨i,rfl,hi,rfl,hM,us,hus,rfl⟩
  obtain⟨y5,vs,rfl,hvs⟩:=ln_suc (n:=97) hus
  refine xseq (xseq (xregQ fun Q' hQ=>?_))
  simp [hvs]
  subst hQ
  refine xif (v:=decide ((i:Int)<(l.length:Int))) (by simp [hvs]) (fun hlt=>xskip ?_) (fun hlt=>xexit ?_)
  ·simp only [decide_eq_true_eq] at hlt
   have hil:i<l.length:=by omega
   have ha:l[i]? = some l[i]:=List.getElem?_eq_getElem hil
   generalize l[i]=a at ha
   have han:=hnb a (List.mem_of_getElem? ha)
   refine xseqM (fun ls ds m2=>ds=[]∧Mk m0 34 3 (fun k=>[imk k]) (.slice ad l.length l.length) l i a.n m2∧∃ y,Sl [.slice ad l.length l.length,undef,.bool false,.slice none 0 0,.int .i64 (i:Nat),y] 97 ls) ?_ ?_
   rotate_left
   ·refine xblock (xseq (xregQ fun Q' hQ=>?_))
    simp [hvs]
    subst hQ
    refine xblock (xwhile (N:=a.n) (I:=fun n ls ds m2=>∃ j:Nat,n=a.n-j∧j≤a.n∧ds=[]∧Mk m0 34 3 (fun k=>[imk k]) (.slice ad l.length l.length) l i j m2∧Sl [.slice ad l.length l.length,undef,.bool false,.slice none 0 0,.int .i64 (i:Nat),.int .i64 (j:Nat)] 97 ls) ?_ ?_)
    ·exact⟨0,rfl,by omega,rfl,hM,Sl.mk rfl (by simp [hvs])⟩
    rintro n ls ds m2 ⟨j,rfl,hj,rfl,hM2,ws,hws,rfl⟩
    obtain⟨lb,hlb2,hld⟩:=hM2.lol.at ha
    cases hlb2
    obtain⟨av,cv,hav⟩:=enf_shape a
    have hld2:=hld Ty0.ti34 Ty.g34
    rw [hav] at hld2
    refine xseq (xseq (xregQ fun Q' hQ=>?_))
    simp [hws,hlt,hil,hld2]
    subst hQ
    refine xif (v:=decide ((j:Int)<(a.n:Int))) (by simp [hws]) (fun hjlt=>xskip ?_) (fun hjlt=>xexit ?_)
    ·simp only [decide_eq_true_eq] at hjlt
     have hjn:j<a.n:=by omega
     obtain⟨q,o,c,hv,hst⟩:=hM2.store (V:=imk i) (sz:=1) rfl hd ha hjn rfl rfl
     rw [hav] at hv
     cases hv
     obtain⟨m3,e3,hM3⟩:=hst Ty0.ti3 Ty.s3
     refine xseq (xblock (xdrw 4 fun Q' hQ=>?_))
     simp [-o_storeW,hws,hlt,hil,hld2,hjlt,hjn]
     refine xcall (ov0 _) (intMark_ok (k:=i) (by omega)) ?_ (fun ch m' h=>h.elim)
     rintro r m4 ⟨rfl,rfl⟩
     have e3':=e3
     simp only [imk,Nat.mul_one] at e3'
     simp [-o_storeW,hws,hld2,e3']
     subst hQ
     refine xregQ fun Q' hQ=>?_
     simp [hws]
     rw [wr64 _ (by omega) (by omega)]
     subst hQ
     exact⟨a.n-(j+1),by omega,j+1,rfl,by omega,rfl,hM3,Sl.mk rfl (by simp [hws])⟩
    ·simp only [decide_eq_false_iff_not] at hjlt
     obtain rfl:j=a.n:=by omega
     exact⟨rfl,hM2,_,Sl.mk rfl (by simp [hws])⟩
   rintro ls ds m2 ⟨rfl,hM2,y,ws,hws,rfl⟩
   refine xregQ fun Q' hQ=>?_
   simp [hws]
   rw [wr64 _ (by omega) (by omega)]
   subst hQ
   refine⟨l.length-(i+1),by omega,i+1,rfl,by omega,rfl,⟨hM2.next,hM2.old,hM2.lol,fun k b hk=>?_⟩,Sl.mk rfl (by simp [hws])⟩
   have hb:=hM2.lst k b hk
   by_cases e:k=i
   ·subst e
    rw [ha] at hk;cases hk
    rw [if_neg (by omega),if_pos rfl] at hb
    rw [if_pos (by omega)];exact hb
   ·rw [if_neg e] at hb
    have:(if k<i+1 then b.n else if k=i+1 then 0 else 0)=(if k<i then b.n else 0):=by
     by_cases h2:k<i
     ·rw [if_pos h2,if_pos (by omega)]
     ·rw [if_neg h2,if_neg (by omega)];split<;>rfl
    rw [this];exact hb
  ·simp only [decide_eq_false_iff_not] at hlt
   obtain rfl:i=l.length:=by omega
   exact⟨rfl,hM,Sl.mk rfl (by simp [hvs])⟩
 rintro ls ds m1 ⟨rfl,hM,us,hus,rfl⟩
 have hblk:∀ {k:Nat} {a:Enf},l[k]? = some a→∀ x∈a.blk,x<m0.next:=fun {k a} hk x hx=>by
  have:=hok a (List.mem_of_getElem? hk)
  cases a with
  |nil=>simp [Enf.blk] at hx
  |own b=>simp only [Enf.blk,List.mem_singleton] at hx;rw [hx];exact this.1
  |fix q o n c=>simp only [Enf.blk,List.mem_singleton] at hx;rw [hx];exact this.2.2.2.1
 refine xseqM (fun ls ds m=>ds=[]∧(∃ gs gv,Grown m0 34 3 (fun k=>[imk k]) (.slice ad l.length l.length) l l.length gs gv m∧Sl [.slice ad l.length l.length,undef,.bool false,gv] 99 ls)) ?_ ?_
 rotate_left
 ·obtain⟨y4,y5,y6,vs,rfl,hvs⟩:∃ a b c r,us=a::b::c::r∧r.length=96:=by
   match us,hus with
   |a::b::c::r,h=>exact⟨a,b,c,r,rfl,by simpa using h⟩
  refine xsr fun Q' hQ=>?_
  simp [hvs]
  subst hQ
  refine xblock (xwhile (N:=l.length) (I:=fun n ls ds m=>∃ i:Nat,n=l.length-i∧i≤l.length∧ds=[]∧(∃ gs gv y z,Grown m0 34 3 (fun k=>[imk k]) (.slice ad l.length l.length) l i gs gv m∧Sl [.slice ad l.length l.length,undef,.bool false,gv,y,z,.int .i64 (i:Nat)] 96 ls)) ?_ ?_)
  ·exact⟨0,rfl,by omega,rfl,[],_,_,_,Grown.start hlol0 hM,Sl.mk rfl (by simp [hvs])⟩
  rintro n ls ds m ⟨i,rfl,hi,rfl,gs,gv,y4',y5',hG,ws0,hws0,rfl⟩
  obtain⟨y7,y8,ws,rfl,hws⟩:∃ a b r,ws0=a::b::r∧r.length=94:=by
   match ws0,hws0 with
   |a::b::r,h=>exact⟨a,b,r,rfl,by simpa using h⟩
  refine xseq (xseq (xregQ fun Q' hQ=>?_))
  simp [hws]
  subst hQ
  refine xif (v:=decide ((i:Int)<(l.length:Int))) (by simp [hws]) (fun hlt=>xskip ?_) (fun hlt=>xexit ?_)
  ·simp only [decide_eq_true_eq] at hlt
   have hil:i<l.length:=by omega
   have ha:l[i]? = some l[i]:=List.getElem?_eq_getElem hil
   generalize l[i]=a at ha
   have han:=hnb a (List.mem_of_getElem? ha)
   refine xseqM (fun ls ds m2=>ds=[]∧(∃ gs gv y z,Grown m0 34 3 (fun k=>[imk k]) (.slice ad l.length l.length) l (i+1) gs gv m2∧Sl [.slice ad l.length l.length,undef,.bool false,gv,y,z,.int .i64 (i:Nat)] 96 ls)) ?_ ?_
   rotate_left
   ·obtain⟨lb,hlb2,hld⟩:=hG.lol.at ha
    cases hlb2
    have hld2:=hld Ty0.ti34 Ty.g34
    refine xblock (xseq (xregQ fun Q' hQ=>?_))
    simp [hws,hlt,hil,hld2]
    subst hQ
    obtain⟨av,cv,hav⟩:=enf_shape a
    refine xseqM (fun ls ds m2=>ds=[]∧m.next≤m2.next∧(∀ x,x<m.next→x∉a.blk→m2.objs.get x=m.objs.get x)∧∃ g y,Cur m.next m2 3 [imk i] a 64 g∧Sl [.slice (some ⟨lb,0,none⟩) l.length l.length,undef,.bool false,gv,y4',y5',.int .i64 (i:Nat),g,y] 94 ls) ?_ ?_
    rotate_left
    ·refine xsr fun Q' hQ=>?_
     simp [hws]
     subst hQ
     refine xblock (xwhile (N:=64) (I:=fun n ls ds m2=>∃ t:Nat,n=64-t∧t≤64∧ds=[]∧m.next≤m2.next∧(∀ x,x<m.next→x∉a.blk→m2.objs.get x=m.objs.get x)∧∃ g,Cur m.next m2 3 [imk i] a t g∧Sl [.slice (some ⟨lb,0,none⟩) l.length l.length,undef,.bool false,gv,y4',y5',.int .i64 (i:Nat),g,.int .i64 (t:Nat)] 94 ls) ?_ ?_)
     ·exact⟨0,rfl,by omega,rfl,Nat.le_refl _,fun _ _ _=>rfl,_,Cur.start (hG.lst i a ha (Nat.le_refl _)),Sl.mk rfl (by simp [hws])⟩
     rintro n ls ds m2 ⟨t,rfl,ht,rfl,hn2,hfr2,g,hC,ws1,hws1,rfl⟩
     obtain⟨ag,cg,hgs⟩:=hC.shape
     refine xseq (xseq (xregQ fun Q' hQ=>?_))
     simp [hws1]
     subst hQ
     refine xif (v:=decide ((t:Int)<64)) (by simp [hws1]) (fun htl=>xskip ?_) (fun htl=>xexit ?_)
     ·simp only [decide_eq_true_eq] at htl
      refine xseq (xblock (xregQ fun Q' hQ=>?_))
      simp [hws1]
      refine xcall (ov0 _) (intMark_ok (k:=i) (by omega)) ?_ (fun ch m' h=>h.elim)
      rintro r m3 ⟨rfl,rfl⟩
      obtain⟨m4,hm4⟩:∃ m4,m4=newObjA m3 (.row ⟨T.setL [Value.int .i64 (-1000-(i:Int))] 0 T.lf,1,[Value.int .i64 0],3,.none,false⟩):=⟨_,rfl⟩
      have hn4:m4.next=m3.next+1:=by rw [hm4];rfl
      have hg4:∀ x,x<m3.next→m4.objs.get x=m3.objs.get x:=fun x hx=>by rw [hm4,get_newObjA,if_neg (by omega)]
      have hC4:Cur m.next m4 3 [imk i] a t g:=hC.ex (by omega) (fun x hx=>hg4 x (by have:=hblk ha x hx;have:=hG.next;omega)) fun x _ _ hx _=>hg4 x hx
      obtain⟨g',m5,k1,k2,k3,k4⟩:=hC4.app (sz:=1) rfl (by decide) (by omega) rfl (fun x hx=>by have:=hblk ha x hx;have:=hG.next;omega)
      simp only [imk] at k1
      rw [hgs] at k1
      subst hgs
      rw [hm4] at k1
      simp [-at_W,hws1,fits_true _ (a.n+t) cg 1 8 (by omega),k1]
      subst hQ
      refine xregQ fun Q' hQ=>?_
      simp [hws1]
      rw [wr64 _ (by omega) (by omega)]
      subst hQ
      refine⟨64-(t+1),by omega,t+1,rfl,by omega,rfl,by omega,fun x hx hxa=>?_,g',k2,Sl.mk rfl (by simp [hws1])⟩
      rw [k4 x hx hxa,hg4 x (by omega)]
      exact hfr2 x hx hxa
     ·simp only [decide_eq_false_iff_not] at htl
      obtain rfl:t=64:=by omega
      exact⟨rfl,hn2,hfr2,g,_,hC,Sl.mk rfl (by simp [hws1])⟩
    rintro ls ds m2 ⟨rfl,hn2,hfr2,g,y,hC,ws1,hws1,rfl⟩
    obtain⟨ag,cg,hgs⟩:=hC.shape
    obtain⟨agv,hgv⟩:=hG.own.shape
    obtain⟨gv',m3,k1,hG3⟩:=hG.step hd (fun {k} {a} hk=>hblk hk) ha hn2 hfr2 hC (by decide) (.row ⟨T.setL [g] 0 T.lf,1,[.slice none 0 0],34,.none,false⟩)
    rw [hgv] at k1
    rw [hgs] at k1
    subst hgs
    subst hgv
    refine xregQ fun Q' hQ=>?_
    simp [-at_W,hws1,fits_true _ i i 1 24 (by omega),k1]
    subst hQ
    exact⟨rfl,_,gv',y4',y5',hG3,Sl.mk rfl (by simp [hws1])⟩
   rintro ls ds m2 ⟨rfl,gs2,gv2,y2,z2,hG2,ws2,hws2,rfl⟩
   refine xregQ fun Q' hQ=>?_
   simp [hws2]
   rw [wr64 _ (by omega) (by omega)]
   subst hQ
   exact⟨l.length-(i+1),by omega,i+1,rfl,by omega,rfl,gs2,gv2,y2,z2,hG2,Sl.mk rfl (by simp [hws2])⟩
  ·simp only [decide_eq_false_iff_not] at hlt
   obtain rfl:i=l.length:=by omega
   exact⟨rfl,gs,gv,hG,Sl.mk rfl (by simp [hws])⟩
 rintro ls ds m ⟨rfl,gs,gv,hG,us2,hus2,rfl⟩
 refine xseqM (fun ls ds m2=>ds=[]∧m2=m∧Sl [.slice ad l.length l.length,undef,.bool false,gv] 99 ls) ?_ ?_
 rotate_left
 ·obtain⟨y4,y5,y6,y7,y8,y9,y10,vs,rfl,hvs⟩:∃ a b c d e f g r,us2=a::b::c::d::e::f::g::r∧r.length=92:=by
   match us2,hus2 with
   |a::b::c::d::e::f::g::r,h=>exact⟨a,b,c,d,e,f,g,r,rfl,by simpa using h⟩
  refine xsr fun Q' hQ=>?_
  simp [hvs]
  subst hQ
  refine xblock (xwhile (N:=l.length) (I:=fun n ls ds m2=>∃ i:Nat,n=l.length-i∧i≤l.length∧ds=[]∧m2=m∧(∃ z,Sl [.slice ad l.length l.length,undef,.bool false,gv,y4,y5,y6,y7,y8,.int .i64 (i:Nat),z] 92 ls)) ?_ ?_)
  ·exact⟨0,rfl,by omega,rfl,rfl,_,Sl.mk rfl (by simp [hvs])⟩
  rintro n ls ds m2 ⟨i,rfl,hi,rfl,rfl,z,ws,hws,rfl⟩
  refine xseq (xseq (xregQ fun Q' hQ=>?_))
  simp [hws]
  subst hQ
  refine xif (v:=decide ((i:Int)<(l.length:Int))) (by simp [hws]) (fun hlt=>xskip ?_) (fun hlt=>xexit ?_)
  ·simp only [decide_eq_true_eq] at hlt
   have hil:i<l.length:=by omega
   have ha:l[i]? = some l[i]:=List.getElem?_eq_getElem hil
   generalize l[i]=a at ha
   have han:=hnb a (List.mem_of_getElem? ha)
   obtain⟨g,hgk,hC⟩:=hG.cur i a ha hil
   obtain⟨lb,hlb2,hld⟩:=hG.lol.at ha
   cases hlb2
   have hld2:=hld Ty0.ti34 Ty.g34
   obtain⟨bg,hbg,hgl⟩:=own_read hG.own hgk
   subst hbg
   have hgl2:=hgl Ty0.ti34 Ty.g34
   obtain⟨av,cv,hav⟩:=enf_shape a
   obtain⟨ag,cg,hgs⟩:=hC.shape
   refine xseqM (fun ls ds m3=>ds=[]∧m3=m2∧(∃ z,Sl [.slice (some ⟨lb,0,none⟩) l.length l.length,undef,.bool false,.slice (some ⟨bg,0,none⟩) l.length l.length,y4,y5,y6,y7,y8,.int .i64 (i:Nat),z] 92 ls)) ?_ ?_
   rotate_left
   ·refine xblock (xseq (xregQ fun Q' hQ=>?_))
    simp [hws]
    subst hQ
    refine xblock (xwhile (N:=a.n+64) (I:=fun n ls ds m3=>∃ j:Nat,n=a.n+64-j∧j≤a.n+64∧ds=[]∧m3=m2∧Sl [.slice (some ⟨lb,0,none⟩) l.length l.length,undef,.bool false,.slice (some ⟨bg,0,none⟩) l.length l.length,y4,y5,y6,y7,y8,.int .i64 (i:Nat),.int .i64 (j:Nat)] 92 ls) ?_ ?_)
    ·exact⟨0,rfl,by omega,rfl,rfl,Sl.mk rfl (by simp [hws])⟩
    rintro n ls ds m3 ⟨j,rfl,hj,rfl,rfl,ws1,hws1,rfl⟩
    rw [hav] at hld2
    rw [hgs] at hgl2
    refine xseq (xseq (xregQ fun Q' hQ=>?_))
    simp [hws1,hlt,hil,hgl2]
    subst hQ
    refine xif (v:=decide ((j:Int)<((a.n+64:Nat):Int))) (by simp [hws1]) (fun hjlt=>xskip ?_) (fun hjlt=>xexit ?_)
    ·simp only [decide_eq_true_eq] at hjlt
     have hjn:j<a.n+64:=by omega
     obtain⟨b1,o1,c1,e1,r1⟩:=hC.read (sz:=1) (i:=0) rfl hjn rfl
     rw [hgs] at e1
     cases e1
     have r1':=r1 (s:=none) Ty0.ti3 Ty.g3
     simp only [imk,Nat.mul_one,Nat.add_zero] at r1'
     refine xseq (xblock (xseqM (fun ls ds m4=>ds=[]∧m4=m3∧gx ls 102=.bool false∧Sl [.slice (some ⟨lb,0,none⟩) l.length l.length,undef,.bool false,.slice (some ⟨bg,0,none⟩) l.length l.length,y4,y5,y6,y7,y8,.int .i64 (i:Nat),.int .i64 (j:Nat)] 92 ls) ?_ ?_))
     rotate_left
     ·refine xdrw 5 fun Q' hQ=>?_
      by_cases hjl:j<a.n
      ·obtain⟨b2,o2,c2,e2,r2⟩:=hC.1.read (sz:=1) (i:=0) rfl hjl rfl
       rw [hav] at e2
       cases e2
       have r2':=r2 (s:=none) Ty0.ti3 Ty.g3
       simp only [imk,Nat.mul_one,Nat.add_zero] at r2'
       have hjc:(j:Int)<(a.n:Int):=by omega
       simp [hws1,hlt,hil,hgl2,hld2,r1',r2',hjn,hjlt,hjl,hjc]
       refine xcall (ov0 _) (intMark_ok (k:=i) (by omega)) ?_ (fun ch m' h=>h.elim)
       rintro r m4 ⟨rfl,rfl⟩
       simp [hws1,hlt,hil,hgl2,hld2,r1',r2',hjn,hjlt,hjl,hjc]
       refine xcall (ov0 _) (intMark_ok (k:=i) (by omega)) ?_ (fun ch m' h=>h.elim)
       rintro r m5 ⟨rfl,rfl⟩
       simp [hws1,hlt,hil,hgl2,hld2,r1',r2',hjn,hjlt,hjl,hjc]
       subst hQ
       exact⟨rfl,rfl,by simp [hws1],Sl.mk rfl (by simp [hws1])⟩
      ·have hjc:¬ (j:Int)<(a.n:Int):=by omega
       simp [hws1,hlt,hil,hgl2,hld2,r1',hjn,hjlt,hjl,hjc]
       refine xcall (ov0 _) (intMark_ok (k:=i) (by omega)) ?_ (fun ch m' h=>h.elim)
       rintro r m4 ⟨rfl,rfl⟩
       simp [hws1,hlt,hil,hgl2,hld2,r1',hjn,hjlt,hjl,hjc]
       subst hQ
       exact⟨rfl,rfl,by simp [hws1],Sl.mk rfl (by simp [hws1])⟩
     rintro ls ds m4 ⟨rfl,rfl,hg,ws3,hws3,rfl⟩
     refine xif (v:=false) (by rw [evL_tmp'];exact hg) (fun h=>by cases h) (fun _=>xskip ?_)
     refine xregQ fun Q' hQ=>?_
     simp [hws3]
     rw [wr64 _ (by omega) (by omega)]
     subst hQ
     exact⟨a.n+64-(j+1),by omega,j+1,rfl,by omega,rfl,rfl,Sl.mk rfl (by simp [hws3])⟩
    ·simp only [decide_eq_false_iff_not] at hjlt
     obtain rfl:j=a.n+64:=by omega
     exact⟨rfl,rfl,_,Sl.mk rfl (by simp [hws1])⟩
   rintro ls ds m3 ⟨rfl,rfl,z2,ws2,hws2,rfl⟩
   refine xregQ fun Q' hQ=>?_
   simp [hws2]
   rw [wr64 _ (by omega) (by omega)]
   subst hQ
   exact⟨l.length-(i+1),by omega,i+1,rfl,by omega,rfl,rfl,z2,Sl.mk rfl (by simp [hws2])⟩
  ·simp only [decide_eq_false_iff_not] at hlt
   obtain rfl:i=l.length:=by omega
   exact⟨rfl,rfl,Sl.mk rfl (by simp [hws])⟩
 rintro ls ds m2 ⟨rfl,rfl,us3,hus3,rfl⟩
 refine xsr fun Q' hQ=>?_
 simp [hus3]
 subst hQ
 exact xret ⟨rfl,_,resX_one _,by simp,fun x hx hxl=>hG.old x hx hxl⟩
end Go.Proofs.YtgmkbdmgifdfeaaGreatDoor

set_option maxRecDepth 8000
namespace Go.Proofs.YtgmkbdmgifdfeaaGreatDoor
open Go Go.Ev
def smz:List Value:=[.int .i64 0,.int .i64 0,.int .i64 0,.int .u64 0,.int .u64 0,.slice none 0 0,.int .u64 0,.int .i64 0,.int .i64 0,.int .i64 0,.int .i64 0,.int .i64 0,.int .u32 0,.int .u64 0,.slice none 0 0,.int .i64 0,.int .u64 0]
def smk (k:Nat):List Value:=[.int .i64 (-5-(k:Int)),.int .i64 0,.int .i64 0,.int .u64 0,.int .u64 0,.slice none 0 0,.int .u64 0,.int .i64 0,.int .i64 0,.int .i64 0,.int .i64 0,.int .i64 0,.int .u32 0,.int .u64 0,.slice none 0 0,.int .i64 0,.int .u64 0]
theorem apart24 {m0:Mem} {arg:Value} {l:List Enf} (h:LsAt m0 27 36 17 arg l):CallsA tbz 24 [arg] m0 (retR fun r m'=>r=.bool true∧∀ x,x<m0.next→x∉l.flatMap Enf.blk→m'.objs.get x=m0.objs.get x):=by
 obtain⟨hlen,hok,hlb⟩:=h
 have hlol0:Lol m0 27 arg l:=by
  rcases hlb with h|⟨lb,x,h1,h2,h3,h4⟩
  ·exact .inl h
  ·exact .inr ⟨lb,x,h1,h2,h3,(List.nodup_cons.1 h4).1⟩
 have hd:(l.flatMap Enf.blk).Nodup:=by
  rcases hlb with ⟨_,rfl⟩|⟨lb,x,h1,h2,h3,h4⟩
  ·simp
  ·exact (List.nodup_cons.1 h4).2
 have hnb:∀ a∈l,a.n≤1000000000:=fun a ha=>by
  have:=hok a ha
  cases a with
  |nil=>simp [Enf.n]
  |own b=>simp [Enf.n]
  |fix q o n c=>exact this.2.2.1
 obtain⟨ad,rfl⟩:=hlol0.shape
 refine callsS0 Tryz.func24 e24 rfl rfl ?_
 simp only [s24,List.length_cons,List.length_nil,List.cons_append,List.nil_append,Nat.reduceAdd]
 refine xsr fun Q' hQ=>?_
 simp
 subst hQ
 refine xsr fun Q' hQ=>?_
 simp
 subst hQ
 refine xseqM (fun ls ds m=>ds=[]∧Mk m0 27 36 smk (.slice ad l.length l.length) l l.length 0 m∧Sl [.slice ad l.length l.length,undef,.bool false,.slice none 0 0] 103 ls) ?_ ?_
 rotate_left
 ·refine xsr fun Q' hQ=>?_
  simp
  subst hQ
  refine xblock (xwhile (N:=l.length) (I:=fun n ls ds m=>∃ i:Nat,n=l.length-i∧i≤l.length∧ds=[]∧Mk m0 27 36 smk (.slice ad l.length l.length) l i 0 m∧Sl [.slice ad l.length l.length,undef,.bool false,.slice none 0 0,.int .i64 (i:Nat)] 102 ls) ?_ ?_)
  ·refine⟨0,rfl,by omega,rfl,⟨rfl,fun _ _=>rfl,hlol0,fun k a hk=>?_⟩,Sl.mk rfl rfl⟩
   rw [if_neg (by omega)]
   have:(if k=0 then 0 else 0)=0:=by split<;>rfl
   rw [this]
   exact Lst.of rfl (hok a (List.mem_of_getElem? hk))
  rintro n ls ds m ⟨i,rfl,hi,rfl,hM,us,hus,rfl⟩
  obtain⟨y5,vs,rfl,hvs⟩:=ln_suc (n:=101) hus
  refine xseq (xseq (xregQ fun Q' hQ=>?_))
  simp [hvs]
  subst hQ
  refine xif (v:=decide ((i:Int)<(l.length:Int))) (by simp [hvs]) (fun hlt=>xskip ?_) (fun hlt=>xexit ?_)
  ·simp only [decide_eq_true_eq] at hlt
   have hil:i<l.length:=by omega
   have ha:l[i]? = some l[i]:=List.getElem?_eq_getElem hil
   generalize l[i]=a at ha
   have han:=hnb a (List.mem_of_getElem? ha)
   refine xseqM (fun ls ds m2=>ds=[]∧Mk m0 27 36 smk (.slice ad l.length l.length) l i a.n m2∧∃ y,Sl [.slice ad l.length l.length,undef,.bool false,.slice none 0 0,.int .i64 (i:Nat),y] 101 ls) ?_ ?_
   rotate_left
   ·refine xblock (xseq (xregQ fun Q' hQ=>?_))
    simp [hvs]
    subst hQ
    refine xblock (xwhile (N:=a.n) (I:=fun n ls ds m2=>∃ j:Nat,n=a.n-j∧j≤a.n∧ds=[]∧Mk m0 27 36 smk (.slice ad l.length l.length) l i j m2∧Sl [.slice ad l.length l.length,undef,.bool false,.slice none 0 0,.int .i64 (i:Nat),.int .i64 (j:Nat)] 101 ls) ?_ ?_)
    ·exact⟨0,rfl,by omega,rfl,hM,Sl.mk rfl (by simp [hvs])⟩
    rintro n ls ds m2 ⟨j,rfl,hj,rfl,hM2,ws,hws,rfl⟩
    obtain⟨lb,hlb2,hld⟩:=hM2.lol.at ha
    cases hlb2
    obtain⟨av,cv,hav⟩:=enf_shape a
    have hld2:=hld Ty0.ti27 Ty.g27
    rw [hav] at hld2
    refine xseq (xseq (xregQ fun Q' hQ=>?_))
    simp [hws,hlt,hil,hld2]
    subst hQ
    refine xif (v:=decide ((j:Int)<(a.n:Int))) (by simp [hws]) (fun hjlt=>xskip ?_) (fun hjlt=>xexit ?_)
    ·simp only [decide_eq_true_eq] at hjlt
     have hjn:j<a.n:=by omega
     obtain⟨q,o,c,hv,hst⟩:=hM2.store (V:=.agg ⟨smk i⟩) (sz:=17) rfl hd ha hjn rfl rfl
     rw [hav] at hv
     cases hv
     obtain⟨m3,e3,hM3⟩:=hst Ty0.ti36 Ty.s36
     refine xseq (xblock (xregQ fun Q' hQ=>?_))
     have e3':=e3
     simp only [smk] at e3'
     have hw5:IntKind.wrap .i64 (-5-(i:Int)) = -5-(i:Int):=wr64 _ (by omega) (by omega)
     simp [-o_storeW,hws,hlt,hil,hld2,hjlt,hjn,hw5,e3']
     subst hQ
     refine xregQ fun Q' hQ=>?_
     simp [hws]
     rw [wr64 _ (by omega) (by omega)]
     subst hQ
     exact⟨a.n-(j+1),by omega,j+1,rfl,by omega,rfl,hM3,Sl.mk rfl (by simp [hws])⟩
    ·simp only [decide_eq_false_iff_not] at hjlt
     obtain rfl:j=a.n:=by omega
     exact⟨rfl,hM2,_,Sl.mk rfl (by simp [hws])⟩
   rintro ls ds m2 ⟨rfl,hM2,y,ws,hws,rfl⟩
   refine xregQ fun Q' hQ=>?_
   simp [hws]
   rw [wr64 _ (by omega) (by omega)]
   subst hQ
   refine⟨l.length-(i+1),by omega,i+1,rfl,by omega,rfl,⟨hM2.next,hM2.old,hM2.lol,fun k b hk=>?_⟩,Sl.mk rfl (by simp [hws])⟩
   have hb:=hM2.lst k b hk
   by_cases e:k=i
   ·subst e
    rw [ha] at hk;cases hk
    rw [if_neg (by omega),if_pos rfl] at hb
    rw [if_pos (by omega)];exact hb
   ·rw [if_neg e] at hb
    have:(if k<i+1 then b.n else if k=i+1 then 0 else 0)=(if k<i then b.n else 0):=by
     by_cases h2:k<i
     ·rw [if_pos h2,if_pos (by omega)]
     ·rw [if_neg h2,if_neg (by omega)];split<;>rfl
    rw [this];exact hb
  ·simp only [decide_eq_false_iff_not] at hlt
   obtain rfl:i=l.length:=by omega
   exact⟨rfl,hM,Sl.mk rfl (by simp [hvs])⟩
 rintro ls ds m1 ⟨rfl,hM,us,hus,rfl⟩
 have hblk:∀ {k:Nat} {a:Enf},l[k]? = some a→∀ x∈a.blk,x<m0.next:=fun {k a} hk x hx=>by
  have:=hok a (List.mem_of_getElem? hk)
  cases a with
  |nil=>simp [Enf.blk] at hx
  |own b=>simp only [Enf.blk,List.mem_singleton] at hx;rw [hx];exact this.1
  |fix q o n c=>simp only [Enf.blk,List.mem_singleton] at hx;rw [hx];exact this.2.2.2.1
 refine xseqM (fun ls ds m=>ds=[]∧(∃ gs gv,Grown m0 27 36 smk (.slice ad l.length l.length) l l.length gs gv m∧Sl [.slice ad l.length l.length,undef,.bool false,gv] 103 ls)) ?_ ?_
 rotate_left
 ·obtain⟨y4,y5,y6,vs,rfl,hvs⟩:∃ a b c r,us=a::b::c::r∧r.length=100:=by
   match us,hus with
   |a::b::c::r,h=>exact⟨a,b,c,r,rfl,by simpa using h⟩
  refine xsr fun Q' hQ=>?_
  simp [hvs]
  subst hQ
  refine xblock (xwhile (N:=l.length) (I:=fun n ls ds m=>∃ i:Nat,n=l.length-i∧i≤l.length∧ds=[]∧(∃ gs gv y z,Grown m0 27 36 smk (.slice ad l.length l.length) l i gs gv m∧Sl [.slice ad l.length l.length,undef,.bool false,gv,y,z,.int .i64 (i:Nat)] 100 ls)) ?_ ?_)
  ·exact⟨0,rfl,by omega,rfl,[],_,_,_,Grown.start hlol0 hM,Sl.mk rfl (by simp [hvs])⟩
  rintro n ls ds m ⟨i,rfl,hi,rfl,gs,gv,y4',y5',hG,ws0,hws0,rfl⟩
  obtain⟨y7,y8,ws,rfl,hws⟩:∃ a b r,ws0=a::b::r∧r.length=98:=by
   match ws0,hws0 with
   |a::b::r,h=>exact⟨a,b,r,rfl,by simpa using h⟩
  refine xseq (xseq (xregQ fun Q' hQ=>?_))
  simp [hws]
  subst hQ
  refine xif (v:=decide ((i:Int)<(l.length:Int))) (by simp [hws]) (fun hlt=>xskip ?_) (fun hlt=>xexit ?_)
  ·simp only [decide_eq_true_eq] at hlt
   have hil:i<l.length:=by omega
   have ha:l[i]? = some l[i]:=List.getElem?_eq_getElem hil
   generalize l[i]=a at ha
   have han:=hnb a (List.mem_of_getElem? ha)
   refine xseqM (fun ls ds m2=>ds=[]∧(∃ gs gv y z,Grown m0 27 36 smk (.slice ad l.length l.length) l (i+1) gs gv m2∧Sl [.slice ad l.length l.length,undef,.bool false,gv,y,z,.int .i64 (i:Nat)] 100 ls)) ?_ ?_
   rotate_left
   ·obtain⟨lb,hlb2,hld⟩:=hG.lol.at ha
    cases hlb2
    have hld2:=hld Ty0.ti27 Ty.g27
    refine xblock (xseq (xregQ fun Q' hQ=>?_))
    simp [hws,hlt,hil,hld2]
    subst hQ
    obtain⟨av,cv,hav⟩:=enf_shape a
    refine xseqM (fun ls ds m2=>ds=[]∧m.next≤m2.next∧(∀ x,x<m.next→x∉a.blk→m2.objs.get x=m.objs.get x)∧∃ g y,Cur m.next m2 36 (smk i) a 64 g∧Sl [.slice (some ⟨lb,0,none⟩) l.length l.length,undef,.bool false,gv,y4',y5',.int .i64 (i:Nat),g,y] 98 ls) ?_ ?_
    rotate_left
    ·refine xsr fun Q' hQ=>?_
     simp [hws]
     subst hQ
     refine xblock (xwhile (N:=64) (I:=fun n ls ds m2=>∃ t:Nat,n=64-t∧t≤64∧ds=[]∧m.next≤m2.next∧(∀ x,x<m.next→x∉a.blk→m2.objs.get x=m.objs.get x)∧∃ g,Cur m.next m2 36 (smk i) a t g∧Sl [.slice (some ⟨lb,0,none⟩) l.length l.length,undef,.bool false,gv,y4',y5',.int .i64 (i:Nat),g,.int .i64 (t:Nat)] 98 ls) ?_ ?_)
     ·exact⟨0,rfl,by omega,rfl,Nat.le_refl _,fun _ _ _=>rfl,_,Cur.start (hG.lst i a ha (Nat.le_refl _)),Sl.mk rfl (by simp [hws])⟩
     rintro n ls ds m2 ⟨t,rfl,ht,rfl,hn2,hfr2,g,hC,ws1,hws1,rfl⟩
     obtain⟨ag,cg,hgs⟩:=hC.shape
     refine xseq (xseq (xregQ fun Q' hQ=>?_))
     simp [hws1]
     subst hQ
     refine xif (v:=decide ((t:Int)<64)) (by simp [hws1]) (fun htl=>xskip ?_) (fun htl=>xexit ?_)
     ·simp only [decide_eq_true_eq] at htl
      refine xseq (xblock (xregQ fun Q' hQ=>?_))
      obtain⟨m4,hm4⟩:∃ m4,m4=newObjA m2 (.row ⟨T.setL (smk i) 0 T.lf,17,smz,36,.none,false⟩):=⟨_,rfl⟩
      have hn4:m4.next=m2.next+1:=by rw [hm4];rfl
      have hg4:∀ x,x<m2.next→m4.objs.get x=m2.objs.get x:=fun x hx=>by rw [hm4,get_newObjA,if_neg (by omega)]
      have hC4:Cur m.next m4 36 (smk i) a t g:=hC.ex (by omega) (fun x hx=>hg4 x (by have:=hblk ha x hx;have:=hG.next;omega)) fun x _ _ hx _=>hg4 x hx
      obtain⟨g',m5,k1,k2,k3,k4⟩:=hC4.app (sz:=17) rfl (by decide) (by omega) rfl (fun x hx=>by have:=hblk ha x hx;have:=hG.next;omega)
      rw [hgs] at k1
      subst hgs
      rw [hm4] at k1
      simp only [smk,smz] at k1
      have hw5:IntKind.wrap .i64 (-5-(i:Int)) = -5-(i:Int):=wr64 _ (by omega) (by omega)
      simp [-at_W,hws1,hw5,fits_true _ (a.n+t) cg 1 168 (by omega),k1]
      subst hQ
      refine xregQ fun Q' hQ=>?_
      simp [hws1]
      rw [wr64 _ (by omega) (by omega)]
      subst hQ
      refine⟨64-(t+1),by omega,t+1,rfl,by omega,rfl,by omega,fun x hx hxa=>?_,g',k2,Sl.mk rfl (by simp [hws1])⟩
      rw [k4 x hx hxa,hg4 x (by omega)]
      exact hfr2 x hx hxa
     ·simp only [decide_eq_false_iff_not] at htl
      obtain rfl:t=64:=by omega
      exact⟨rfl,hn2,hfr2,g,_,hC,Sl.mk rfl (by simp [hws1])⟩
    rintro ls ds m2 ⟨rfl,hn2,hfr2,g,y,hC,ws1,hws1,rfl⟩
    obtain⟨ag,cg,hgs⟩:=hC.shape
    obtain⟨agv,hgv⟩:=hG.own.shape
    obtain⟨gv',m3,k1,hG3⟩:=hG.step hd (fun {k} {a} hk=>hblk hk) ha hn2 hfr2 hC (by decide) (.row ⟨T.setL [g] 0 T.lf,1,[.slice none 0 0],27,.none,false⟩)
    rw [hgv] at k1
    rw [hgs] at k1
    subst hgs
    subst hgv
    refine xregQ fun Q' hQ=>?_
    simp [-at_W,hws1,fits_true _ i i 1 24 (by omega),k1]
    subst hQ
    exact⟨rfl,_,gv',y4',y5',hG3,Sl.mk rfl (by simp [hws1])⟩
   rintro ls ds m2 ⟨rfl,gs2,gv2,y2,z2,hG2,ws2,hws2,rfl⟩
   refine xregQ fun Q' hQ=>?_
   simp [hws2]
   rw [wr64 _ (by omega) (by omega)]
   subst hQ
   exact⟨l.length-(i+1),by omega,i+1,rfl,by omega,rfl,gs2,gv2,y2,z2,hG2,Sl.mk rfl (by simp [hws2])⟩
  ·simp only [decide_eq_false_iff_not] at hlt
   obtain rfl:i=l.length:=by omega
   exact⟨rfl,gs,gv,hG,Sl.mk rfl (by simp [hws])⟩
 rintro ls ds m ⟨rfl,gs,gv,hG,us2,hus2,rfl⟩
 refine xseqM (fun ls ds m2=>ds=[]∧m2=m∧Sl [.slice ad l.length l.length,undef,.bool false,gv] 103 ls) ?_ ?_
 rotate_left
 ·obtain⟨y4,y5,y6,y7,y8,y9,y10,vs,rfl,hvs⟩:∃ a b c d e f g r,us2=a::b::c::d::e::f::g::r∧r.length=96:=by
   match us2,hus2 with
   |a::b::c::d::e::f::g::r,h=>exact⟨a,b,c,d,e,f,g,r,rfl,by simpa using h⟩
  refine xsr fun Q' hQ=>?_
  simp [hvs]
  subst hQ
  refine xblock (xwhile (N:=l.length) (I:=fun n ls ds m2=>∃ i:Nat,n=l.length-i∧i≤l.length∧ds=[]∧m2=m∧(∃ z,Sl [.slice ad l.length l.length,undef,.bool false,gv,y4,y5,y6,y7,y8,.int .i64 (i:Nat),z] 96 ls)) ?_ ?_)
  ·exact⟨0,rfl,by omega,rfl,rfl,_,Sl.mk rfl (by simp [hvs])⟩
  rintro n ls ds m2 ⟨i,rfl,hi,rfl,rfl,z,ws,hws,rfl⟩
  refine xseq (xseq (xregQ fun Q' hQ=>?_))
  simp [hws]
  subst hQ
  refine xif (v:=decide ((i:Int)<(l.length:Int))) (by simp [hws]) (fun hlt=>xskip ?_) (fun hlt=>xexit ?_)
  ·simp only [decide_eq_true_eq] at hlt
   have hil:i<l.length:=by omega
   have ha:l[i]? = some l[i]:=List.getElem?_eq_getElem hil
   generalize l[i]=a at ha
   have han:=hnb a (List.mem_of_getElem? ha)
   obtain⟨g,hgk,hC⟩:=hG.cur i a ha hil
   obtain⟨lb,hlb2,hld⟩:=hG.lol.at ha
   cases hlb2
   have hld2:=hld Ty0.ti27 Ty.g27
   obtain⟨bg,hbg,hgl⟩:=own_read hG.own hgk
   subst hbg
   have hgl2:=hgl Ty0.ti27 Ty.g27
   obtain⟨av,cv,hav⟩:=enf_shape a
   obtain⟨ag,cg,hgs⟩:=hC.shape
   refine xseqM (fun ls ds m3=>ds=[]∧m3=m2∧(∃ z,Sl [.slice (some ⟨lb,0,none⟩) l.length l.length,undef,.bool false,.slice (some ⟨bg,0,none⟩) l.length l.length,y4,y5,y6,y7,y8,.int .i64 (i:Nat),z] 96 ls)) ?_ ?_
   rotate_left
   ·refine xblock (xseq (xregQ fun Q' hQ=>?_))
    simp [hws]
    subst hQ
    refine xblock (xwhile (N:=a.n+64) (I:=fun n ls ds m3=>∃ j:Nat,n=a.n+64-j∧j≤a.n+64∧ds=[]∧m3=m2∧Sl [.slice (some ⟨lb,0,none⟩) l.length l.length,undef,.bool false,.slice (some ⟨bg,0,none⟩) l.length l.length,y4,y5,y6,y7,y8,.int .i64 (i:Nat),.int .i64 (j:Nat)] 96 ls) ?_ ?_)
    ·exact⟨0,rfl,by omega,rfl,rfl,Sl.mk rfl (by simp [hws])⟩
    rintro n ls ds m3 ⟨j,rfl,hj,rfl,rfl,ws1,hws1,rfl⟩
    rw [hav] at hld2
    rw [hgs] at hgl2
    refine xseq (xseq (xregQ fun Q' hQ=>?_))
    simp [hws1,hlt,hil,hgl2]
    subst hQ
    refine xif (v:=decide ((j:Int)<((a.n+64:Nat):Int))) (by simp [hws1]) (fun hjlt=>xskip ?_) (fun hjlt=>xexit ?_)
    ·simp only [decide_eq_true_eq] at hjlt
     have hjn:j<a.n+64:=by omega
     obtain⟨b1,o1,c1,e1,r1⟩:=hC.read (sz:=17) (i:=0) rfl hjn rfl
     rw [hgs] at e1
     cases e1
     have r1':=r1 (s:=none) Ty0.ti3 Ty.g3
     simp only [Nat.add_zero] at r1'
     refine xseq (xblock (xseqM (fun ls ds m4=>ds=[]∧m4=m3∧gx ls 106=.bool false∧Sl [.slice (some ⟨lb,0,none⟩) l.length l.length,undef,.bool false,.slice (some ⟨bg,0,none⟩) l.length l.length,y4,y5,y6,y7,y8,.int .i64 (i:Nat),.int .i64 (j:Nat)] 96 ls) ?_ ?_))
     rotate_left
     ·refine xregQ fun Q' hQ=>?_
      have hw5:IntKind.wrap .i64 (-5-(i:Int)) = -5-(i:Int):=wr64 _ (by omega) (by omega)
      by_cases hjl:j<a.n
      ·obtain⟨b2,o2,c2,e2,r2⟩:=hC.1.read (sz:=17) (i:=0) rfl hjl rfl
       rw [hav] at e2
       cases e2
       have r2':=r2 (s:=none) Ty0.ti3 Ty.g3
       simp only [Nat.add_zero] at r2'
       have hjc:(j:Int)<(a.n:Int):=by omega
       simp [hws1,hlt,hil,hgl2,hld2,r1',r2',hjn,hjlt,hjl,hjc,hw5]
       subst hQ
       exact⟨rfl,rfl,by simp [hws1],Sl.mk rfl (by simp [hws1])⟩
      ·have hjc:¬ (j:Int)<(a.n:Int):=by omega
       simp [hws1,hlt,hil,hgl2,hld2,r1',hjn,hjlt,hjl,hjc,hw5]
       subst hQ
       exact⟨rfl,rfl,by simp [hws1],Sl.mk rfl (by simp [hws1])⟩
     rintro ls ds m4 ⟨rfl,rfl,hg,ws3,hws3,rfl⟩
     refine xif (v:=false) (by rw [evL_tmp'];exact hg) (fun h=>by cases h) (fun _=>xskip ?_)
     refine xregQ fun Q' hQ=>?_
     simp [hws3]
     rw [wr64 _ (by omega) (by omega)]
     subst hQ
     exact⟨a.n+64-(j+1),by omega,j+1,rfl,by omega,rfl,rfl,Sl.mk rfl (by simp [hws3])⟩
    ·simp only [decide_eq_false_iff_not] at hjlt
     obtain rfl:j=a.n+64:=by omega
     exact⟨rfl,rfl,_,Sl.mk rfl (by simp [hws1])⟩
   rintro ls ds m3 ⟨rfl,rfl,z2,ws2,hws2,rfl⟩
   refine xregQ fun Q' hQ=>?_
   simp [hws2]
   rw [wr64 _ (by omega) (by omega)]
   subst hQ
   exact⟨l.length-(i+1),by omega,i+1,rfl,by omega,rfl,rfl,z2,Sl.mk rfl (by simp [hws2])⟩
  ·simp only [decide_eq_false_iff_not] at hlt
   obtain rfl:i=l.length:=by omega
   exact⟨rfl,rfl,Sl.mk rfl (by simp [hws])⟩
 rintro ls ds m2 ⟨rfl,rfl,us3,hus3,rfl⟩
 refine xsr fun Q' hQ=>?_
 simp [hus3]
 subst hQ
 exact xret ⟨rfl,_,resX_one _,by simp,fun x hx hxl=>hG.old x hx hxl⟩
end Go.Proofs.YtgmkbdmgifdfeaaGreatDoor

set_option maxRecDepth 1000000
namespace Go.Proofs.YtgmkbdmgifdfeaaGreatDoor
open Go Go.Ev Go.RowKit
noncomputable def powRow (t:Nat):Row:=⟨T.ofList pow10Cells,20,[],t,.none,false⟩
noncomputable def powMem (t:Nat):Mem := { objs:=T.set .lf 0 (.glob (powRow t)),next:=8 }
noncomputable def knowsRun (t:Nat):Bool:=match runF tb0 10000 21 [] (powMem t) with|some (.bool true,_)=>true|_=>false
theorem knows_true (t:Nat):knowsRun t=true:=by kernel_rfl
theorem powMem_get (t b:Nat):(powMem t).objs.get b=if b=0 then some (.glob (powRow t)) else none:=by
 unfold powMem
 rw [T.get_set,T.get_lf]
theorem knows_calls [E0C] {N:Nat} {w0 w:World} {E:Env} {m:Mem} (HM:MR Tryz.prog N w0 E m w) (HG:GlobE 8 E) (hp:PowAt m) (h8:8≤m.next) :
  Calls Tryz.prog 21 ⟨[]⟩ w fun e w'=>e=.returned (.bool true)∧Below w.heap.size w w':=by
 obtain⟨_,t,hv⟩:=hp
 obtain⟨r,h1,h2,h3,h4,h5,h6,_⟩:=vw_spec hv
 have hE:=HG.g 0 (by omega)
 have hrow:∃ cells elem fr,w.heap[0]? = some (.cells cells elem fr)∧RowR (Tryz.prog.cellsOf r.elem) E r ⟨0,0,0⟩ cells elem fr:=by
  rcases rowOf_some h1 with ho|ho
  ·obtain⟨ob,g1,g2⟩:=HM.objs 0 _ _ hE ho rfl
   cases g2 with
   |row h=>exact⟨_,_,_,g1,h⟩
  ·obtain⟨ob,g1,g2⟩:=HM.objs 0 _ _ hE ho rfl
   cases g2 with
   |glob h hx=>exact⟨_,_,_,g1,h⟩
 obtain⟨cells,elem,fr,g1,g2⟩:=hrow
 have hw8:8≤w.heap.size:=by have:=HM.ub 7 _ (HG.g 7 (by omega));exact this
 have hE8:∀ {b i},Env.globs 8 b=some i→b<8∧i=⟨b,0,0⟩:=by
  intro b i h
  unfold Env.globs at h
  split at h
  ·rename_i hb;simp only [Option.some.injEq] at h;exact⟨hb,h.symm⟩
  ·simp at h
 have hO:∀ {b o},(powMem t).objs.get b=some o→b=0∧o=.glob (powRow t):=by
  intro b o h
  rw [powMem_get] at h
  split at h
  ·rename_i hb;simp only [Option.some.injEq] at h;exact⟨hb,h.symm⟩
  ·simp at h
 have H0:MR tb0.p w.heap.size w (Env.globs 8) (powMem t) w:=by
  refine⟨fun b i o hb ho _=>?_,fun b i hb=>?_,fun b hb=>?_,fun b b' i i' o o' hne hb hb' ho ho' _ _=>?_,fun b i o hb ho hown=>?_,.refl _ _,Nat.le_refl _⟩
  ·obtain⟨rfl,rfl⟩:=hO ho
   obtain⟨_,rfl⟩:=hE8 hb
   refine⟨_,g1,.glob ⟨?_,fun j v hv=>?_,?_,fun _=>⟨rfl,rfl⟩,?_⟩ rfl⟩
   ·rw [g2.elem,h3];rfl
   ·have hj:j<20:=cellAt_lt hv
    have hl:j<pow10Cells.length:=by simpa [pow10Cells] using hj
    have hc:v=.int .u64 ((10 ^ j:Nat):Int):=by
     simp only [cellAt,powRow,T.get_ofList] at hv
     rw [List.getElem?_eq_getElem hl] at hv
     split at hv
     ·simp only [Option.some.injEq] at hv;rw [← hv];simp [pow10Cells]
     ·simp at hv
    have k0:=h6 j
    simp only at k0
    rw [List.getElem?_eq_getElem hl] at k0
    obtain⟨v',k1,k2⟩:=g2.cell j _ k0
    have k3:pow10Cells[j]=.int .u64 ((10 ^ j:Nat):Int):=by simp [pow10Cells]
    rw [k3] at k2
    cases k2
    subst hc
    exact⟨_,k1,.int _ _⟩
   ·have:=g2.size
    rw [h2] at this
    simp only [Nat.zero_mul,Nat.zero_add,Nat.add_zero] at this ⊢
    rw [this];simp [powRow,pow10Cells]
   ·have:=g2.fz
    rw [h5] at this
    exact this
  ·obtain⟨h1,rfl⟩:=hE8 hb
   show b<w.heap.size
   omega
  ·have hb':8≤b:=hb
   exact⟨by rw [powMem_get,if_neg (by omega)],by unfold Env.globs;rw [if_neg (by omega)]⟩
  ·obtain⟨rfl,_⟩:=hO ho
   obtain⟨rfl,_⟩:=hO ho'
   exact absurd rfl hne
  ·obtain⟨_,rfl⟩:=hO ho
   simp [AObj.own] at hown
 have hr:=knows_true t
 unfold knowsRun at hr
 split at hr
 ·rename_i m' hrun
  refine ((letI:E0C:=.none;calls_of_runF (@progOk_of .none _ _ _ _ good) H0 (globs_ok 8) .nil 10000 hrun)).mono ?_
  rintro e w' ⟨v',E',rfl,hv',hm⟩
  cases hv'
  exact⟨rfl,hm.base⟩
 ·simp at hr
end Go.Proofs.YtgmkbdmgifdfeaaGreatDoor

