/- A part of a proof: ScriptOwn. -/
import Derived.Test.YtgmkbdmgifdfeaaGreatDoorF16
set_option linter.unusedVariables false
set_option linter.unusedSimpArgs false
set_option maxRecDepth 8000
namespace Go.Proofs.YtgmkbdmgifdfeaaGreatDoor
open Go Go.Ev
theorem o_range {l:List Value} {m:Mem} (t:TypeId) (x:Operand):opA (.range t x) tb (T.ofList l) m=oE (rangeA tb t m (evL l x)):=_root_.id rfl
theorem o_next {l:List Value} {m:Mem} (x:Operand) (s:Bool):opA (.next x s) tb (T.ofList l) m=oE (nextA m (evL l x) s):=_root_.id rfl
theorem range9 {m:Mem} (s:ByteArray):rangeA tb 9 m (.string s)=some (.pointer (some ⟨m.next,0,none⟩),newObjA m (.strIter s 0 s.data.toList)):=by
 unfold rangeA;simp
attribute [simp] o_range o_next range9 opExtract
theorem next_end {m:Mem} {b:Nat} {s:ByteArray} {k:Nat} (h:m.objs.get b=some (.strIter s k [])):nextA m (.pointer (some ⟨b,0,none⟩)) true=some (.tuple ⟨[.bool false]⟩,m):=by
 simp only [nextA,h,nextStr]
theorem next_rune {m:Mem} {b:Nat} {tx:List UInt8} {k:Nat} (h:m.objs.get b=some (.strIter ⟨⟨tx⟩⟩ k (tx.drop k))) (hk:k<tx.length) :
  ∃ R w:Nat,RuneAt tx k w R∧nextA m (.pointer (some ⟨b,0,none⟩)) true=some (.tuple ⟨[.bool true,.int .i64 (k:Int),.int .i32 (R:Int)]⟩,putObj m b (.strIter ⟨⟨tx⟩⟩ (k+w) (tx.drop (k+w)))):=by
 have hd:=List.drop_eq_getElem_cons hk
 have hc:tx[k]? = some tx[k]:=List.getElem?_eq_getElem hk
 generalize tx[k]=c at hd hc
 rw [hd] at h
 by_cases hlo:c.toNat<128
 ·refine⟨c.toNat,1,.inl ⟨rfl,c,hc,hlo,rfl⟩,?_⟩
  have hb:Nat.blt c.toNat 128=true:=by rw [Nat.blt_eq];exact hlo
  simp only [nextA,h,nextStr,hb,vInt_eq];rfl
 ·refine⟨_,_,dec_hi (s:=⟨⟨tx⟩⟩) hc (by omega),?_⟩
  have hb:Nat.blt c.toNat 128=false:=by
   cases hb:Nat.blt c.toNat 128 with
   |false=>rfl
   |true=>rw [Nat.blt_eq] at hb;omega
  simp only [nextA,h,nextStr,hb,vInt_eq];rfl
theorem app1s {n0:Nat} {m:Mem} {v:Value} {o:List (List UInt8)} (h:Own n0 m v 9 o.length (strsV o)) (hn:n0≤m.next) (c:List UInt8) :
  ∃ aw v' m3,v=.slice aw o.length o.length∧appendTo (newObjA m (.row ⟨T.setL [.string ⟨⟨c⟩⟩] 0 .lf,1,[.string ⟨⟨[]⟩⟩],9,.none,false⟩)) 9 1 (.slice aw o.length o.length) 1 [.string ⟨⟨c⟩⟩]=some (v',m3)∧Own n0 m3 v' 9 (o++[c]).length (strsV (o++[c]))∧Old n0 m m3∧(∀ x,x<m.next→blkV v≠some x→m3.objs.get x=m.objs.get x):=by
 obtain⟨aw,rfl⟩:=h.shape
 obtain⟨v',m3,h5,h6,h7,h8,b,hb1,hb2⟩:=h.append (k:=0) (sz:=1) (new:=[.string ⟨⟨c⟩⟩]) ((Old.refl _ m).new (Nat.le_refl _) (.row ⟨T.setL [.string ⟨⟨c⟩⟩] 0 .lf,1,[.string ⟨⟨[]⟩⟩],9,.none,false⟩)) hn (by simp [strsV]) (by simp) (by simp)
 have e1:strsV (o++[c])=strsV o++[.string ⟨⟨c⟩⟩]:=by simp [strsV]
 exact⟨aw,v',m3,rfl,h5,by rw [e1,List.length_append];exact h6,((Old.refl n0 m).new hn _).trans h8,fun x hx hb=>by rw [h7.2 x (by rw [next_newObjA];omega) hb,get_newObjA,if_neg (by omega)]⟩
def FromR (tx:List UInt8) (k:Nat) (fr:Int) (cur:Option (List UInt8)):Prop:=(fr = -1∧cur=none)∨∃ f:Nat,f≤k∧fr=(f:Int)∧cur=some (piece tx f k)
theorem own_it {n0 n b:Nat} {m:Mem} {v:Value} {e:TypeId} {cells:List Value} {s:ByteArray} {k:Nat} {r:List UInt8} (h:Own n0 m v e n cells) (hb:m.objs.get b=some (.strIter s k r)):blkV v≠some b:=by
 rcases h with ⟨rfl,_⟩|⟨b',rfl,h1,h2,h3⟩
 ·intro h;cases h
 ·intro h
  have:b'=b:=Option.some.inj h
  subst this
  unfold vw at h3;rw [hb] at h3;cases h3
structure SpI (m0:Mem) (tx:List UInt8) (it k:Nat) (m:Mem) (acc:List (List UInt8)) (v:Value) (fr:Int) (cur:Option (List UInt8)) (q e:Bool):Prop where
 le:k≤tx.length
 old:Old m0.next m0 m
 iter:m.objs.get it=some (.strIter ⟨⟨tx⟩⟩ k (tx.drop k))
 it0:m0.next≤it
 it1:it<m.next
 own:Own m0.next m v 9 acc.length (strsV acc)
 al:acc.length≤k
 fr:FromR tx k fr cur
 hq:q=true→cur.isSome=true
 he:e=true→q=true
 sp:splitOf tx=splitGo (tx.drop k) acc cur q e
theorem split_ok {m:Mem} {tx:List UInt8} (hlen:tx.length≤2000000) :
  CallsA tb 72 [.string ⟨⟨tx⟩⟩] m (optR (splitOf tx) (fun ws r m'=>Own m.next m' r 9 ws.length (strsV ws)∧Old m.next m m') (fun m'=>Old m.next m m')):=by
 refine callsS Tryz.func72 e72 rfl rfl ?_
 simp only [s72,List.replicate,List.length_cons,List.length_nil,List.cons_append,List.nil_append,Nat.reduceAdd,Nat.reduceSub]
 refine xsr fun Q' hQ=>?_
 simp
 subst hQ
 refine xsr fun Q' hQ=>?_
 simp
 subst hQ
 refine xsr fun Q' hQ=>?_
 simp
 subst hQ
 refine xseqN (fun l ds m1=>ds=[]∧∃ v fr q acc cur e it,SpI m tx it tx.length m1 acc v fr cur q e∧Sl [.string ⟨⟨tx⟩⟩,undef,.slice none 0 0,v,.int .i64 fr,.bool q] 94 l) ?_ ?_
 ·rintro l ds m1 ⟨rfl,v,fr,q,acc,cur,e,it,S,ts,hts,rfl⟩
  have hsp:=S.sp
  rw [List.drop_length,splitGo_nil] at hsp
  refine xsr fun Q' hQ=>?_
  cases q with
  |true =>
   rw [if_pos rfl] at hsp
   simp [hts]
   refine xcall (ov_none (by decide)) (need_f _) (fun v m' h=>h.elim) ?_
   rintro ch m4 ⟨rfl,rfl⟩
   subst hQ
   exact⟨rfl,hsp,rfl,S.old⟩
  |false =>
   rw [if_neg (by simp)] at hsp
   simp [hts]
   refine xcall (ov_none (by decide)) (need_t _) ?_ (fun ch m' h=>h.elim)
   rintro r m4 ⟨rfl,rfl⟩
   subst hQ
   have hal:acc.length≤2000000:=by have:=S.al;omega
   refine xseq (xseq (xregQ fun Q' hQ=>?_))
   rcases S.fr with ⟨rfl,rfl⟩|⟨f,hf,rfl,rfl⟩
   ·simp [hts]
    subst hQ
    refine xno (by simp [hts]) (xskip ?_)
    refine xsr fun Q' hQ=>?_
    simp [hts]
    subst hQ
    refine xret ⟨rfl,_,resX_one _,acc,by simpa using hsp,?_,S.old⟩
    simp [hts]
    exact S.own
   ·have hf1:(0:Int)≤(f:Int):=by omega
    simp [hts,hf1]
    subst hQ
    refine xyes (by simp [hts]) ?_
    obtain⟨aw,v',m5,rfl,g1,g2,g3,g4⟩:=app1s S.own S.old.1 (piece tx f tx.length)
    have hpc:(tx.drop f).take (tx.length-f)=piece tx f tx.length:=rfl
    refine xregQ fun Q' hQ=>?_
    simp [hts,hf,hpc,fits_true _ acc.length acc.length 1 16 (by omega),g1]
    subst hQ
    refine xsr fun Q' hQ=>?_
    simp [hts]
    subst hQ
    refine xret ⟨rfl,_,resX_one _,acc++[piece tx f tx.length],by simpa using hsp,?_,S.old.trans g3⟩
    simp [hts]
    simpa using g2
 refine xsr fun Q' hQ=>?_
 simp
 subst hQ
 refine xblock (xwhile (N:=tx.length) (I:=fun n l ds m1=>∃ k v fr q acc cur e it x7 x8 x9,n=tx.length-k∧ds=[]∧SpI m tx it k m1 acc v fr cur q e ∧
   Sl [.string ⟨⟨tx⟩⟩,undef,.slice none 0 0,v,.int .i64 fr,.bool q,.bool e,x7,x8,x9,.string ⟨⟨tx⟩⟩,.pointer (some ⟨it,0,none⟩)] 88 l) ?_ ?_)
 ·refine⟨0,.slice none 0 0,-1,false,[],none,false,m.next,undef,undef,undef,rfl,rfl,⟨by omega,(Old.refl _ _).new (Nat.le_refl _) _,by rw [get_newObjA,if_pos rfl];rfl,Nat.le_refl _,by simp,.inl ⟨rfl,rfl,rfl⟩,by simp,.inl ⟨rfl,rfl⟩,by simp,by simp,rfl⟩,Sl.mk rfl rfl⟩
 rintro n l ds m1 ⟨k,v,fr,q,acc,cur,e,it,x7,x8,x9,rfl,rfl,S,ts,hts,rfl⟩
 refine xsr fun Q' hQ=>?_
 by_cases hk:k<tx.length
 rotate_left
 ·obtain rfl:k=tx.length:=by have:=S.le;omega
  have hit:=S.iter
  rw [List.drop_length] at hit
  simp [hts,next_end hit]
  subst hQ
  rw [thenA_normal]
  refine xseq (xif (v:=false) (by simp [hts]) (fun h=>by cases h) (fun _=>xexit ?_))
  exact⟨rfl,v,fr,q,acc,cur,e,it,S,Sl.mk rfl (by simp [hts])⟩
 obtain⟨R,w,hR,hnx⟩:=next_rune S.iter hk
 simp [hts,hnx]
 subst hQ
 rw [thenA_normal]
 refine xseq (xif (v:=true) (by simp [hts]) (fun _=>xskip ?_) (fun h=>by cases h))
 rw [thenA_normal]
 have hmk:k<tx.length:=hk
 have hnew:(putObj m1 it (.strIter ⟨⟨tx⟩⟩ (k+w) (tx.drop (k+w)))).objs.get it=some (.strIter ⟨⟨tx⟩⟩ (k+w) (tx.drop (k+w))):=by rw [get_putObj,if_pos rfl]
 have hw1:1≤w∧k+w≤tx.length:=by
  rcases hR with ⟨rfl,c,hc,_⟩|⟨h1,h2,_⟩
  ·exact⟨Nat.le_refl _,hk⟩
  ·exact⟨h1,h2⟩
 obtain⟨m2,hm2⟩:∃ m2,m2=putObj m1 it (.strIter ⟨⟨tx⟩⟩ (k+w) (tx.drop (k+w))):=⟨_,rfl⟩
 rw [← hm2] at hnew ⊢
 have hn2:m2.next=m1.next:=by rw [hm2];rfl
 have hO2:Old m.next m m2:=by rw [hm2];exact S.old.put S.it0 _
 have hown2:Own m.next m2 v 9 acc.length (strsV acc):=by
  have hne:=own_it S.own S.iter
  rcases S.own with h|⟨b,e1,e2,e3,e4⟩
  ·exact .inl h
  ·refine .inr ⟨b,e1,e2,by rw [hn2];exact e3,?_⟩
   rw [hm2,vw_put,if_neg (fun e=>hne (by rw [e1,← e];rfl))];exact e4
 have hsp:=split_step hR acc cur q e S.hq S.he
 rw [← S.sp] at hsp
 have hcur:FromR tx (k+w) fr (cur.map (· ++ (tx.drop k).take w)):=by
  rcases S.fr with ⟨rfl,rfl⟩|⟨f,hf,rfl,rfl⟩
  ·exact .inl ⟨rfl,rfl⟩
  ·exact .inr ⟨f,by omega,rfl,by rw [Option.map_some,piece_add tx hf]⟩
 have hit1:it<m2.next:=by rw [hn2];exact S.it1
 have same:∀ (q' e':Bool) (cur':Option (List UInt8)) (fr':Int),FromR tx (k+w) fr' cur'→(q'=true→cur'.isSome=true)→(e'=true→q'=true)→splitOf tx=splitGo (tx.drop (k+w)) acc cur' q' e'→SpI m tx it (k+w) m2 acc v fr' cur' q' e' :=
  fun q' e' cur' fr' h1 h2 h3 h4=>⟨hw1.2,hO2,hnew,S.it0,hit1,hown2,by have:=S.al;omega,h1,h2,h3,h4⟩
 have again:∀ {l:List Value} {m3:Mem} {acc':List (List UInt8)} {v':Value} {fr':Int} {cur':Option (List UInt8)} {q' e':Bool},SpI m tx it (k+w) m3 acc' v' fr' cur' q' e'→(∃ x7 x8 x9,Sl [.string ⟨⟨tx⟩⟩,undef,.slice none 0 0,v',.int .i64 fr',.bool q',.bool e',x7,x8,x9,.string ⟨⟨tx⟩⟩,.pointer (some ⟨it,0,none⟩)] 88 l) →
   Inv (fun n l ds m1=>∃ k v fr q acc cur e it x7 x8 x9,n=tx.length-k∧ds=[]∧SpI m tx it k m1 acc v fr cur q e∧Sl [.string ⟨⟨tx⟩⟩,undef,.slice none 0 0,v,.int .i64 fr,.bool q,.bool e,x7,x8,x9,.string ⟨⟨tx⟩⟩,.pointer (some ⟨it,0,none⟩)] 88 l) (tx.length-k) l [] m3:=by
  rintro l m3 acc' v' fr' cur' q' e' S' ⟨x7,x8,x9,hl⟩
  exact⟨tx.length-(k+w),by omega,k+w,v',fr',q',acc',cur',e',it,x7,x8,x9,rfl,rfl,S',hl⟩
 have hOp:Old m.next m m2:=hO2
 clear hnx hm2
 refine xblock (xseq (xregQ fun Q' hQ=>?_))
 simp [hts]
 subst hQ
 obtain⟨Bl,hBl⟩:∃ Bl:Bool,Bl=decide (R=32∨R=9):=⟨_,rfl⟩
 refine xseqN (fun l ds m'=>ds=[]∧m'=m2∧Sl [.string ⟨⟨tx⟩⟩,undef,.slice none 0 0,v,.int .i64 fr,.bool q,.bool e,.int .i64 (k:Int),.int .i32 (R:Int),.bool Bl,.string ⟨⟨tx⟩⟩,.pointer (some ⟨it,0,none⟩)] 88 l) ?_ ?_
 rotate_left
 ·refine xregQ fun Q' hQ=>?_
  by_cases h1:R=32
  ·subst h1
   simp [hts]
   subst hQ
   exact⟨rfl,rfl,Sl.mk (by simp [hBl]) (by simp [hts])⟩
  ·have h1':¬ (R:Int)=32:=by omega
   by_cases h2:R=9
   ·subst h2
    simp [hts]
    subst hQ
    exact⟨rfl,rfl,Sl.mk (by simp [hBl]) (by simp [hts])⟩
   ·have h2':¬ (R:Int)=9:=by omega
    simp [hts,h1',h2']
    subst hQ
    exact⟨rfl,rfl,Sl.mk (by simp [hBl,h1,h2]) (by simp [hts])⟩
 clear hts
 rintro l ds m3 ⟨rfl,rfl,ts,hts,rfl⟩
 refine xblock (xseq (xregQ fun Q' hQ=>?_))
 simp [hts]
 subst hQ
 refine xif (v:=e) (by simp [hts]) (fun he=>?_) (fun he=>?_)
 ·subst he
  rw [if_pos rfl] at hsp
  refine xregQ fun Q' hQ=>?_
  simp [hts]
  subst hQ
  obtain rfl:=S.he rfl
  exact again (same true false _ _ hcur (fun _=>by simp [S.hq rfl]) (by simp) hsp) ⟨_,_,_,Sl.mk rfl (by simp [hts])⟩
 subst he
 rw [if_neg (by simp)] at hsp
 refine xsr fun Q' hQ=>?_
 cases q with
 |true =>
  rw [if_pos rfl] at hsp
  have hcs:=S.hq rfl
  by_cases h92:R=92
  ·subst h92
   rw [if_pos rfl] at hsp
   simp [hts]
   subst hQ
   refine xyes (by simp [hts]) ?_
   refine xregQ fun Q' hQ=>?_
   simp [hts]
   subst hQ
   exact again (same true true _ _ hcur (fun _=>by simp [hcs]) (by simp) hsp) ⟨_,_,_,Sl.mk rfl (by simp [hts])⟩
  ·have h92':¬ (R:Int)=92:=by omega
   rw [if_neg h92] at hsp
   simp [hts,h92']
   subst hQ
   refine xno (by simp [hts]) ?_
   refine xsr fun Q' hQ=>?_
   by_cases h34:R=34
   ·subst h34
    rw [if_pos rfl] at hsp
    simp [hts]
    subst hQ
    refine xyes (by simp [hts]) ?_
    refine xsr fun Q' hQ=>?_
    simp [hts]
    subst hQ
    refine xregQ fun Q' hQ=>?_
    obtain⟨k1,hk1⟩:∃ k1,k1=k+1:=⟨_,rfl⟩
    have hwk:IntKind.wrap .i64 ((k:Int)+1)=(k1:Int):=by rw [wr64 _ (by omega) (by omega)];omega
    obtain rfl:w=1:=by
     rcases hR with ⟨h,_⟩|⟨_,_,_,h⟩
     ·exact h
     ·omega
    by_cases hend:k1=tx.length
    ·have hbl:atBl (tx.drop (k+1))=true:=by rw [List.drop_eq_nil_of_le (by omega)];rfl
     rw [hbl,if_pos rfl] at hsp
     simp [hts,hwk,hend]
     refine xcall (ov_none (by decide)) (need_t _) ?_ (fun ch m' h=>h.elim)
     rintro r m4 ⟨rfl,rfl⟩
     subst hQ
     exact again (same false false _ _ hcur (by simp) (by simp) hsp) ⟨_,_,_,Sl.mk rfl (by simp [hts])⟩
    ·have hk1l:k1<tx.length:=by omega
     have hend':¬ (k1:Int)=(tx.length:Int):=by omega
     obtain⟨c,hc⟩:∃ c,tx[k1]? = some c:=⟨_,List.getElem?_eq_getElem hk1l⟩
     have hdr:tx.drop (k+1)=c::tx.drop (k1+1):=by
      rw [← hk1,List.drop_eq_getElem_cons hk1l];congr 1;exact (List.getElem?_eq_some_iff.1 hc).2
     have hat:atBl (tx.drop (k+1))=isBl c:=by rw [hdr];rfl
     rw [hat] at hsp
     by_cases c32:c=32
     ·subst c32
      simp [isBl] at hsp
      simp [hts,hwk,hend',hc]
      refine xcall (ov_none (by decide)) (need_t _) ?_ (fun ch m' h=>h.elim)
      rintro r m4 ⟨rfl,rfl⟩
      subst hQ
      exact again (same false false _ _ hcur (by simp) (by simp) hsp) ⟨_,_,_,Sl.mk rfl (by simp [hts])⟩
     have c32':¬ (c.toNat:Int)=32:=fun e=>c32 (by apply UInt8.toNat_inj.1;show c.toNat=32;omega)
     by_cases c9:c=9
     ·subst c9
      simp [isBl] at hsp
      simp [hts,hwk,hend',hc]
      refine xcall (ov_none (by decide)) (need_t _) ?_ (fun ch m' h=>h.elim)
      rintro r m4 ⟨rfl,rfl⟩
      subst hQ
      exact again (same false false _ _ hcur (by simp) (by simp) hsp) ⟨_,_,_,Sl.mk rfl (by simp [hts])⟩
     have c9':¬ (c.toNat:Int)=9:=fun e=>c9 (by apply UInt8.toNat_inj.1;show c.toNat=9;omega)
     simp [isBl,c32,c9] at hsp
     simp [hts,hwk,hend',hc,c32',c9']
     refine xcall (ov_none (by decide)) (need_f _) (fun v m' h=>h.elim) ?_
     rintro ch m4 ⟨rfl,rfl⟩
     subst hQ
     exact⟨rfl,hsp,rfl,hOp⟩
   ·have h34':¬ (R:Int)=34:=by omega
    rw [if_neg h34] at hsp
    simp [hts,h34']
    subst hQ
    refine xno (by simp [hts]) ?_
    refine xsr fun Q' hQ=>?_
    simp [hts]
    subst hQ
    refine xyes (by simp [hts]) (xskip ?_)
    exact again (same true false _ _ hcur (fun _=>by simp [hcs]) (by simp) hsp) ⟨_,_,_,Sl.mk rfl (by simp [hts])⟩
 |false =>
  rw [if_neg (by simp)] at hsp
  simp [hts]
  subst hQ
  refine xno (by simp [hts]) ?_
  refine xsr fun Q' hQ=>?_
  simp [hts]
  subst hQ
  refine xno (by simp [hts]) ?_
  refine xsr fun Q' hQ=>?_
  simp [hts]
  subst hQ
  refine xno (by simp [hts]) ?_
  refine xsr fun Q' hQ=>?_
  rcases S.fr with ⟨rfl,rfl⟩|⟨f,hf,rfl,rfl⟩
  ·simp only at hsp
   by_cases hb:R=32∨R=9
   ·rw [if_pos hb] at hsp
    have hb':Bl=true:=by rw [hBl];exact decide_eq_true hb
    simp [hts,hb']
    subst hQ
    refine xno (by simp [hts]) ?_
    refine xsr fun Q' hQ=>?_
    simp [hts]
    subst hQ
    refine xno (by simp [hts]) (xskip ?_)
    exact again (same false false none _ (.inl ⟨rfl,rfl⟩) (by simp) (by simp) hsp) ⟨_,_,_,Sl.mk rfl (by simp [hts])⟩
   ·rw [if_neg hb] at hsp
    have hb':Bl=false:=by rw [hBl];exact decide_eq_false hb
    simp [hts,hb']
    subst hQ
    refine xyes (by simp [hts]) ?_
    obtain⟨aw,rfl⟩:=hown2.shape
    refine xseqN (fun l ds m'=>ds=[]∧m'=m3∧¬ (acc=[]∧R=35)∧Sl [.string ⟨⟨tx⟩⟩,undef,.slice none 0 0,.slice aw acc.length acc.length,.int .i64 (-1),.bool false,.bool false,.int .i64 (k:Int),.int .i32 (R:Int),.bool Bl,.string ⟨⟨tx⟩⟩,.pointer (some ⟨it,0,none⟩)] 88 l) ?_ ?_
    ·rintro l ds m4 ⟨rfl,rfl,h35,us,hus,rfl⟩
     rw [if_neg h35] at hsp
     refine xregQ fun Q' hQ=>?_
     have hcur':FromR tx (k+w) (k:Int) (some ((tx.drop k).take w)):=.inr ⟨k,by omega,rfl,by unfold piece;rw [show k+w-k=w from by omega]⟩
     by_cases h34:R=34
     ·subst h34
      simp [hus]
      subst hQ
      exact again (same true false _ _ hcur' (fun _=>rfl) (by simp) hsp) ⟨_,_,_,Sl.mk rfl (by simp [hus])⟩
     ·have h34':¬ (R:Int)=34:=by omega
      simp [h34] at hsp
      simp [hus,h34']
      subst hQ
      exact again (same false false _ _ hcur' (by simp) (by simp) hsp) ⟨_,_,_,Sl.mk rfl (by simp [hus])⟩
    ·refine xsr fun Q' hQ=>?_
     by_cases ha:acc=[]
     ·subst ha
      by_cases h35:R=35
      ·subst h35
       rw [if_pos ⟨rfl,rfl⟩] at hsp
       simp [hts]
       subst hQ
       refine xyes (by simp [hts]) ?_
       refine xsr fun Q' hQ=>?_
       simp [hts]
       subst hQ
       refine xret ⟨rfl,_,resX_one _,[],hsp,?_,hOp⟩
       simp [hts]
       exact .inl ⟨rfl,rfl,rfl⟩
      ·have h35':¬ (R:Int)=35:=by omega
       simp [hts,h35']
       subst hQ
       refine xno (by simp [hts]) (xskip ?_)
       exact⟨rfl,rfl,by simp [h35],Sl.mk (by simp [hb']) (by simp [hts])⟩
     ·have hal:¬ acc.length=0:=fun e=>ha (List.length_eq_zero_iff.1 e)
      simp [hts,ha]
      subst hQ
      refine xno (by simp [hts]) (xskip ?_)
      exact⟨rfl,rfl,by simp [ha],Sl.mk (by simp [hb']) (by simp [hts])⟩
  ·simp only at hsp
   have hf0:¬ (f:Int)<0:=by omega
   have hf1:(0:Int)≤(f:Int):=by omega
   simp [hts,hf0]
   subst hQ
   refine xno (by simp [hts]) ?_
   refine xsr fun Q' hQ=>?_
   by_cases hb:R=32∨R=9
   ·rw [if_pos hb] at hsp
    have hb':Bl=true:=by rw [hBl];exact decide_eq_true hb
    simp [hts,hb',hf1]
    subst hQ
    refine xyes (by simp [hts]) ?_
    obtain⟨aw,v',m4,rfl,g1,g2,g3,g4⟩:=app1s hown2 hO2.1 (piece tx f k)
    have hal:acc.length≤2000000:=by have:=S.al;omega
    have hpc:(tx.drop f).take (k-f)=piece tx f k:=rfl
    refine xsr fun Q' hQ=>?_
    simp [hts,hf,hmk,Nat.le_of_lt hmk,hpc,fits_true _ acc.length acc.length 1 16 (by omega),g1]
    subst hQ
    refine xregQ fun Q' hQ=>?_
    simp [hts]
    subst hQ
    have hne2:=own_it hown2 hnew
    refine again (acc':=acc++[piece tx f k]) (cur':=none) ⟨hw1.2,hO2.trans g3,by rw [g4 it hit1 hne2];exact hnew,S.it0,Nat.lt_of_lt_of_le hit1 g3.1,g2,by have:=S.al;simp;omega,.inl ⟨rfl,rfl⟩,by simp,by simp,hsp⟩ ⟨_,_,_,Sl.mk rfl (by simp [hts])⟩
   ·rw [if_neg hb] at hsp
    have hb':Bl=false:=by rw [hBl];exact decide_eq_false hb
    simp [hts,hb',hf1]
    subst hQ
    refine xno (by simp [hts]) (xskip ?_)
    exact again (same false false _ _ hcur (by simp) (by simp) hsp) ⟨_,_,_,Sl.mk rfl (by simp [hts])⟩
end Go.Proofs.YtgmkbdmgifdfeaaGreatDoor

set_option maxRecDepth 8000
namespace Go.Proofs.YtgmkbdmgifdfeaaGreatDoor
open Go Go.Ev
def scrCells (x:Stu) (v:Value) (b:Bool):List Value:=[.int .i64 x.mtu,.int .u64 x.ack,.int .u64 x.retry,.int .i64 x.retries,.int .i64 x.window,.int .i64 x.inbox,.int .i64 x.sectors,.int .i64 x.room,.int .u64 x.start,v,.bool b]
theorem scrl (x:Stu) (v:Value) (b:Bool):(scrCells x v b).length=11:=rfl
theorem LineAt.stv {m:Mem} {p k:Nat} {ws:List (List UInt8)} {V:Vw} (h:LineAt m p ws) (hv:vw m k=some V) (h1:V.ext=false) (h2:V.elem≠132) (i:Nat) (l:List Value):LineAt (stM m k i l) p ws:=by
 obtain⟨g1,g2,g3,g4,v,g5,g6⟩:=h
 have hp:p≠k:=fun e=>by subst e;rw [g5] at hv;cases hv;exact h2 rfl
 refine⟨g1,by rw [stM_next];exact g2,g3,g4,v,by rw [vw_stM_ne hp];exact g5,?_⟩
 rcases g6 with g6|⟨b,all,g7,g8,g9⟩
 ·exact .inl g6
 ·have hb:b≠k:=fun e=>by subst e;rw [g8] at hv;cases hv;cases h1
  exact .inr ⟨b,all,g7,by rw [vw_stM_ne hb];exact g8,g9⟩
theorem st99 {m:Mem} {sp i:Nat} {cs:List Value} {x:Value} (h:vw m sp=some ⟨true,99,false,cs⟩) (hi:i<cs.length) (hx:oneC x=true):vw (stM m sp i [x]) sp=some ⟨true,99,false,cs.set i x⟩:=by
 rw [vw_stM_eq h (stOk_one rfl hi hx)];rfl
def headRd (ws:List (List UInt8)):Option (Stu × List (List UInt8)) :=
 (rd1 intOf ws).bind fun a=>(rd1 intOf a.2).bind fun b=>(rd1 longOf b.2).bind fun c=>(rd1 intOf c.2).bind fun d=>(rd1 longOf d.2).bind fun e=>(rd1 longOf e.2).bind fun f =>
  (rd1 intOf f.2).bind fun g=>(rd1 intOf g.2).bind fun h=>(rd1 intOf h.2).bind fun i=>some (⟨d.1,e.1,f.1,g.1,h.1,i.1,a.1,b.1,c.1⟩,i.2)
theorem head_ok {m:Mem} {sp p:Nat} {x:Stu} {v:Value} {bg:Bool} {ws:List (List UInt8)} (hv:vw m sp=some ⟨true,99,false,scrCells x v bg⟩) (hsp:8≤sp) (hsn:sp<m.next) (hv1:oneC v=true) (hL:LineAt m p ws) (hE:ErrAt m) :
  CallsA tb 74 [.pointer (some ⟨sp,0,none⟩),.pointer (some ⟨p,0,none⟩)] m (optR (if bg then none else headRd ws) (fun a r m'=>vw m' sp=some ⟨true,99,false,scrCells a.1 v true⟩∧LineAt m' p a.2∧Kp [p,sp] m m') (fun m'=>Kp [p,sp] m m')):=by
 refine callsS Tryz.func74 e74 rfl rfl ?_
 simp only [s74,List.replicate,List.length_cons,List.length_nil,List.cons_append,List.nil_append,Nat.reduceAdd,Nat.reduceSub]
 have z10:∀ x v b,(scrCells x v b)[10]? = some (.bool b):=fun _ _ _=>rfl
 have hne:p≠sp:=fun e=>by obtain⟨_,_,_,_,w,g5,_⟩:=hL;subst e;rw [g5] at hv;cases hv
 have hp8:=hL.1
 refine xsr fun Q' hQ=>?_
 cases bg with
 |true =>
  simp [hv,z10]
  refine xcall (ov_none (by decide)) (need_f _) (fun v m' h=>h.elim) ?_
  rintro ch m4 ⟨rfl,rfl⟩
  subst hQ
  exact⟨rfl,rfl,rfl,.refl _ _⟩
 |false =>
  simp [hv,z10]
  refine xcall (ov_none (by decide)) (need_t _) ?_ (fun ch m' h=>h.elim)
  rintro r m4 ⟨rfl,rfl⟩
  subst hQ
  refine xsr fun Q' hQ=>?_
  simp [hv,scrl]
  subst hQ
  have hv2:vw (stM m4 sp 10 [.bool true]) sp=some ⟨true,99,false,scrCells x v true⟩:=by rw [vw_stM_eq hv (stOk_one rfl (by rw [scrl];omega) rfl)];rfl
  have hL2:LineAt (stM m4 sp 10 [.bool true]) p ws:=hL.stv hv rfl (by show ¬ (99:Nat)=132;decide) _ _
  have hK2:Kp [p,sp] m4 (stM m4 sp 10 [.bool true]):=(Kp.refl _ _).st (by simp) _ _
  have hn2:sp<(stM m4 sp 10 [.bool true]).next:=by rw [stM_next];exact hsn
  generalize stM m4 sp 10 [.bool true]=m5 at hv2 hL2 hK2 hn2
  have hE2:=hE.kp hK2 (by simp;omega)
  refine xsr fun Q' hQ=>?_
  simp
  subst hQ
  refine xsr fun Q' hQ=>?_
  simp
  refine xcall (ov_none (by decide)) (whole_ok' hL2 hE2) ?_ ?_
  rotate_left
  ·rintro ch m6 ⟨h1,rfl,h3⟩
   subst hQ
   exact⟨rfl,by simp [headRd,h1],rfl,hK2.trans (h3.mono (by simp))⟩
  rintro r m6 ⟨a,ha,rfl,hL3,hK3⟩
  have hK3':=hK2.trans (hK3.mono (S':=[p,sp]) (by simp))
  have hE3:=hE.kp hK3' (by simp;omega)
  refine xcall (ov_none (by decide)) (whole_ok' hL3 hE3) ?_ ?_
  rotate_left
  ·rintro ch m7 ⟨h1,rfl,h3⟩
   subst hQ
   exact⟨rfl,by simp [headRd,ha,h1],rfl,hK3'.trans (h3.mono (by simp))⟩
  rintro r m7 ⟨b,hb,rfl,hL4,hK4⟩
  have hK4':=hK3'.trans (hK4.mono (S':=[p,sp]) (by simp))
  have hE4:=hE.kp hK4' (by simp;omega)
  refine xcall (ov_none (by decide)) (long_ok' hL4 hE4) ?_ ?_
  rotate_left
  ·rintro ch m8 ⟨h1,rfl,h3⟩
   subst hQ
   exact⟨rfl,by simp [headRd,ha,hb,h1],rfl,hK4'.trans (h3.mono (by simp))⟩
  rintro r m8 ⟨c,hc,rfl,hL5,hK5⟩
  have hK5':=hK4'.trans (hK5.mono (S':=[p,sp]) (by simp))
  have hv8:vw m8 sp=some ⟨true,99,false,scrCells x v true⟩:=by
   rw [((hK3.trans hK4).trans hK5).vw hn2 (by simp;omega)];exact hv2
  have q1:=st99 (i:=6) (x:=.int .i64 a.1) hv8 (by simp [scrl]) rfl
  have q2:=st99 (i:=7) (x:=.int .i64 b.1) q1 (by simp [scrl]) rfl
  have q3:=st99 (i:=8) (x:=.int .u64 c.1) q2 (by simp [scrl]) rfl
  simp [hv8,q1,q2,scrl]
  subst hQ
  have hn8:sp<m8.next:=by have:=hK3.1;have:=hK4.1;have:=hK5.1;omega
  have hL6:=((hL5.stv hv8 rfl (by show ¬ (99:Nat)=132;decide) 6 [.int .i64 a.1]).stv q1 rfl (by show ¬ (99:Nat)=132;decide) 7 [.int .i64 b.1]).stv q2 rfl (by show ¬ (99:Nat)=132;decide) 8 [.int .u64 c.1]
  have hK6:Kp [p,sp] m4 (stM (stM (stM m8 sp 6 [.int .i64 a.1]) sp 7 [.int .i64 b.1]) sp 8 [.int .u64 c.1]):=((hK5'.st (by simp) _ _).st (by simp) _ _).st (by simp) _ _
  have hn9:sp<(stM (stM (stM m8 sp 6 [.int .i64 a.1]) sp 7 [.int .i64 b.1]) sp 8 [.int .u64 c.1]).next:=by rw [stM_next,stM_next,stM_next];exact hn8
  have q3':vw (stM (stM (stM m8 sp 6 [.int .i64 a.1]) sp 7 [.int .i64 b.1]) sp 8 [.int .u64 c.1]) sp=some ⟨true,99,false,scrCells { x with sectors:=a.1,room:=b.1,start:=c.1 } v true⟩:=q3
  generalize stM (stM (stM m8 sp 6 [.int .i64 a.1]) sp 7 [.int .i64 b.1]) sp 8 [.int .u64 c.1]=m9 at hL6 hK6 hn9 q3'
  clear hv8 q1 q2 q3 hn8 hK5' hL5 hL4 hL3 hE3 hE4 hv2 hL2 hK2 hn2 hE2 hK3' hK4' hK3 hK4 hK5
  generalize hx1:({ x with sectors:=a.1,room:=b.1,start:=c.1 }:Stu)=x1 at q3'
  have hE6:=hE.kp hK6 (by simp;omega)
  refine xsr fun Q' hQ=>?_
  simp
  subst hQ
  refine xsr fun Q' hQ=>?_
  simp
  refine xcall (ov_none (by decide)) (whole_ok' hL6 hE6) ?_ ?_
  rotate_left
  ·rintro ch mz ⟨h1,rfl,h3⟩
   subst hQ
   exact⟨rfl,by simp [headRd,ha,hb,hc,h1],rfl,hK6.trans (h3.mono (by simp))⟩
  rintro r m9d ⟨d,hd,rfl,hLd,hkd⟩
  have hKd:=hK6.trans (hkd.mono (S':=[p,sp]) (by simp))
  have hEd:=hE.kp hKd (by simp;omega)
  refine xcall (ov_none (by decide)) (long_ok' hLd hEd) ?_ ?_
  rotate_left
  ·rintro ch mz ⟨h1,rfl,h3⟩
   subst hQ
   exact⟨rfl,by simp [headRd,ha,hb,hc,hd,h1],rfl,hKd.trans (h3.mono (by simp))⟩
  rintro r m9e ⟨e,he,rfl,hLe,hke⟩
  have hKe:=hKd.trans (hke.mono (S':=[p,sp]) (by simp))
  have hEe:=hE.kp hKe (by simp;omega)
  refine xcall (ov_none (by decide)) (long_ok' hLe hEe) ?_ ?_
  rotate_left
  ·rintro ch mz ⟨h1,rfl,h3⟩
   subst hQ
   exact⟨rfl,by simp [headRd,ha,hb,hc,hd,he,h1],rfl,hKe.trans (h3.mono (by simp))⟩
  rintro r m9f ⟨f,hf,rfl,hLf,hkf⟩
  have hKf:=hKe.trans (hkf.mono (S':=[p,sp]) (by simp))
  have hEf:=hE.kp hKf (by simp;omega)
  have hw:vw m9f sp=some ⟨true,99,false,scrCells x1 v true⟩:=by
   rw [((hkd.trans hke).trans hkf).vw hn9 (by simp;omega)];exact q3'
  have q1:=st99 (i:=0) (x:=.int .i64 d.1) hw (by simp [scrl]) rfl
  have q2:=st99 (i:=1) (x:=.int .u64 e.1) q1 (by simp [scrl]) rfl
  have q3:=st99 (i:=2) (x:=.int .u64 f.1) q2 (by simp [scrl]) rfl
  simp [hw,q1,q2,scrl]
  subst hQ
  have hn:sp<m9f.next:=by have:=hkd.1;have:=hke.1;have:=hkf.1;omega
  have hLb:=((hLf.stv hw rfl (by show ¬ (99:Nat)=132;decide) 0 [.int .i64 d.1]).stv q1 rfl (by show ¬ (99:Nat)=132;decide) 1 [.int .u64 e.1]).stv q2 rfl (by show ¬ (99:Nat)=132;decide) 2 [.int .u64 f.1]
  have hKb:Kp [p,sp] m4 (stM (stM (stM m9f sp 0 [.int .i64 d.1]) sp 1 [.int .u64 e.1]) sp 2 [.int .u64 f.1]):=((hKf.st (by simp) _ _).st (by simp) _ _).st (by simp) _ _
  have hnb:sp<(stM (stM (stM m9f sp 0 [.int .i64 d.1]) sp 1 [.int .u64 e.1]) sp 2 [.int .u64 f.1]).next:=by rw [stM_next,stM_next,stM_next];exact hn
  have qb:vw (stM (stM (stM m9f sp 0 [.int .i64 d.1]) sp 1 [.int .u64 e.1]) sp 2 [.int .u64 f.1]) sp=some ⟨true,99,false,scrCells { x1 with mtu:=d.1,ack:=e.1,retry:=f.1 } v true⟩:=q3
  generalize stM (stM (stM m9f sp 0 [.int .i64 d.1]) sp 1 [.int .u64 e.1]) sp 2 [.int .u64 f.1]=mb at hLb hKb hnb qb
  clear hw q1 q2 q3 hn hLd hLe hLf hEd hEe hEf hKd hKe hKf hkd hke hkf hL6 hK6 hn9 q3' hE6
  generalize hx2:({ x1 with mtu:=d.1,ack:=e.1,retry:=f.1 }:Stu)=x2 at qb
  have hn9:=hnb
  have q3':=qb
  have hEb:=hE.kp hKb (by simp;omega)
  refine xregQ fun Q' hQ=>?_
  simp
  refine xcall (ov_none (by decide)) (whole_ok' hLb hEb) ?_ ?_
  rotate_left
  ·rintro ch mz ⟨h1,rfl,h3⟩
   subst hQ
   exact⟨rfl,by simp [headRd,ha,hb,hc,hd,he,hf,h1],rfl,hKb.trans (h3.mono (by simp))⟩
  rintro r mbg ⟨g,hg,rfl,hLg,hkg⟩
  have hKg:=hKb.trans (hkg.mono (S':=[p,sp]) (by simp))
  have hEg:=hE.kp hKg (by simp;omega)
  refine xcall (ov_none (by decide)) (whole_ok' hLg hEg) ?_ ?_
  rotate_left
  ·rintro ch mz ⟨h1,rfl,h3⟩
   subst hQ
   exact⟨rfl,by simp [headRd,ha,hb,hc,hd,he,hf,hg,h1],rfl,hKg.trans (h3.mono (by simp))⟩
  rintro r mbh ⟨h,hh,rfl,hLh,hkh⟩
  have hKh:=hKg.trans (hkh.mono (S':=[p,sp]) (by simp))
  have hEh:=hE.kp hKh (by simp;omega)
  refine xcall (ov_none (by decide)) (whole_ok' hLh hEh) ?_ ?_
  rotate_left
  ·rintro ch mz ⟨h1,rfl,h3⟩
   subst hQ
   exact⟨rfl,by simp [headRd,ha,hb,hc,hd,he,hf,hg,hh,h1],rfl,hKh.trans (h3.mono (by simp))⟩
  rintro r mbi ⟨i,hi,rfl,hLi,hki⟩
  have hKi:=hKh.trans (hki.mono (S':=[p,sp]) (by simp))
  have hEi:=hE.kp hKi (by simp;omega)
  have hw:vw mbi sp=some ⟨true,99,false,scrCells x2 v true⟩:=by
   rw [((hkg.trans hkh).trans hki).vw hn9 (by simp;omega)];exact q3'
  have q1:=st99 (i:=3) (x:=.int .i64 g.1) hw (by simp [scrl]) rfl
  have q2:=st99 (i:=4) (x:=.int .i64 h.1) q1 (by simp [scrl]) rfl
  have q3:=st99 (i:=5) (x:=.int .i64 i.1) q2 (by simp [scrl]) rfl
  simp [hw,q1,q2,scrl]
  subst hQ
  have hn:sp<mbi.next:=by have:=hkg.1;have:=hkh.1;have:=hki.1;omega
  have hLb:=((hLi.stv hw rfl (by show ¬ (99:Nat)=132;decide) 3 [.int .i64 g.1]).stv q1 rfl (by show ¬ (99:Nat)=132;decide) 4 [.int .i64 h.1]).stv q2 rfl (by show ¬ (99:Nat)=132;decide) 5 [.int .i64 i.1]
  have hKb:Kp [p,sp] m4 (stM (stM (stM mbi sp 3 [.int .i64 g.1]) sp 4 [.int .i64 h.1]) sp 5 [.int .i64 i.1]):=((hKi.st (by simp) _ _).st (by simp) _ _).st (by simp) _ _
  have hnb:sp<(stM (stM (stM mbi sp 3 [.int .i64 g.1]) sp 4 [.int .i64 h.1]) sp 5 [.int .i64 i.1]).next:=by rw [stM_next,stM_next,stM_next];exact hn
  have qb:vw (stM (stM (stM mbi sp 3 [.int .i64 g.1]) sp 4 [.int .i64 h.1]) sp 5 [.int .i64 i.1]) sp=some ⟨true,99,false,scrCells { x2 with retries:=g.1,window:=h.1,inbox:=i.1 } v true⟩:=q3
  refine⟨rfl,_,resX_nil,(⟨d.1,e.1,f.1,g.1,h.1,i.1,a.1,b.1,c.1⟩,i.2),by simp [headRd,ha,hb,hc,hd,he,hf,hg,hh,hi],?_,hLb,hKb⟩
  subst hx2;subst hx1;exact qb
end Go.Proofs.YtgmkbdmgifdfeaaGreatDoor

set_option maxRecDepth 8000
namespace Go.Proofs.YtgmkbdmgifdfeaaGreatDoor
open Go Go.Ev
theorem callsDS {g:FuncId} {fd:Func} {s rest:SCode} {n:Nat} {rs:List ResultVar} {args:List Value} {m:Mem} {S:Mem→Prop} {rec:Option PanicEntry} {d:Option Tmp} {ty:TypeId} {a:Array Operand} {tys:Array TypeId} {os:List SOp}
  (hf:Tryz.prog.funcs[g]? = some fd) (he:fd.body.map strip=some s) (hs:s=.seq (.reg (⟨d,.call ⟨.builtin .recover,a,tys⟩,ty,.no⟩::os)) rest) (hn:fd.ntmps=n) (hr:fd.results.toList=rs)
  (hd:dstB d (args++List.replicate (n-args.length) undef).length=true) (hrec:∀ p,rec=some p→p.recovered=false∧p.goexit=false)
  (h:wpR tb ⟨g,.deferred,none⟩ (thenA (fun l ds m=>wpX tb ⟨g,.deferred,none⟩ rest l ds m (endE tb rs S)) (endE tb rs S)) os (setSl d (recV rec) (args++List.replicate (n-args.length) undef)) [] m):Go.Ev.CallsD tb g args rec m S:=by
 cases hb:fd.body with
 |none=>rw [hb] at he;cases he
 |some c =>
  rw [hb] at he
  exact callsDX (fget hf) hb ((Option.some.inj he).trans hs) hn hr hd hrec h
theorem take1_none (m:Mem) (ok:Nat):Go.Ev.CallsD tb 71 [.pointer (some ⟨ok,0,none⟩)] none m (fun m'=>m'=m):=by
 refine callsDS Tryz.func71 e71 (by rw [s71]) rfl rfl rfl (fun p h=>by cases h) ?_
 simp only [List.replicate,List.length_cons,List.length_nil,List.cons_append,List.nil_append,Nat.reduceAdd,Nat.reduceSub,recV]
 generalize hQ:thenA (fun l ds m_1=>wpX tb { fn:=71,kind:=CallKind.deferred,ro:=none } _ l ds m_1 (endE tb Tryz.f71.results.toList fun m'=>m'=m)) (endE tb Tryz.f71.results.toList fun m'=>m'=m)=Q'
 simp
 subst hQ
 refine xsr fun Q' hQ=>?_
 simp
 subst hQ
 refine xno rfl (xskip ?_)
 exact⟨rfl,⟨_,resX_nil⟩,rfl⟩
theorem ta128 (v:Value):typeAssertA tb (.iface 128 v) 128 true=some (.tuple ⟨[v,.bool true]⟩):=by
 unfold typeAssertA
 simp [taV,okTup]
theorem take1_some {m:Mem} {ok:Nat} {b:Bool} (hv:vw m ok=some ⟨true,4,false,[.bool b]⟩) (hl:ok<m.next):Go.Ev.CallsD tb 71 [.pointer (some ⟨ok,0,none⟩)] (some wrongE) m (fun m'=>vw m' ok=some ⟨true,4,false,[.bool false]⟩∧Kp [ok] m m'):=by
 refine callsDS Tryz.func71 e71 (by rw [s71]) rfl rfl rfl (fun p h=>by cases h;exact⟨rfl,rfl⟩) ?_
 simp only [List.replicate,List.length_cons,List.length_nil,List.cons_append,List.nil_append,Nat.reduceAdd,Nat.reduceSub,recV]
 generalize hQ:thenA (fun l ds m_1=>wpX tb { fn:=71,kind:=CallKind.deferred,ro:=none } _ l ds m_1 (endE tb Tryz.f71.results.toList _)) (endE tb Tryz.f71.results.toList _)=Q'
 simp [wrongE,wrongV]
 subst hQ
 refine xsr fun Q' hQ=>?_
 simp
 subst hQ
 refine xyes rfl ?_
 refine xseq (xseq (xregQ fun Q' hQ=>?_))
 simp [ta128]
 subst hQ
 have hK:Kp [ok] m (stM (newObjA m (zeroObj 128 0 [])) m.next 0 []):=((Kp.refl _ _).new _).st' (Nat.le_refl _) _ _
 have hv2:vw (stM (newObjA m (zeroObj 128 0 [])) m.next 0 []) ok=some ⟨true,4,false,[.bool b]⟩:=by
  rw [vw_stM_ne (by omega),vw_new,if_neg (by omega)];exact hv
 generalize stM (newObjA m (zeroObj 128 0 [])) m.next 0 []=m2 at hK hv2
 refine xsr fun Q' hQ=>?_
 simp
 subst hQ
 refine xno rfl (xskip ?_)
 refine xregQ fun Q' hQ=>?_
 simp [hv2]
 subst hQ
 refine⟨rfl,⟨_,resX_nil⟩,?_,hK.st (by simp) _ _⟩
 rw [vw_stM_eq hv2 (stOk_one rfl (by simp) rfl)];rfl
end Go.Proofs.YtgmkbdmgifdfeaaGreatDoor

set_option maxRecDepth 8000
namespace Go.Proofs.YtgmkbdmgifdfeaaGreatDoor
open Go Go.Ev
theorem resA_nil {l:List Value} {m:Mem}:resA tb (T.ofList l) m []=some []:=_root_.id rfl
theorem resA_cell {l:List Value} {m:Mem} {rs:List ResultVar} {vs:List Value} {i b:Nat} {t:TypeId} {v:Value} (h:gx l i=.pointer (some ⟨b,0,none⟩)) (hv:loadA tb t m b 0=some v) (hr:resA tb (T.ofList l) m rs=some vs):resA tb (T.ofList l) m (.cell i t::rs)=some (v::vs):=by
 rw [← gx_eq,← slots_ofList] at h
 simp only [ev] at h
 unfold resA
 cases hg:(T.ofList l).get i with
 |none=>rw [hg] at h;cases h
 |some u =>
  rw [hg] at h
  simp only at h
  subst h
  simp only [hg,hv,oB,hr]
theorem loadA_one {m:Mem} {t:TypeId} {i:TI} {b:Nat} {V:Vw} {v:Value} (hi:ti tb t=some i) (ha:i.agg=false) (hv:vw m b=some V) (hc:V.cs[0]? = some v):loadA tb t m b 0=some v:=by
 obtain⟨r,h1,h2,h3,h4,h5,h6,_⟩:=vw_spec hv
 simp only [loadA,hi,oB,h1,ha,h6,hc]
theorem loadA_all {m:Mem} {t:TypeId} {i:TI} {b:Nat} {V:Vw} (hi:ti tb t=some i) (ha:i.agg=true) (hv:vw m b=some V) (hc:V.cs.length=i.inf.size):loadA tb t m b 0=some (.agg ⟨V.cs⟩):=by
 obtain⟨r,h1,h2,h3,h4,h5,h6,_⟩:=vw_spec hv
 simp only [loadA,hi,oB,h1,ha]
 rw [cellsFrom_all h6,if_pos (by omega),← hc]
 simp [takeN]
theorem _root_.Go.Ev.CallsD.mono' {g:FuncId} {args:List Value} {rec:Option PanicEntry} {m:Mem} {S S':Mem→Prop} (h:Go.Ev.CallsD tb g args rec m S) (k:∀ m',S m'→S' m'):Go.Ev.CallsD tb g args rec m S':=by
 obtain⟨fr,h1,h2⟩:=h
 refine⟨fr,h1,fun c cs hm hk=>?_⟩
 obtain⟨m',h3,h4⟩:=h2 c cs hm hk
 exact⟨m',k _ h3,h4⟩
def okD (ok:Nat):Deferred := { target:=.fn (.func 71) ⟨[.pointer (some ⟨ok,0,none⟩)]⟩,args:=⟨[]⟩ }
theorem inv71 (ok:Nat) (m:Mem):invokeA tb (.func 71) [.pointer (some ⟨ok,0,none⟩)] [] m=.enter 71 [.pointer (some ⟨ok,0,none⟩)]:=by
 have hov:tb.ov.get 71=none:=ov_none (by decide)
 have hf:=fget Tryz.func71
 cases hb:Tryz.f71.body with
 |none=>have:=e71;rw [hb] at this;cases this
 |some c=>simp only [invokeA,callF,hov,hf,hb,List.nil_append]
theorem def_none {ok:Nat} {m:Mem} {S:Mem→Prop} (h:S m):DefA tb (okD ok) none m S :=
 ⟨_,_,_,_,rfl,inv71 ok m,(take1_none m ok).mono' fun m' e=>by rw [e];exact h⟩
theorem def_some {ok:Nat} {m:Mem} {S:Mem→Prop} {b:Bool} (hv:vw m ok=some ⟨true,4,false,[.bool b]⟩) (hl:ok<m.next) (h:∀ m',vw m' ok=some ⟨true,4,false,[.bool false]⟩→Kp [ok] m m'→S m'):DefA tb (okD ok) (some wrongE) m S :=
 ⟨_,_,_,_,rfl,inv71 ok m,(take1_some hv hl).mono' fun m' e=>h m' e.1 e.2⟩
theorem finR {l:List Value} {m:Mem} {ok:Nat} {b:Bool} {R:OutA→Mem→Prop} (hg:gx l 4=.pointer (some ⟨ok,0,none⟩)) (hv:vw m ok=some ⟨true,4,false,[.bool b]⟩) (h:R (.ret (.bool b)) m):endD tb [.cell 4 4] (okD ok) R (.jump .ret) l [okD ok] m:=by
 refine⟨rfl,def_none ⟨.bool b,?_,h⟩⟩
 unfold resX;rw [resA_cell hg (loadA_one Ty.ti4 Ty.g4 hv rfl) resA_nil]
theorem finP {l:List Value} {m:Mem} {ok:Nat} {b:Bool} {R:OutA→Mem→Prop} (hg:gx l 4=.pointer (some ⟨ok,0,none⟩)) (hv:vw m ok=some ⟨true,4,false,[.bool b]⟩) (hl:ok<m.next) (h:∀ m',Kp [ok] m m'→R (.ret (.bool false)) m'):endD tb [.cell 4 4] (okD ok) R (.pan [wrongE]) l [okD ok] m:=by
 refine⟨rfl,_,rfl,def_some hv hl fun m' h1 h2=>⟨.bool false,?_,h m' h2⟩⟩
 unfold resX;rw [resA_cell hg (loadA_one Ty.ti4 Ty.g4 h1 rfl) resA_nil]
theorem _root_.Go.Ev.Own.ex {n0 n:Nat} {m m':Mem} {v:Value} {e:TypeId} {cells:List Value} (h:Own n0 m v e n cells) (hn:m.next≤m'.next) (k:∀ x,x<m.next→n0≤x→vw m x=some ⟨true,e,true,cells⟩→m'.objs.get x=m.objs.get x):Own n0 m' v e n cells:=by
 rcases h with h|⟨b,h1,h2,h3,h4⟩
 ·exact .inl h
 ·refine .inr ⟨b,h1,h2,by omega,?_⟩
  have:=k b h3 h2 h4
  unfold vw at h4 ⊢;rw [this];exact h4
def StepsAt (n0:Nat) (m:Mem) (v:Value) (ss:List Stp):Prop :=
 ∃ cells,Own n0 m v 36 ss.length cells∧cells.length=ss.length*17∧∀ k s,ss[k]? = some s→∃ d c,takeN cells (k*17) 17=stpCells s d c∧Own n0 m d 5 s.data.length (u8s s.data)∧Own n0 m c 3 s.choices.length (i64s s.choices)
def Rise (f:Nat) (cells:List Value):Prop:=∀ (j k:Nat) (d d':Value) (x y:Nat),j<k→cells[j*17+f]? = some d→cells[k*17+f]? = some d'→blkV d=some x→blkV d'=some y→x<y
def RiseAt (m:Mem) (v:Value):Prop:=∀ b cells,blkV v=some b→vw m b=some ⟨true,36,true,cells⟩→Rise 5 cells∧Rise 14 cells
theorem RiseAt.ex {m m':Mem} {v:Value} (h:RiseAt m v) (k:∀ b,blkV v=some b→m'.objs.get b=m.objs.get b):RiseAt m' v:=fun b cells hb hv=>h b cells hb (by
 unfold vw at hv ⊢
 rw [← k b hb];exact hv)
theorem own_blk {n0 n:Nat} {m:Mem} {v:Value} {e:TypeId} {cs:List Value} (h:Own n0 m v e n cs) {b:Nat} (hb:blkV v=some b):n0≤b∧b<m.next∧vw m b=some ⟨true,e,true,cs⟩:=by
 rcases h with ⟨rfl,_⟩|⟨b',rfl,h1,h2,h3⟩
 ·cases hb
 ·obtain rfl:b'=b:=Option.some.inj hb
  exact⟨h1,h2,h3⟩
def StepsR (n0:Nat) (m:Mem) (v:Value) (ss:List Stp):Prop:=StepsAt n0 m v ss∧RiseAt m v
def ScrAt (n0:Nat) (m:Mem) (sp:Nat) (s:Scr):Prop:=∃ v,vw m sp=some ⟨true,99,false,scrCells s.setup v s.begun⟩∧StepsR n0 m v s.steps
theorem StepsAt.ex {n0:Nat} {m m':Mem} {v:Value} {ss:List Stp} (h:StepsAt n0 m v ss) (hn:m.next≤m'.next) (k:∀ x V,x<m.next→n0≤x→vw m x=some V→V.ext=true→m'.objs.get x=m.objs.get x):StepsAt n0 m' v ss:=by
 obtain⟨cells,h1,h2,h3⟩:=h
 refine⟨cells,h1.ex hn fun x a b c=>k x _ a b c rfl,h2,fun j s hj=>?_⟩
 obtain⟨d,c,h4,h5,h6⟩:=h3 j s hj
 exact⟨d,c,h4,h5.ex hn fun x a b c=>k x _ a b c rfl,h6.ex hn fun x a b c=>k x _ a b c rfl⟩
theorem StepsAt.shape {n0:Nat} {m:Mem} {v:Value} {ss:List Stp} (h:StepsAt n0 m v ss):∃ a,v=.slice a ss.length ss.length:=by
 obtain⟨cells,h1,_⟩:=h;exact h1.shape
theorem StepsR.ex {n0:Nat} {m m':Mem} {v:Value} {ss:List Stp} (h:StepsR n0 m v ss) (hn:m.next≤m'.next) (k:∀ x V,x<m.next→n0≤x→vw m x=some V→V.ext=true→m'.objs.get x=m.objs.get x):StepsR n0 m' v ss:=by
 obtain⟨h1,h2⟩:=h
 refine⟨h1.ex hn k,?_⟩
 obtain⟨cells,g,_⟩:=h1
 refine h2.ex fun b hb=>?_
 obtain⟨g1,g2,g3⟩:=own_blk g hb
 exact k b _ g2 g1 g3 rfl
theorem StepsR.shape {n0:Nat} {m:Mem} {v:Value} {ss:List Stp} (h:StepsR n0 m v ss):∃ a,v=.slice a ss.length ss.length:=h.1.shape
theorem takeN_at {cells L:List Value} {o n i:Nat} (h:takeN cells o n=L) (hi:i<n):cells[o+i]? = L[i]? := by
 subst h
 unfold takeN
 rw [List.getElem?_take_of_lt hi,List.getElem?_drop]
theorem rise_app {f n:Nat} {cells new:List Value} {dn:Value} (hR:Rise f cells) (hl:cells.length=n*17) (hf:f<17) (hnew:new.length=17) (hd:new[f]? = some dn) (hlt:∀ k,k<n→∀ d x y,cells[k*17+f]? = some d→blkV d=some x→blkV dn=some y→x<y):Rise f (cells++new):=by
 intro j k d d' x y hjk h1 h2 hx hy
 have hk:k<n+1:=by
  have:=(List.getElem?_eq_some_iff.1 h2).1
  rw [List.length_append] at this
  omega
 by_cases hkn:k<n
 ·rw [List.getElem?_append_left (by omega)] at h1 h2
  exact hR j k d d' x y hjk h1 h2 hx hy
 ·obtain rfl:k=n:=by omega
  rw [List.getElem?_append_left (by omega)] at h1
  rw [List.getElem?_append_right (by omega),show k*17+f-cells.length=f by omega,hd] at h2
  obtain rfl:=Option.some.inj h2
  exact hlt j hjk d x y h1 hx hy
theorem rise_of {n0 n:Nat} {m:Mem} {v:Value} {cells:List Value} (h:Own n0 m v 36 n cells) (hR:RiseAt m v):Rise 5 cells∧Rise 14 cells:=by
 rcases h with ⟨rfl,_,rfl⟩|⟨b,rfl,h1,h2,h3⟩
 ·exact⟨fun j k d d' x y _ h=>by simp at h,fun j k d d' x y _ h=>by simp at h⟩
 ·exact hR b cells rfl h3
theorem Ch.of_kp' {n0 sp:Nat} {S:List Nat} {a b:Mem} (h:Kp S a b) (hn:n0≤a.next) (hS:∀ x∈S,x=sp∨n0≤x):Ch n0 [sp] a b :=
 ⟨h.1,fun x hx hs=>h.2 x (by omega) fun e=>by rcases hS x e with h|h;exact hs (by simp [h]);omega⟩
theorem Ch.sub {n0 n1 sp:Nat} {S:List Nat} {a b:Mem} (h:Ch n1 S a b) (hn:n0≤n1) (hS:∀ x∈S,x=sp∨n0≤x):Ch n0 [sp] a b :=
 ⟨h.1,fun x hx hs=>h.2 x (by omega) fun e=>by rcases hS x e with h|h;exact hs (by simp [h]);omega⟩
theorem _root_.Go.Ev.Old.kp {n:Nat} {S:List Nat} {a b c:Mem} (h:Old n a b) (k:Kp S b c) (hn:n≤a.next) (hS:∀ x∈S,n≤x):Old n a c :=
 ⟨Nat.le_trans h.1 k.1,fun x hx=>(k.2 x (by have:=h.1;omega) fun e=>by have:=hS x e;omega).trans (h.2 x hx)⟩
theorem _root_.Go.Ev.Old.ch {n n1:Nat} {S:List Nat} {a b c:Mem} (h:Old n a b) (k:Ch n1 S b c) (hn:n≤n1) (hS:∀ x∈S,n≤x):Old n a c :=
 ⟨Nat.le_trans h.1 k.1,fun x hx=>(k.2 x (by omega) fun e=>by have:=hS x e;omega).trans (h.2 x hx)⟩
end Go.Proofs.YtgmkbdmgifdfeaaGreatDoor

set_option maxRecDepth 8000
namespace Go.Proofs.YtgmkbdmgifdfeaaGreatDoor
open Go Go.Ev
theorem alloc_st' (m:Mem) (t:TypeId) (n:Nat) (z cells:List Value) (hz:n=z.length) (h1:cells.length=z.length) (h2:cells.all oneC=true) :
  ∃ m3,m3=stM (newObjA m (zeroObj t n z)) m.next 0 cells∧m3.next=m.next+1∧vw m3 m.next=some ⟨true,t,false,cells⟩∧∀ x,x<m.next→m3.objs.get x=m.objs.get x:=by
 subst hz
 have hA:vw (newObjA m (zeroObj t z.length z)) m.next=some ⟨true,t,false,z⟩:=by rw [vw_new,if_pos rfl];exact vwO_zero1 t z
 have hS:stOk ⟨true,t,false,z⟩ 0 cells=true:=by simp [h1,h2]
 refine⟨_,rfl,by rw [stM_next,next_newObjA],?_,fun x hx=>by rw [stM_get (by omega),get_newObjA,if_neg (by omega)]⟩
 rw [vw_stM_eq hA hS,spl_eq (by simp [h1])]
 simp [h1]
def lineWs:List (List UInt8)→Option Ln
 | []=>some .nothing
 |w::ws=>if w=worldB then (headOf ws).map .head else (stepOf (w::ws)).map .step
theorem lineOf_eq {tx:List UInt8} {ws:List (List UInt8)} (h:splitOf tx=some ws):lineOf tx=lineWs ws:=by
 unfold lineOf;rw [h];cases ws<;>rfl
theorem headOf_eq (ws:List (List UInt8)):headOf ws=match headRd ws with|some (x,[])=>some x|_=>none:=by
 match ws with
 | []=>rfl
 | [a] =>
   show none=_
   simp only [headRd,rd1]
   cases intOf a<;>simp
 | [a,b] =>
   show none=_
   simp only [headRd,rd1]
   cases intOf a<;>simp
   cases intOf b<;>simp
 | [a,b,c] =>
   show none=_
   simp only [headRd,rd1]
   cases intOf a<;>simp
   cases intOf b<;>simp
   cases longOf c<;>simp
 | [a,b,c,d] =>
   show none=_
   simp only [headRd,rd1]
   cases intOf a<;>simp
   cases intOf b<;>simp
   cases longOf c<;>simp
   cases intOf d<;>simp
 | [a,b,c,d,e] =>
   show none=_
   simp only [headRd,rd1]
   cases intOf a<;>simp
   cases intOf b<;>simp
   cases longOf c<;>simp
   cases intOf d<;>simp
   cases longOf e<;>simp
 | [a,b,c,d,e,f] =>
   show none=_
   simp only [headRd,rd1]
   cases intOf a<;>simp
   cases intOf b<;>simp
   cases longOf c<;>simp
   cases intOf d<;>simp
   cases longOf e<;>simp
   cases longOf f<;>simp
 | [a,b,c,d,e,f,g] =>
   show none=_
   simp only [headRd,rd1]
   cases intOf a<;>simp
   cases intOf b<;>simp
   cases longOf c<;>simp
   cases intOf d<;>simp
   cases longOf e<;>simp
   cases longOf f<;>simp
   cases intOf g<;>simp
 | [a,b,c,d,e,f,g,h] =>
   show none=_
   simp only [headRd,rd1]
   cases intOf a<;>simp
   cases intOf b<;>simp
   cases longOf c<;>simp
   cases intOf d<;>simp
   cases longOf e<;>simp
   cases longOf f<;>simp
   cases intOf g<;>simp
   cases intOf h<;>simp
 | [a,b,c,d,e,f,g,h,i] =>
   simp only [headOf,headRd,rd1]
   cases intOf a<;>simp
   cases intOf b<;>simp
   cases longOf c<;>simp
   cases intOf d<;>simp
   cases longOf e<;>simp
   cases longOf f<;>simp
   cases intOf g<;>simp
   cases intOf h<;>simp
   cases intOf i<;>simp
 |a::b::c::d::e::f::g::h::i::j::r =>
  show none=_
  simp only [headRd,rd1]
  cases intOf a<;>simp
  cases intOf b<;>simp
  cases longOf c<;>simp
  cases intOf d<;>simp
  cases longOf e<;>simp
  cases longOf f<;>simp
  cases intOf g<;>simp
  cases intOf h<;>simp
  cases intOf i<;>simp
theorem takeN_two' {l:List Value} {j:Nat} {x y:Value} (h1:l[2*j]? = some x) (h2:l[2*j+1]? = some y):takeN l (j*2) 2=[x,y]:=by
 rw [show j*2=2*j from by omega]
 apply List.ext_getElem?
 intro i
 match i with
 |0=>rw [takeN_get (by omega)];simpa using h1
 |1=>rw [takeN_get (by omega)];simpa using h2
 |i+2 =>
  have hl:2*j+2≤l.length:=by have:=(List.getElem?_eq_some_iff.1 h2).1;omega
  rw [List.getElem?_eq_none (by rw [takeN_length hl];omega),List.getElem?_eq_none (by simp)]
theorem rows_eq' {rows:List CRow} {m m':Mem} {k0 z:Nat} (h:RowsAt rows m k0) (h':RowsAt rows m' k0) (h1:k0≤z) (h2:z<k0+rows.length):vw m' z=vw m z:=by
 have hj:rows[z-k0]? = some (rows[z-k0]'(by omega)):=List.getElem?_eq_getElem _
 have e1:=h _ _ hj
 have e2:=h' _ _ hj
 rw [show k0+(z-k0)=z from by omega] at e1 e2
 rw [e1,e2]
theorem IsFd.eq' {m m':Mem} {k0:Nat} {rv pv:Value} {f:Fd} (h:IsFd m k0 rv pv f) (k:∀ z,k0≤z→z<k0+109→vw m' z=vw m z):IsFd m' k0 rv pv f:=by
 cases f<;>first
  |exact h
  | (obtain⟨cb,h1,h2,h3,h4,h5⟩:=h;exact⟨cb,h1,h2,h3,h4,by rw [k cb h1 h2];exact h5⟩)
theorem form_all' {m:Mem} {k0:Nat} (h:RowsAt formsRows m k0) {kind:Nat} (h1:1≤kind) (h2:kind≤22):∃ tab,vw m (k0+108)=some ⟨true,80,false,tab⟩∧tab[2*kind]? = some (.string ⟨⟨wordOf kind⟩⟩)∧∃ fs,tab[2*kind+1]? = some fs ∧
  ((fs=.slice none 0 0∧fieldsOf kind=[])∨∃ b n cells,fs=.slice (some ⟨b,0,none⟩) n n∧(fieldsOf kind).length=n∧k0≤b∧b<k0+109∧cells.length=2*n∧∀ m',RowsAt formsRows m' k0→vw m' b=some ⟨true,84,false,cells⟩∧∀ j f,(fieldsOf kind)[j]? = some f→∃ rv pv,cells[2*j]? = some rv∧cells[2*j+1]? = some pv∧IsFd m' k0 rv pv f):=by
 obtain⟨tab,g1,g2,fs,g3,g4⟩:=form_at h h1 h2
 refine⟨tab,g1,g2,fs,g3,g4.imp id ?_⟩
 rintro⟨b,n,cells,e1,e2,e3,e4,e5,e6,e7⟩
 refine⟨b,n,cells,e1,e2,e3,e4,e6,fun m' h'=>⟨by rw [rows_eq' h h' e3 e4];exact e5,fun j f hj=>?_⟩⟩
 obtain⟨rv,pv,i1,i2,i3⟩:=e7 j f hj
 exact⟨rv,pv,i1,i2,i3.eq' fun z z1 z2=>rows_eq' h h' z1 z2⟩
theorem tab_at {m:Mem} {k0:Nat} (h:RowsAt formsRows m k0):∃ tab,vw m (k0+108)=some ⟨true,80,false,tab⟩∧tab.length=46∧∀ k,k<23→∃ a n c,takeN tab (k*2) 2=[.string ⟨⟨wordOf k⟩⟩,.slice a n c]∧tab[2*k+1]? = some (.slice a n c):=by
 refine⟨_,h 108 _ rfl,rfl,fun k hk=>?_⟩
 match k,hk with
 |0,_=>exact⟨_,_,_,rfl,rfl⟩
 |1,_=>exact⟨_,_,_,rfl,rfl⟩
 |2,_=>exact⟨_,_,_,rfl,rfl⟩
 |3,_=>exact⟨_,_,_,rfl,rfl⟩
 |4,_=>exact⟨_,_,_,rfl,rfl⟩
 |5,_=>exact⟨_,_,_,rfl,rfl⟩
 |6,_=>exact⟨_,_,_,rfl,rfl⟩
 |7,_=>exact⟨_,_,_,rfl,rfl⟩
 |8,_=>exact⟨_,_,_,rfl,rfl⟩
 |9,_=>exact⟨_,_,_,rfl,rfl⟩
 |10,_=>exact⟨_,_,_,rfl,rfl⟩
 |11,_=>exact⟨_,_,_,rfl,rfl⟩
 |12,_=>exact⟨_,_,_,rfl,rfl⟩
 |13,_=>exact⟨_,_,_,rfl,rfl⟩
 |14,_=>exact⟨_,_,_,rfl,rfl⟩
 |15,_=>exact⟨_,_,_,rfl,rfl⟩
 |16,_=>exact⟨_,_,_,rfl,rfl⟩
 |17,_=>exact⟨_,_,_,rfl,rfl⟩
 |18,_=>exact⟨_,_,_,rfl,rfl⟩
 |19,_=>exact⟨_,_,_,rfl,rfl⟩
 |20,_=>exact⟨_,_,_,rfl,rfl⟩
 |21,_=>exact⟨_,_,_,rfl,rfl⟩
 |22,_=>exact⟨_,_,_,rfl,rfl⟩
 |k+23,h=>omega
theorem kind_at':∀ k:Fin 23,1≤k.val→kindOf (wordOf k.val)=some k.val:=by decide +kernel
theorem word_ne:∀ k:Fin 23,1≤k.val→wordOf k.val≠[]:=by decide +kernel
def Mt (n:Nat) (w:List UInt8) (j:Nat):Prop:=wordOf j≠[]∧wordOf j=w∧(decide (j≠1)=decide (0<n))
instance (n:Nat) (w:List UInt8) (j:Nat):Decidable (Mt n w j):=by unfold Mt;exact inferInstance
theorem step_none {l:List (List UInt8)} {n:Nat} {w:List UInt8} {ws:List (List UInt8)} (h:nodeOf l=some ((n:Int),w,ws)) (hn:∀ j,j<23→¬ Mt n w j):stepOf l=none:=by
 unfold stepOf
 rw [h]
 simp only
 cases hk:kindOf w with
 |none=>rfl
 |some k =>
  simp only
  rw [if_neg]
  intro hc
  unfold kindOf at hk
  have h1:=List.mem_of_find?_eq_some hk
  have h2:=List.find?_some hk
  simp only [List.mem_range] at h1
  simp only [Bool.and_eq_true,decide_eq_true_eq,beq_iff_eq] at h2
  refine hn k h1 ⟨word_ne ⟨k,h1⟩ h2.1,h2.2,?_⟩
  have e1:(k != 1)=decide (k≠1):=by simp [bne,Bool.beq_eq_decide_eq]
  have e2:decide (0<(n:Int))=decide (0<n):=by simp
  rw [← e1,hc,e2]
theorem step_at {l:List (List UInt8)} {n k:Nat} {w:List UInt8} {ws:List (List UInt8)} (h:nodeOf l=some ((n:Int),w,ws)) (hk:k<23) (hm:Mt n w k):1≤k∧stepOf l=match readFds (fieldsOf k) { stp0 with kind:=k,node:=n } ws with|some (s,[])=>some s|_=>none:=by
 obtain⟨h1,rfl,h3⟩:=hm
 have hk1:1≤k:=by
  cases k with
  |zero=>exact absurd rfl h1
  |succ k=>omega
 refine⟨hk1,?_⟩
 unfold stepOf
 rw [h]
 simp only [kind_at' ⟨k,hk⟩ hk1]
 have e1:(k != 1)=decide (k≠1):=by simp [bne,Bool.beq_eq_decide_eq]
 have e2:decide (0<(n:Int))=decide (0<n):=by simp
 rw [if_pos (by rw [e1,e2,h3])]
 rfl
theorem choices_first':∀ k:Fin 23,∀ j:Fin 5,(match (fieldsOf k.val)[j.val]? with|some .choices=>decide (j.val=0)|_=>true)=true:=by decide +kernel
theorem fields5:∀ k:Fin 23,(fieldsOf k.val).length≤4:=by decide +kernel
theorem choices_first {k j:Nat} (hk:k<23) (h:(fieldsOf k)[j]? = some .choices):j=0:=by
 have hj:=(List.getElem?_eq_some_iff.1 h).1
 have h4:=fields5 ⟨k,hk⟩
 have:=choices_first' ⟨k,hk⟩ ⟨j,by simp only at h4;omega⟩
 simp only [h,decide_eq_true_eq] at this
 exact this
theorem isFd_one {m:Mem} {k0:Nat} {rv pv:Value} {f:Fd} (h:IsFd m k0 rv pv f):∃ a b c d e g,rv=.func a b c∧pv=.func d e g:=by
 cases f<;>first
  | (obtain⟨rfl,rfl⟩:=h;exact⟨_,_,_,_,_,_,rfl,rfl⟩)
  | (obtain⟨cb,h1,h2,rfl,rfl,h5⟩:=h;exact⟨_,_,_,_,_,_,rfl,rfl⟩)
theorem spl_full' {Z l:List Value} (h:Z.length=l.length):spl Z 0 l=l:=by
 rw [spl_eq (by omega)];simp [← h]
theorem formsV_ren (k:Nat):renV 8 k formsV=.slice (some ⟨k+108,0,none⟩) 23 23:=by
 simp [formsV,renV,renA]
end Go.Proofs.YtgmkbdmgifdfeaaGreatDoor

