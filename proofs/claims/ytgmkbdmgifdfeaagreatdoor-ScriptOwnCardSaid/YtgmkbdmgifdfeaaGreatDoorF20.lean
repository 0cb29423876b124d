/- A part of a proof: ScriptOwn. -/
import Derived.Test.YtgmkbdmgifdfeaaGreatDoorF19
set_option linter.unusedVariables false
set_option linter.unusedSimpArgs false
set_option maxRecDepth 8000
namespace Go.Proofs.YtgmkbdmgifdfeaaGreatDoor
open Go Go.Ev
def hashed (acc:List (List UInt8)):Bool:=acc.head?.bind List.head? == some 35
structure WdI (m0:Mem) (tx:List UInt8) (k:Nat) (m:Mem) (acc:List (List UInt8)) (v:Value):Prop where
 le:k≤tx.length
 old:Old m0.next m0 m
 own:Own m0.next m v 9 acc.length (strsV acc)
 al:acc.length≤k
 ne:∀ w∈acc,w≠[]∧w.length≤tx.length
 sp1:hashed acc=true→splitOf tx=some []
 sp0:hashed acc=false→splitOf tx=splitGo (tx.drop k) acc none false false
theorem hashed_snoc {acc:List (List UInt8)} {w:List UInt8} (h:acc≠[]):hashed (acc++[w])=hashed acc:=by
 cases acc with
 |nil=>cases h rfl
 |cons a r=>rfl
theorem hashed_one {c:UInt8} {w:List UInt8} (h:w.head? = some c):hashed ([]++[w])=(c==35):=by
 unfold hashed;simp [h]
theorem piece_head {tx:List UInt8} {k j:Nat} {c:UInt8} (h:tx[k]? = some c) (hj:k<j):(piece tx k j).head? = some c:=by
 unfold piece;rw [drop_get h]
 obtain⟨d,rfl⟩:∃ d,j=k+1+d:=⟨j-(k+1),by omega⟩
 rw [show k+1+d-k=d+1 by omega];rfl
theorem piece_one {tx:List UInt8} {k:Nat} {c:UInt8} (h:tx[k]? = some c):piece tx k (k+1)=[c]:=by
 unfold piece;rw [drop_get h,show k+1-k=1 by omega];rfl
theorem piece_snoc {tx:List UInt8} {k j:Nat} {c:UInt8} (hk:k≤j) (h:tx[j]? = some c):piece tx k (j+1)=piece tx k j++[c]:=by
 rw [← piece_add tx hk,drop_get h];rfl
theorem word_sp {tx:List UInt8} {k j:Nat} {acc:List (List UInt8)} {c:UInt8} (hc:tx[k]? = some c) (hb:isBl c=false) (hj:k<j)
  (sp1:hashed acc=true→splitOf tx=some []) (sp0:hashed acc=false→splitOf tx=splitGo (tx.drop k) acc none false false)
  (h:¬ (acc=[]∧c=35)→splitGo (tx.drop k) acc none false false=splitGo (tx.drop j) (acc++[piece tx k j]) none false false) :
  (hashed (acc++[piece tx k j])=true→splitOf tx=some [])∧(hashed (acc++[piece tx k j])=false→splitOf tx=splitGo (tx.drop j) (acc++[piece tx k j]) none false false):=by
 cases acc with
 |nil =>
  rw [hashed_one (piece_head hc hj)]
  have h0:=sp0 rfl
  constructor
  ·intro e
   have e':c=35:=by simpa using e
   subst e'
   rw [h0,drop_get hc,splitGo_cons];simp [hb]
  ·intro e
   have e':c≠35:=by simpa using e
   rw [h0,h (fun q=>e' q.2)]
 |cons a r =>
  rw [hashed_snoc (by simp)]
  exact⟨sp1,fun e=>by rw [sp0 e,h (fun q=>by cases q.1)]⟩
theorem quote_sp {tx:List UInt8} {k:Nat} {acc:List (List UInt8)} (hc:tx[k]? = some 34) :
  (qPos tx (k+1) = -1→splitGo (tx.drop k) acc none false false=none) ∧
  (∀ j:Nat,qPos tx (k+1)=(j:Int)→k<j∧j≤tx.length∧(atBl (tx.drop j)=true→splitGo (tx.drop k) acc none false false=splitGo (tx.drop j) (acc++[piece tx k j]) none false false)∧(atBl (tx.drop j)=false→splitGo (tx.drop k) acc none false false=none)):=by
 have e1:splitGo (tx.drop k) acc none false false=splitGo (tx.drop (k+1)) acc (some [34]) true false:=by
  rw [drop_get hc,splitGo_cons];simp [isBl]
 have e2:=splitGo_q (tx.drop (k+1)).length (tx.drop (k+1)) acc [34] (Nat.le_refl _)
 obtain⟨hk,-⟩:=List.getElem?_eq_some_iff.1 hc
 unfold qPos
 cases hq:qEnd (tx.drop (k+1)) with
 |none =>
  rw [hq] at e2
  exact⟨fun _=>by rw [e1,e2],fun j h=>by simp only at h;omega⟩
 |some n =>
  rw [hq] at e2
  obtain⟨hn1,hn2⟩:=qEnd_le _ _ n (Nat.le_refl _) hq
  rw [List.length_drop] at hn2
  refine⟨fun h=>by simp only at h;omega,fun j h=>?_⟩
  obtain rfl:j=k+1+n:=by simp only at h;omega
  have hp:[34]++(tx.drop (k+1)).take n=piece tx k (k+1+n):=by rw [← piece_add tx (f:=k) (k:=k+1) (w:=n) (by omega),piece_one hc]
  simp only [List.drop_drop,hp] at e2
  refine⟨by omega,by omega,fun hb=>?_,fun hb=>?_⟩
  ·rw [e1,e2];simp only [hb,if_true];exact splitGo_end _ _ _ hb
  ·rw [e1,e2];simp [hb]
def WordsR (tx:List UInt8) (m:Mem) (r:Value) (m':Mem):Prop :=
 ∃ acc ok v,r=.tuple ⟨[v,.bool ok]⟩∧Own m.next m' v 9 acc.length (strsV acc)∧Old m.next m m'∧acc.length≤tx.length∧(∀ w∈acc,w≠[]∧w.length≤tx.length) ∧
   (hashed acc=true→splitOf tx=some [])∧(hashed acc=false→splitOf tx=if ok then some acc else none)
theorem rwords_ok {m:Mem} {tx:List UInt8} (hlen:tx.length≤2000000):CallsA tb 76 [.string ⟨⟨tx⟩⟩] m (retR (WordsR tx m)):=by
 refine callsS Tryz.func76 e76 rfl rfl ?_
 simp only [s76,List.replicate,List.length_cons,List.length_nil,List.cons_append,List.nil_append,Nat.reduceAdd,Nat.reduceSub]
 refine xsr fun Q' hQ=>?_
 simp
 subst hQ
 refine xsr fun Q' hQ=>?_
 simp
 subst hQ
 refine xsr fun Q' hQ=>?_
 simp
 subst hQ
 refine xseqN (fun l ds m1=>ds=[]∧∃ acc v x5 x6,WdI m tx tx.length m1 acc v∧Sl [.string ⟨⟨tx⟩⟩,undef,.slice none 0 0,.bool false,v,x5,x6] 56 l) ?_ ?_
 ·rintro l ds m1 ⟨rfl,acc,v,x5,x6,S,ts,hts,rfl⟩
  refine xsr fun Q' hQ=>?_
  simp [hts]
  subst hQ
  refine xret ⟨rfl,_,resX_two _ _,acc,true,v,by simp [hts],S.own,S.old,S.al,S.ne,S.sp1,fun h=>?_⟩
  rw [S.sp0 h,List.drop_length,splitGo_nil];simp
 refine xblock (xwhile (N:=tx.length) (I:=fun q l ds m1=>∃ (k:Nat) (acc:List (List UInt8)) (v x6:Value),q=tx.length-k∧ds=[]∧WdI m tx k m1 acc v∧Sl [.string ⟨⟨tx⟩⟩,undef,.slice none 0 0,.bool false,v,.int .i64 (k:Nat),x6] 56 l) ?_ ?_)
 ·exact⟨0,[],.slice none 0 0,undef,rfl,rfl,⟨by omega,Old.refl _ _,.inl ⟨rfl,rfl,rfl⟩,by simp,by simp,fun h=>(by cases h),fun _=>rfl⟩,Sl.mk rfl rfl⟩
 rintro q l ds m1 ⟨k,acc,v,x6,rfl,rfl,S,us,hus,rfl⟩
 refine xseq (xseq (xregQ fun Q' hQ=>?_))
 simp [hus]
 subst hQ
 refine xif (v:=decide ((k:Int)<(tx.length:Int))) (by simp [hus]) (fun h=>xskip ?_) (fun h=>xexit ?_)
 rotate_left
 ·simp only [decide_eq_false_iff_not] at h
  obtain rfl:k=tx.length:=by have:=S.le;omega
  exact⟨rfl,acc,v,_,_,S,Sl.mk rfl (by simp [hus])⟩
 simp only [decide_eq_true_eq] at h
 have hkl:k<tx.length:=by omega
 obtain⟨c,hc⟩:∃ c,tx[k]? = some c:=⟨_,List.getElem?_eq_getElem hkl⟩
 rw [thenA_normal]
 obtain⟨k1,hk1⟩:∃ k1,k1=k+1:=⟨_,rfl⟩
 have hw1:IntKind.wrap .i64 ((k:Int)+1)=(k1:Int):=by rw [wr64 _ (by omega) (by omega)];omega
 refine xblock (xseq (xseq (xregQ fun Q' hQ=>?_)))
 simp [hus,hc]
 refine xcall (ov_none (by decide)) (rblank_ok _ c) ?_ (fun ch m' h=>h.elim)
 rintro r m2 ⟨rfl,rfl⟩
 subst hQ
 refine xif (v:=isBl c) (by simp [hus]) (fun hb=>?_) (fun hb=>xskip ?_)
 ·refine xsr fun Q' hQ=>?_
  simp [hus,hw1]
  subst hQ
  refine xexit ⟨tx.length-k1,by omega,k1,acc,v,x6,rfl,rfl,⟨by omega,S.old,S.own,by have:=S.al;omega,S.ne,S.sp1,fun h=>?_⟩,Sl.mk rfl (by simp [hus])⟩
  rw [S.sp0 h,drop_get hc,splitGo_cons,hk1];simp [hb]
 rw [thenA_normal]
 refine xsr fun Q' hQ=>?_
 simp [hus]
 subst hQ
 refine xseqN (fun l ds m'=>ds=[]∧m'=m2∧∃ j:Nat,k<j∧j≤tx.length∧(¬ (acc=[]∧c=35)→splitGo (tx.drop k) acc none false false=splitGo (tx.drop j) (acc++[piece tx k j]) none false false)∧Sl [.string ⟨⟨tx⟩⟩,undef,.slice none 0 0,.bool false,v,.int .i64 (k:Nat),.int .i64 (j:Nat)] 56 l) ?_ ?_
 ·rintro l ds m3 ⟨rfl,rfl,j,hkj,hj,hsp,vs,hvs,rfl⟩
  have hal:acc.length≤2000000:=by have:=S.al;omega
  obtain⟨aw,v',m5,rfl,g1,g2,g3,g4⟩:=app1s S.own S.old.1 (piece tx k j)
  have hpc:(tx.drop k).take (j-k)=piece tx k j:=rfl
  have hkj':k≤j:=by omega
  refine xsr fun Q' hQ=>?_
  simp [hvs,hkj',hj,hpc,fits_true _ acc.length acc.length 1 16 (by omega),g1]
  subst hQ
  refine xregQ fun Q' hQ=>?_
  simp [hvs]
  subst hQ
  obtain⟨s1,s0⟩:=word_sp hc hb hkj S.sp1 S.sp0 hsp
  refine⟨tx.length-j,by omega,j,acc++[piece tx k j],v',_,rfl,rfl,⟨hj,S.old.trans g3,by simpa using g2,?_,?_,s1,s0⟩,Sl.mk rfl (by simp [hvs])⟩
  ·have:=S.al;simp;omega
  ·intro w hw
   rcases List.mem_append.1 hw with h|h
   ·exact S.ne w h
   ·obtain rfl:=List.mem_singleton.1 h
    refine⟨fun e=>?_,?_⟩
    ·have:=piece_head hc hkj
     rw [e] at this;cases this
    ·unfold piece;rw [List.length_take,List.length_drop];omega
 refine xsr fun Q' hQ=>?_
 by_cases h34:c=34
 ·subst h34
  simp [hus,hc]
  subst hQ
  refine xyes (by simp [hus]) ?_
  obtain⟨qno,qyes⟩:=quote_sp (acc:=acc) hc
  have fail:splitGo (tx.drop k) acc none false false=none→∀ {l:List Value} {x5 x6:Value},Sl [.string ⟨⟨tx⟩⟩,undef,v,.bool false,v,x5,x6] 56 l→endX tb Tryz.f76.results.toList (retR (WordsR tx m)) (.jump .ret) l [] m2:=by
   rintro hno l x5 x6 ⟨ts,hts,rfl⟩
   refine⟨rfl,_,resX_two _ _,acc,false,v,by simp [hts],S.own,S.old,by have:=S.al;omega,S.ne,S.sp1,fun h=>?_⟩
   rw [S.sp0 h,hno];rfl
  refine xsr fun Q' hQ=>?_
  simp [hus]
  refine xcall (ov_none (by decide)) (rquoted_ok hlen (by omega)) ?_ (fun ch m' h=>h.elim)
  rintro r m3 ⟨rfl,rfl⟩
  subst hQ
  by_cases hneg:qPos tx (k+1) = -1
  ·rw [hneg]
   refine xsr fun Q' hQ=>?_
   simp [hus]
   subst hQ
   refine xyes (by simp [hus]) ?_
   refine xsr fun Q' hQ=>?_
   simp [hus]
   subst hQ
   exact xret (fail (qno hneg) (Sl.mk rfl (by simp [hus])))
  ·obtain⟨j,hj⟩:∃ j:Nat,qPos tx (k+1)=(j:Int):=by
    unfold qPos at hneg ⊢
    cases hq:qEnd (tx.drop (k+1)) with
    |none=>rw [hq] at hneg;exact absurd rfl hneg
    |some n=>exact⟨k+1+n,by simp⟩
   obtain⟨q1,q2,q3,q4⟩:=qyes j hj
   rw [hj]
   have hj0:¬ (j:Int)<0:=by omega
   refine xsr fun Q' hQ=>?_
   by_cases hjl:j<tx.length
   ·have hjl':(j:Int)<(tx.length:Int):=by omega
    obtain⟨d,hd⟩:∃ d,tx[j]? = some d:=⟨_,List.getElem?_eq_getElem hjl⟩
    have hat:atBl (tx.drop j)=isBl d:=by rw [drop_get hd];rfl
    have hdj:tx[j]=d:=(List.getElem?_eq_some_iff.1 hd).2
    rw [hat] at q3 q4
    simp [hus,hj0,hjl,hd,hdj]
    refine xcall (ov_none (by decide)) (rblank_ok _ d) ?_ (fun ch m' h=>h.elim)
    rintro r m4 ⟨rfl,rfl⟩
    cases hbd:isBl d with
    |true =>
     simp [hus]
     subst hQ
     refine xno (by simp [hus]) (xskip ?_)
     exact⟨rfl,rfl,j,q1,q2,fun _=>q3 hbd,Sl.mk rfl (by simp [hus])⟩
    |false =>
     simp [hus]
     subst hQ
     refine xyes (by simp [hus]) ?_
     refine xsr fun Q' hQ=>?_
     simp [hus]
     subst hQ
     exact xret (fail (q4 hbd) (Sl.mk rfl (by simp [hus])))
   ·have hjl':¬ (j:Int)<(tx.length:Int):=by omega
    have hat:atBl (tx.drop j)=true:=by rw [List.drop_eq_nil_of_le (by omega)];rfl
    simp [hus,hj0,hjl]
    subst hQ
    refine xno (by simp [hus]) (xskip ?_)
    exact⟨rfl,rfl,j,q1,q2,fun _=>q3 hat,Sl.mk rfl (by simp [hus])⟩
 ·have h34':¬ (c.toNat:Int)=34:=fun e=>h34 ((u8i (n:=34) (by omega)).1 e)
  simp [hus,hc,h34']
  subst hQ
  refine xno (by simp [hus]) ?_
  have start:¬ (acc=[]∧c=35)→splitGo (tx.drop k) acc none false false=splitGo (tx.drop (k+1)) acc (some [c]) false false:=fun h=>by
   have e34:(c==34)=false:=by simpa using h34
   rw [drop_get hc,splitGo_cons];simp only [hb,e34,if_neg h];rfl
  refine xblock (xwhile (N:=tx.length-k) (I:=fun q l ds m3=>∃ j:Nat,q=tx.length-j∧k≤j∧j≤tx.length∧ds=[]∧m3=m2∧(k<j→¬ (acc=[]∧c=35)→splitGo (tx.drop k) acc none false false=splitGo (tx.drop j) acc (some (piece tx k j)) false false)∧Sl [.string ⟨⟨tx⟩⟩,undef,.slice none 0 0,.bool false,v,.int .i64 (k:Nat),.int .i64 (j:Nat)] 56 l) ?_ ?_)
  ·exact⟨k,rfl,Nat.le_refl _,by omega,rfl,rfl,fun h=>absurd h (Nat.lt_irrefl _),Sl.mk rfl (by simp [hus])⟩
  clear hus
  rintro q l ds m3 ⟨j,rfl,hkj,hjl,rfl,rfl,hsp,us,hus,rfl⟩
  refine xseq (xseq (xregQ fun Q' hQ=>?_))
  have out:k<j→atBl (tx.drop j)=true→¬ (acc=[]∧c=35)→splitGo (tx.drop k) acc none false false=splitGo (tx.drop j) (acc++[piece tx k j]) none false false:=fun h1 h2 h3=>by
   rw [hsp h1 h3,splitGo_end _ _ _ h2]
  by_cases hjn:j<tx.length
  ·have hjn':(j:Int)<(tx.length:Int):=by omega
   obtain⟨d,hd⟩:∃ d,tx[j]? = some d:=⟨_,List.getElem?_eq_getElem hjn⟩
   have hat:atBl (tx.drop j)=isBl d:=by rw [drop_get hd];rfl
   have hdj:tx[j]=d:=(List.getElem?_eq_some_iff.1 hd).2
   simp [hus,hjn,hd,hdj]
   refine xcall (ov_none (by decide)) (rblank_ok _ d) ?_ (fun ch m' h=>h.elim)
   rintro r m4 ⟨rfl,rfl⟩
   cases hbd:isBl d with
   |true =>
    simp [hus]
    subst hQ
    refine xif (v:=false) (by simp [hus]) (fun h=>by cases h) (fun _=>xexit ?_)
    have hne:k≠j:=fun e=>by
     subst e;rw [hc] at hd;obtain rfl:=Option.some.inj hd;rw [hb] at hbd;cases hbd
    exact⟨rfl,rfl,j,by omega,hjl,out (by omega) (by rw [hat,hbd]),Sl.mk rfl (by simp [hus])⟩
   |false =>
    simp [hus]
    subst hQ
    refine xyes (by simp [hus]) (xskip ?_)
    rw [thenA_normal]
    obtain⟨j1,hj1⟩:∃ j1,j1=j+1:=⟨_,rfl⟩
    have hwj:IntKind.wrap .i64 ((j:Int)+1)=(j1:Int):=by rw [wr64 _ (by omega) (by omega)];omega
    refine xblock (xregQ fun Q' hQ=>?_)
    simp [hus,hwj]
    subst hQ
    refine⟨tx.length-j1,by omega,j1,rfl,by omega,by omega,rfl,rfl,fun _ h3=>?_,Sl.mk rfl (by simp [hus])⟩
    by_cases hkj2:k<j
    ·rw [hsp hkj2 h3,drop_get hd,splitGo_cons,hj1,piece_snoc hkj hd];simp [hbd]
    ·obtain rfl:k=j:=by omega
     rw [start h3,hj1,piece_one hc]
  ·have hjn':¬ (j:Int)<(tx.length:Int):=by omega
   simp [hus,hjn]
   subst hQ
   refine xif (v:=false) (by simp [hus]) (fun h=>by cases h) (fun _=>xexit ?_)
   exact⟨rfl,rfl,j,by omega,hjl,out (by omega) (by rw [List.drop_eq_nil_of_le (by omega)];rfl),Sl.mk rfl (by simp [hus])⟩
end Go.Proofs.YtgmkbdmgifdfeaaGreatDoor

set_option maxRecDepth 8000
namespace Go.Proofs.YtgmkbdmgifdfeaaGreatDoor
open Go Go.Ev
def preL (w:List UInt8):List (List UInt8)→List (List UInt8)
 |x::r=>(w++x)::r
 | []=>[w]
theorem preL_nil {l:List (List UInt8)} (h:l≠[]):preL [] l=l:=by cases l with|nil=>cases h rfl|cons x r=>rfl
theorem preL_pre (w v:List UInt8) (l:List (List UInt8)):preL w (preL v l)=preL (w++v) l:=by cases l<;>simp [preL]
theorem cutLines_cons (c:UInt8) (r:List UInt8) (h:c≠10):cutLines (c::r)=preL [c] (cutLines r):=by
 rw [cutLines,if_neg h];cases cutLines r<;>rfl
theorem cutLines_nl (r:List UInt8):cutLines (10::r)=[]::cutLines r:=by rw [cutLines];rfl
theorem piece_self (tx:List UInt8) (k:Nat):piece tx k k=[]:=by unfold piece;simp
theorem piece_all (tx:List UInt8) (f:Nat):piece tx f tx.length=tx.drop f:=by unfold piece;rw [List.take_of_length_le];simp
structure LnI (m0:Mem) (tx:List UInt8) (f k:Nat) (m:Mem) (o:List (List UInt8)) (v:Value):Prop where
 fk:f≤k
 le:k≤tx.length
 old:Old m0.next m0 m
 own:Own m0.next m v 9 o.length (strsV o)
 al:o.length≤k
 sp:cutLines tx=o++preL (piece tx f k) (cutLines (tx.drop k))
def LinesR (tx:List UInt8) (m:Mem) (r:Value) (m':Mem):Prop :=
 Own m.next m' r 9 (cutLines tx).length (strsV (cutLines tx))∧Old m.next m m'∧(cutLines tx).length≤tx.length+1
theorem rlines_ok {m:Mem} {tx:List UInt8} (hlen:tx.length≤2000000):CallsA tb 41 [.string ⟨⟨tx⟩⟩] m (retR (LinesR tx m)):=by
 refine callsS Tryz.func41 e41 rfl rfl ?_
 simp only [s41,List.replicate,List.length_cons,List.length_nil,List.cons_append,List.nil_append,Nat.reduceAdd,Nat.reduceSub]
 refine xsr fun Q' hQ=>?_
 simp
 subst hQ
 refine xsr fun Q' hQ=>?_
 simp
 subst hQ
 refine xsr fun Q' hQ=>?_
 simp
 subst hQ
 refine xseqN (fun l ds m1=>ds=[]∧∃ (f:Nat) (o:List (List UInt8)) (v x5:Value),LnI m tx f tx.length m1 o v∧Sl [.string ⟨⟨tx⟩⟩,undef,.slice none 0 0,v,.int .i64 (f:Nat),x5] 25 l) ?_ ?_
 ·rintro l ds m1 ⟨rfl,f,o,v,x5,S,ts,hts,rfl⟩
  have hal:o.length≤2000000:=by have:=S.al;omega
  obtain⟨aw,v',m5,rfl,g1,g2,g3,g4⟩:=app1s S.own S.old.1 (piece tx f tx.length)
  have hpc:tx.drop f=piece tx f tx.length:=(piece_all _ _).symm
  have hpc2:(tx.drop f).take (tx.length-f)=piece tx f tx.length:=rfl
  have hf:=S.fk
  have hct:cutLines tx=o++[piece tx f tx.length]:=by
   have:=S.sp
   rw [List.drop_length] at this
   rw [this];simp [cutLines,preL]
  refine xsr fun Q' hQ=>?_
  simp [hts,hf,hpc2,fits_true _ o.length o.length 1 16 (by omega),g1]
  subst hQ
  refine xret ⟨rfl,_,resX_one _,?_,S.old.trans g3,?_⟩
  ·rw [hct];simp [hts];simpa using g2
  ·rw [hct];have:=S.al;simp;omega
 refine xsr fun Q' hQ=>?_
 simp
 subst hQ
 refine xblock (xwhile (N:=tx.length) (I:=fun q l ds m1=>∃ (k f:Nat) (o:List (List UInt8)) (v:Value),q=tx.length-k∧ds=[]∧LnI m tx f k m1 o v∧Sl [.string ⟨⟨tx⟩⟩,undef,.slice none 0 0,v,.int .i64 (f:Nat),.int .i64 (k:Nat)] 25 l) ?_ ?_)
 ·exact⟨0,0,[],.slice none 0 0,rfl,rfl,⟨by omega,by omega,Old.refl _ _,.inl ⟨rfl,rfl,rfl⟩,by simp,by rw [piece_self,List.drop_zero,preL_nil (cutLines_ne tx)];rfl⟩,Sl.mk rfl rfl⟩
 rintro q l ds m1 ⟨k,f,o,v,rfl,rfl,S,us,hus,rfl⟩
 refine xseq (xseq (xregQ fun Q' hQ=>?_))
 simp [hus]
 subst hQ
 refine xif (v:=decide ((k:Int)<(tx.length:Int))) (by simp [hus]) (fun h=>xskip ?_) (fun h=>xexit ?_)
 rotate_left
 ·simp only [decide_eq_false_iff_not] at h
  obtain rfl:k=tx.length:=by have:=S.le;omega
  exact⟨rfl,f,o,v,_,S,Sl.mk rfl (by simp [hus])⟩
 simp only [decide_eq_true_eq] at h
 have hkl:k<tx.length:=by omega
 obtain⟨c,hc⟩:∃ c,tx[k]? = some c:=⟨_,List.getElem?_eq_getElem hkl⟩
 rw [thenA_normal]
 obtain⟨k1,hk1⟩:∃ k1,k1=k+1:=⟨_,rfl⟩
 have hw1:IntKind.wrap .i64 ((k:Int)+1)=(k1:Int):=by rw [wr64 _ (by omega) (by omega)];omega
 have hfk:=S.fk
 have hal:=S.al
 refine xseqN (fun l ds m'=>ds=[]∧∃ (f:Nat) (o:List (List UInt8)) (v:Value),LnI m tx f k1 m' o v∧Sl [.string ⟨⟨tx⟩⟩,undef,.slice none 0 0,v,.int .i64 (f:Nat),.int .i64 (k:Nat)] 25 l) ?_ ?_
 ·rintro l ds m3 ⟨rfl,f,o,v,S,vs,hvs,rfl⟩
  refine xregQ fun Q' hQ=>?_
  simp [hvs,hw1]
  subst hQ
  exact⟨tx.length-k1,by omega,k1,f,o,v,rfl,rfl,S,Sl.mk rfl (by simp [hvs])⟩
 refine xblock (xseq (xregQ fun Q' hQ=>?_))
 by_cases h10:c=10
 ·subst h10
  simp [hus,hc]
  subst hQ
  refine xyes (by simp [hus]) ?_
  obtain⟨aw,v',m5,rfl,g1,g2,g3,g4⟩:=app1s S.own S.old.1 (piece tx f k)
  have hpc:(tx.drop f).take (k-f)=piece tx f k:=rfl
  have hkl2:k≤tx.length:=by omega
  refine xsr fun Q' hQ=>?_
  simp [hus,hfk,hkl2,hpc,fits_true _ o.length o.length 1 16 (by omega),g1]
  subst hQ
  refine xregQ fun Q' hQ=>?_
  simp [hus,hw1]
  subst hQ
  refine⟨rfl,k1,o++[piece tx f k],v',⟨Nat.le_refl _,by omega,S.old.trans g3,by simpa using g2,by simp;omega,?_⟩,Sl.mk rfl (by simp [hus])⟩
  rw [S.sp,drop_get hc,cutLines_nl,piece_self,preL_nil (cutLines_ne _),hk1];simp [preL]
 ·have h10':¬ (c.toNat:Int)=10:=fun e=>h10 ((u8i (n:=10) (by omega)).1 e)
  simp [hus,hc,h10']
  subst hQ
  refine xno (by simp [hus]) (xskip ?_)
  refine⟨rfl,f,o,v,⟨by omega,by omega,S.old,S.own,by omega,?_⟩,Sl.mk rfl (by simp [hus])⟩
  rw [S.sp,drop_get hc,cutLines_cons _ _ h10,preL_pre,hk1,piece_snoc hfk hc]
end Go.Proofs.YtgmkbdmgifdfeaaGreatDoor

set_option maxRecDepth 8000
namespace Go.Proofs.YtgmkbdmgifdfeaaGreatDoor
open Go Go.Ev
theorem piece_cons {tx:List UInt8} {k j:Nat} {c:UInt8} (h:tx[k]? = some c) (hj:k<j):piece tx k j=c::piece tx (k+1) j:=by
 unfold piece;rw [drop_get h]
 obtain⟨d,rfl⟩:∃ d,j=k+1+d:=⟨j-(k+1),by omega⟩
 rw [show k+1+d-k=d+1 by omega,show k+1+d-(k+1)=d by omega];rfl
theorem piece_nil {tx:List UInt8} {k j:Nat} (h:j≤k):piece tx k j=[]:=by
 unfold piece;rw [show j-k=0 by omega];rfl
def TextR (w:List UInt8) (m:Mem) (r:Value) (m':Mem):Prop :=
 ∃ v ok,r=.tuple ⟨[v,.bool ok]⟩∧Old m.next m m'∧(ok=true→∃ s,textOf w=some s∧Own m.next m' v 5 s.length (u8s s)∧s.length≤2000000)∧(ok=false→textOf w=none∧v=.slice none 0 0)
theorem hexI_neg {c:UInt8}:hexI c<0↔hexOf c=none:=by
 unfold hexI;cases hexOf c with
 |none=>simp
 |some x=>simp
theorem hexI_some {c:UInt8} {x:Nat} (h:hexOf c=some x):hexI c=(x:Int):=by unfold hexI;rw [h]
theorem runquote_ok {m:Mem} {w:List UInt8} (hlen:w.length≤2000000):CallsA tb 113 [.string ⟨⟨w⟩⟩] m (retR (TextR w m)):=by
 refine callsS Tryz.func113 e113 rfl rfl ?_
 simp only [s113,List.replicate,List.length_cons,List.length_nil,List.cons_append,List.nil_append,Nat.reduceAdd,Nat.reduceSub]
 refine xsr fun Q' hQ=>?_
 simp
 subst hQ
 refine xsr fun Q' hQ=>?_
 simp
 subst hQ
 obtain⟨N,hN⟩:∃ N,w.length=N:=⟨_,rfl⟩
 refine xsr fun Q' hQ=>?_
 simp [hN]
 subst hQ
 have no:∀ {m':Mem},Old m.next m m'→textOf w=none→∀ {l:List Value} {x4 x5:Value} {n:Nat},Sl [.string ⟨⟨w⟩⟩,undef,.slice none 0 0,.bool false,x4,x5] n l→endX tb Tryz.f113.results.toList (retR (TextR w m)) (.jump .ret) l [] m':=by
  rintro m' hO hno l x4 x5 n ⟨ts,hts,rfl⟩
  exact⟨rfl,_,resX_two _ _,_,false,rfl,hO,(fun h=>by cases h),fun _=>⟨hno,rfl⟩⟩
 refine xseqN (fun l ds m'=>ds=[]∧m'=m∧(2≤w.length∧w.head? = some 34∧w.getLast? = some 34)∧Sl [.string ⟨⟨w⟩⟩,undef,.slice none 0 0,.bool false,.slice none 0 0,.int .i64 (N:Nat)] 116 l) ?_ ?_
 rotate_left
 ·refine xsr fun Q' hQ=>?_
  by_cases h2:2≤N
  ·have h2':¬ (N:Int)<2:=by omega
   obtain⟨n,hn⟩:∃ n,n+1=N:=⟨N-1,by omega⟩
   have hw1:IntKind.wrap .i64 ((N:Int)-1)=(n:Int):=by rw [wr64 _ (by omega) (by omega)];omega
   obtain⟨c,hc⟩:∃ c,w[0]? = some c:=⟨_,List.getElem?_eq_getElem (by omega)⟩
   obtain⟨d,hd⟩:∃ d,w[n]? = some d:=⟨_,List.getElem?_eq_getElem (by omega)⟩
   have hlast:w.getLast? = some d:=by rw [List.getLast?_eq_getElem?,← hd];congr 1;omega
   have hhead:w.head? = some c:=by rw [List.head?_eq_getElem?];exact hc
   by_cases hc1:c=34
   ·subst hc1
    by_cases hd1:d=34
    ·subst hd1
     simp [h2',hc,hw1,hd]
     subst hQ
     refine xno (by simp) (xskip ?_)
     exact⟨rfl,rfl,⟨by omega,hhead,hlast⟩,Sl.mk rfl rfl⟩
    ·have hd2:¬ (d.toNat:Int)=34:=fun e=>hd1 ((u8i (n:=34) (by omega)).1 e)
     simp [h2',hc,hw1,hd,hd2]
     subst hQ
     refine xyes (by simp) ?_
     refine xsr fun Q' hQ=>?_
     simp
     subst hQ
     refine xret (no (Old.refl _ _) ?_ (Sl.mk (n:=116) rfl rfl))
     unfold textOf;rw [if_neg];rintro⟨_,_,h3⟩;rw [hlast] at h3;exact hd1 (Option.some.inj h3)
   ·have hc2:¬ (c.toNat:Int)=34:=fun e=>hc1 ((u8i (n:=34) (by omega)).1 e)
    simp [h2',hc,hw1,hc2]
    subst hQ
    refine xyes (by simp) ?_
    refine xsr fun Q' hQ=>?_
    simp
    subst hQ
    refine xret (no (Old.refl _ _) ?_ (Sl.mk (n:=116) rfl rfl))
    unfold textOf;rw [if_neg];rintro⟨_,h3,_⟩;rw [hhead] at h3;exact hc1 (Option.some.inj h3)
  ·have h2':(N:Int)<2:=by omega
   simp [h2']
   subst hQ
   refine xyes (by simp) ?_
   refine xsr fun Q' hQ=>?_
   simp
   subst hQ
   refine xret (no (Old.refl _ _) ?_ (Sl.mk (n:=116) rfl rfl))
   unfold textOf;rw [if_neg];rintro⟨h3,_⟩;omega
 rintro l ds m1 ⟨rfl,rfl,hq,ts,hts,rfl⟩
 have hN2:2≤N:=by have:=hq.1;omega
 obtain⟨n,hn⟩:∃ n,n+1=N:=⟨N-1,by omega⟩
 have htx:textOf w=unqGo (piece w 1 n):=by
  unfold textOf;rw [if_pos hq];congr 1
  unfold piece;rw [List.dropLast_eq_take];congr 1;simp;omega
 have hwn:IntKind.wrap .i64 ((N:Int)-1)=(n:Int):=by rw [wr64 _ (by omega) (by omega)];omega
 refine xsr fun Q' hQ=>?_
 simp [hts]
 subst hQ
 refine xseqN (fun l ds m'=>ds=[]∧∃ (o:List UInt8) (v x6:Value),Old m1.next m1 m'∧Own m1.next m' v 5 o.length (u8s o)∧o.length≤n∧textOf w=some o∧Sl [.string ⟨⟨w⟩⟩,undef,.slice none 0 0,.bool false,v,.int .i64 (N:Nat),x6] 115 l) ?_ ?_
 ·rintro l ds m2 ⟨rfl,o,v,x6,hO,hown,hol,ht,us,hus,rfl⟩
  refine xsr fun Q' hQ=>?_
  simp [hus]
  subst hQ
  exact xret ⟨rfl,_,resX_two _ _,v,true,by simp [hus],hO,(fun _=>⟨o,ht,hown,by omega⟩),fun h=>by cases h⟩
 obtain⟨y6,ts2,rfl,hts2⟩:=ln_succ (n:=115) hts
 refine xblock (xwhile (N:=n-1) (I:=fun q l ds m2=>∃ (k:Nat) (o:List UInt8) (v:Value),q=n-k∧1≤k∧k≤n∧ds=[]∧Old m1.next m1 m2∧Own m1.next m2 v 5 o.length (u8s o)∧o.length≤k∧textOf w=(unqGo (piece w k n)).map (o ++ ·)∧Sl [.string ⟨⟨w⟩⟩,undef,.slice none 0 0,.bool false,v,.int .i64 (N:Nat),.int .i64 (k:Nat)] 115 l) ?_ ?_)
 ·exact⟨1,[],.slice none 0 0,rfl,by omega,by omega,rfl,Old.refl _ _,.inl ⟨rfl,rfl,rfl⟩,by simp,by rw [htx];simp,Sl.mk rfl (by simp [hts2])⟩
 clear hts hts2
 rintro q l ds m2 ⟨k,o,v,rfl,hk1,hkn,rfl,hO,hown,hok,htk,us,hus,rfl⟩
 refine xseq (xseq (xregQ fun Q' hQ=>?_))
 simp [hus,hwn]
 subst hQ
 refine xif (v:=decide ((k:Int)<(n:Int))) (by simp [hus]) (fun h=>xskip ?_) (fun h=>xexit ?_)
 rotate_left
 ·simp only [decide_eq_false_iff_not] at h
  obtain rfl:k=n:=by omega
  rw [piece_self] at htk
  exact⟨rfl,o,v,_,hO,hown,hok,by rw [htk,unqGo];simp,Sl.mk rfl (by simp [hus])⟩
 simp only [decide_eq_true_eq] at h
 have hkl:k<n:=by omega
 obtain⟨c,hc⟩:∃ c,w[k]? = some c:=⟨_,List.getElem?_eq_getElem (by omega)⟩
 rw [thenA_normal]
 rw [piece_cons hc hkl] at htk
 obtain⟨y7,us2,rfl,hus2⟩:=ln_succ (n:=114) hus
 obtain⟨k1,hk1'⟩:∃ k1,k1=k+1:=⟨_,rfl⟩
 have hw1:IntKind.wrap .i64 ((k:Int)+1)=(k1:Int):=by rw [wr64 _ (by omega) (by omega)];omega
 obtain⟨k2,hk2'⟩:∃ k2,k2=k+2:=⟨_,rfl⟩
 have hw2:IntKind.wrap .i64 ((k:Int)+2)=(k2:Int):=by rw [wr64 _ (by omega) (by omega)];omega
 obtain⟨k3,hk3'⟩:∃ k3,k3=k+3:=⟨_,rfl⟩
 have hw3:IntKind.wrap .i64 ((k:Int)+3)=(k3:Int):=by rw [wr64 _ (by omega) (by omega)];omega
 refine xblock (xseq (xregQ fun Q' hQ=>?_))
 simp [hus2,hc]
 subst hQ
 refine xseqN (fun l ds m'=>ds=[]∧m'=m2∧(32≤c.toNat∧c.toNat≤126∧c≠34)∧Sl [.string ⟨⟨w⟩⟩,undef,.slice none 0 0,.bool false,v,.int .i64 (N:Nat),.int .i64 (k:Nat),.int .u8 (c.toNat:Int)] 114 l) ?_ ?_
 rotate_left
 ·have hno:¬ (32≤c.toNat∧c.toNat≤126∧c≠34)→textOf w=none:=fun e=>by rw [htk,unq_bad _ e];rfl
  refine xsr fun Q' hQ=>?_
  by_cases h1:32≤c.toNat
  ·have h1':¬ (c.toNat:Int)<32:=by omega
   by_cases h2:c.toNat≤126
   ·have h2':¬ (126:Int)<(c.toNat:Int):=by omega
    by_cases h3:c=34
    ·subst h3
     simp [hus2]
     subst hQ
     refine xyes (by simp [hus2]) ?_
     refine xsr fun Q' hQ=>?_
     simp [hus2]
     subst hQ
     exact xret (no hO (hno (by simp)) (Sl.mk (n:=116) rfl (by simp [hus2])))
    ·have h3':¬ (c.toNat:Int)=34:=fun e=>h3 ((u8i (n:=34) (by omega)).1 e)
     simp [hus2,h1',h2',h3']
     subst hQ
     refine xno (by simp [hus2]) (xskip ?_)
     exact⟨rfl,rfl,⟨h1,h2,h3⟩,Sl.mk rfl (by simp [hus2])⟩
   ·have h2':(126:Int)<(c.toNat:Int):=by omega
    simp [hus2,h1',h2']
    subst hQ
    refine xyes (by simp [hus2]) ?_
    refine xsr fun Q' hQ=>?_
    simp [hus2]
    subst hQ
    exact xret (no hO (hno fun e=>h2 e.2.1) (Sl.mk (n:=116) rfl (by simp [hus2])))
  ·have h1':(c.toNat:Int)<32:=by omega
   simp [hus2,h1']
   subst hQ
   refine xyes (by simp [hus2]) ?_
   refine xsr fun Q' hQ=>?_
   simp [hus2]
   subst hQ
   exact xret (no hO (hno fun e=>h1 e.1) (Sl.mk (n:=116) rfl (by simp [hus2])))
 clear hus2 hus
 rintro l ds m3 ⟨rfl,rfl,hrg,us,hus,rfl⟩
 have again:∀ {m4:Mem} {o':List UInt8} {v':Value} {j:Nat} {l:List Value} {n':Nat},k<j→j≤n→Old m1.next m1 m4→Own m1.next m4 v' 5 o'.length (u8s o')→o'.length≤j→textOf w=(unqGo (piece w j n)).map (o' ++ ·)→Sl [.string ⟨⟨w⟩⟩,undef,.slice none 0 0,.bool false,v',.int .i64 (N:Nat),.int .i64 (j:Nat)] 115 l →
   Inv (fun q l ds m2=>∃ (k:Nat) (o:List UInt8) (v:Value),q=n-k∧1≤k∧k≤n∧ds=[]∧Old m1.next m1 m2∧Own m1.next m2 v 5 o.length (u8s o)∧o.length≤k∧textOf w=(unqGo (piece w k n)).map (o ++ ·)∧Sl [.string ⟨⟨w⟩⟩,undef,.slice none 0 0,.bool false,v,.int .i64 (N:Nat),.int .i64 (k:Nat)] 115 l) (n-k) l [] m4:=by
  rintro m4 o' v' j l n' h1 h2 h3 h4 h5 h6 h7
  exact⟨n-j,by omega,j,o',v',rfl,by omega,h2,rfl,h3,h4,h5,h6,h7⟩
 refine xseqN (fun l ds m'=>ds=[]∧m'=m3∧c=92∧Sl [.string ⟨⟨w⟩⟩,undef,.slice none 0 0,.bool false,v,.int .i64 (N:Nat),.int .i64 (k:Nat),.int .u8 (c.toNat:Int)] 114 l) ?_ ?_
 rotate_left
 ·refine xsr fun Q' hQ=>?_
  by_cases h92:c=92
  ·subst h92
   simp [hus]
   subst hQ
   refine xno (by simp [hus]) (xskip ?_)
   exact⟨rfl,rfl,rfl,Sl.mk rfl (by simp [hus])⟩
  ·have h92':¬ (c.toNat:Int)=92:=fun e=>h92 ((u8i (n:=92) (by omega)).1 e)
   simp [hus,h92']
   subst hQ
   refine xyes (by simp [hus]) ?_
   obtain⟨aw,v',m5,rfl,g1,g2,g3⟩:=app1 hown hO.1 c
   refine xsr fun Q' hQ=>?_
   simp [hus,fits_true _ o.length o.length 1 1 (by omega),g1]
   subst hQ
   refine xsr fun Q' hQ=>?_
   simp [hus,hw1]
   subst hQ
   refine xexit (again (n':=0) (j:=k1) (by omega) (by omega) (hO.trans g3) g2 (by simp;omega) ?_ (Sl.mk rfl (by simp [hus])))
   rw [htk,unq_plain _ hrg h92,Option.map_map,hk1'];congr 1;funext x;simp
 clear hus
 rintro l ds m3 ⟨rfl,rfl,rfl,us,hus,rfl⟩
 refine xseqN (fun l ds m'=>ds=[]∧m'=m3∧k1<n∧Sl [.string ⟨⟨w⟩⟩,undef,.slice none 0 0,.bool false,v,.int .i64 (N:Nat),.int .i64 (k:Nat),.int .u8 92] 114 l) ?_ ?_
 rotate_left
 ·refine xsr fun Q' hQ=>?_
  by_cases hb:n≤k1
  ·simp [hus,hw1,hwn,hb]
   subst hQ
   refine xyes (by simp [hus]) ?_
   refine xsr fun Q' hQ=>?_
   simp [hus]
   subst hQ
   refine xret (no hO ?_ (Sl.mk (n:=116) rfl (by simp [hus])))
   rw [htk,piece_nil (by omega),unq_esc0];rfl
  ·simp [hus,hw1,hwn,hb]
   subst hQ
   refine xno (by simp [hus]) (xskip ?_)
   exact⟨rfl,rfl,by omega,Sl.mk rfl (by simp [hus])⟩
 clear hus
 rintro l ds m3 ⟨rfl,rfl,hk1n,us,hus,rfl⟩
 obtain⟨d,hd⟩:∃ d,w[k1]? = some d:=⟨_,List.getElem?_eq_getElem (by omega)⟩
 have hd':w[k+1]? = some d:=by rw [← hk1'];exact hd
 rw [piece_cons hd' (by omega),unq_esc] at htk
 refine xseqN (fun l ds m'=>ds=[]∧∃ (j:Nat) (o:List UInt8) (v:Value),k≤j∧j+2≤n∧Old m1.next m1 m'∧Own m1.next m' v 5 o.length (u8s o)∧o.length≤j+1∧textOf w=(unqGo (piece w (j+2) n)).map (o ++ ·)∧Sl [.string ⟨⟨w⟩⟩,undef,.slice none 0 0,.bool false,v,.int .i64 (N:Nat),.int .i64 (j:Nat)] 115 l) ?_ ?_
 ·rintro l ds m4 ⟨rfl,j,o,v,hj1,hj2,hO,hown,hok,hun,us,hus,rfl⟩
  refine xregQ fun Q' hQ=>?_
  obtain⟨j2,hj⟩:∃ j2,j2=j+2:=⟨_,rfl⟩
  have hw2:IntKind.wrap .i64 ((j:Int)+2)=(j2:Int):=by rw [wr64 _ (by omega) (by omega)];omega
  simp [hus,hw2]
  subst hQ
  exact again (n':=0) (by omega) (by omega) hO hown (by omega) (by rw [hun,hj]) (Sl.mk rfl (by simp [hus]))
 refine xsr fun Q' hQ=>?_
 simp [hus,hw1,hd]
 subst hQ
 have one:∀ (e:UInt8),textOf w=((unqGo (piece w (k+1+1) n)).map (e :: ·)).map (o ++ ·)→textOf w=(unqGo (piece w (k+2) n)).map ((o++[e]) ++ ·):=fun e he=>by
  rw [he,Option.map_map];congr 1;funext x;simp
 refine xblock (xseq (xregQ fun Q' hQ=>?_))
 by_cases d110:d=110
 ·subst d110
  simp [hus]
  subst hQ
  refine xyes (by simp [hus]) ?_
  obtain⟨aw,v',m5,rfl,g1,g2,g3⟩:=app1 hown hO.1 10
  simp at g1
  refine xregQ fun Q' hQ=>?_
  simp [hus,fits_true _ o.length o.length 1 1 (by omega),g1]
  subst hQ
  exact⟨rfl,k,o++[10],v',Nat.le_refl _,by omega,hO.trans g3,g2,by simp;omega,one 10 (by simpa using htk),Sl.mk rfl (by simp [hus])⟩
 have d110':¬ (d.toNat:Int)=110:=fun e=>d110 ((u8i (n:=110) (by omega)).1 e)
 rw [if_neg d110] at htk
 simp [hus,d110']
 subst hQ
 refine xno (by simp [hus]) ?_
 refine xsr fun Q' hQ=>?_
 by_cases d116:d=116
 ·subst d116
  simp [hus]
  subst hQ
  refine xyes (by simp [hus]) ?_
  obtain⟨aw,v',m5,rfl,g1,g2,g3⟩:=app1 hown hO.1 9
  simp at g1
  refine xregQ fun Q' hQ=>?_
  simp [hus,fits_true _ o.length o.length 1 1 (by omega),g1]
  subst hQ
  exact⟨rfl,k,o++[9],v',Nat.le_refl _,by omega,hO.trans g3,g2,by simp;omega,one 9 (by simpa using htk),Sl.mk rfl (by simp [hus])⟩
 have d116':¬ (d.toNat:Int)=116:=fun e=>d116 ((u8i (n:=116) (by omega)).1 e)
 rw [if_neg d116] at htk
 simp [hus,d116']
 subst hQ
 refine xno (by simp [hus]) ?_
 by_cases dqb:d=34∨d=92
 ·rw [if_pos dqb] at htk
  refine xseqN (fun l ds m'=>ds=[]∧m'=m3∧∃ us:List Value,evL l (.tmp 68)=.bool true∧Sl [.string ⟨⟨w⟩⟩,undef,.slice none 0 0,.bool false,v,.int .i64 (N:Nat),.int .i64 (k:Nat),.int .u8 92] 114 l) ?_ ?_
  rotate_left
  ·refine xsr fun Q' hQ=>?_
   by_cases d34:d=34
   ·subst d34
    simp [hus]
    subst hQ
    refine xyes (by simp [hus]) (xskip ?_)
    exact⟨rfl,rfl,[],by simp [hus],Sl.mk rfl (by simp [hus])⟩
   ·have d34':¬ (d.toNat:Int)=34:=fun e=>d34 ((u8i (n:=34) (by omega)).1 e)
    have d92:d=92:=dqb.resolve_left d34
    simp [hus,d34']
    subst hQ
    refine xno (by simp [hus]) ?_
    refine xregQ fun Q' hQ=>?_
    subst d92
    simp [hus]
    subst hQ
    exact⟨rfl,rfl,[],by simp [hus],Sl.mk rfl (by simp [hus])⟩
  clear hus
  rintro l ds m3 ⟨rfl,rfl,-,h68,us,hus,rfl⟩
  refine xif (v:=true) h68 (fun _=>?_) (fun h=>by cases h)
  obtain⟨aw,v',m5,rfl,g1,g2,g3⟩:=app1 hown hO.1 d
  refine xregQ fun Q' hQ=>?_
  simp [hus,hw1,hd,fits_true _ o.length o.length 1 1 (by omega),g1]
  subst hQ
  exact⟨rfl,k,o++[d],v',Nat.le_refl _,by omega,hO.trans g3,g2,by simp;omega,one d htk,Sl.mk rfl (by simp [hus])⟩
 rw [if_neg dqb] at htk
 have d34:¬ d=34:=fun e=>dqb (.inl e)
 have d92:¬ d=92:=fun e=>dqb (.inr e)
 have d34':¬ (d.toNat:Int)=34:=fun e=>d34 ((u8i (n:=34) (by omega)).1 e)
 have d92':¬ (d.toNat:Int)=92:=fun e=>d92 ((u8i (n:=92) (by omega)).1 e)
 refine xseq (xseq (xregQ fun Q' hQ=>?_))
 simp [hus,d34']
 subst hQ
 refine xno (by simp [hus]) ?_
 refine xregQ fun Q' hQ=>?_
 simp [hus,d92']
 subst hQ
 rw [thenA_normal]
 refine xno (by simp [hus]) ?_
 refine xsr fun Q' hQ=>?_
 by_cases d120:d=120
 rotate_left
 ·rw [if_neg d120] at htk
  have d120':¬ (d.toNat:Int)=120:=fun e=>d120 ((u8i (n:=120) (by omega)).1 e)
  simp [hus,d120']
  subst hQ
  refine xno (by simp [hus]) ?_
  refine xsr fun Q' hQ=>?_
  simp [hus]
  subst hQ
  exact xret (no hO (by rw [htk];rfl) (Sl.mk (n:=116) rfl (by simp [hus])))
 subst d120
 rw [if_pos rfl] at htk
 simp [hus]
 subst hQ
 refine xyes (by simp [hus]) ?_
 refine xseqN (fun l ds m'=>ds=[]∧m'=m3∧k3<n∧(∃ (a b:UInt8) (x y:Nat),w[k2]? = some a∧w[k3]? = some b∧hexOf a=some x∧hexOf b=some y)∧Sl [.string ⟨⟨w⟩⟩,undef,.slice none 0 0,.bool false,v,.int .i64 (N:Nat),.int .i64 (k:Nat),.int .u8 92] 114 l) ?_ ?_
 rotate_left
 ·refine xsr fun Q' hQ=>?_
  by_cases hb:n≤k3
  ·simp [hus,hw3,hwn,hb]
   subst hQ
   refine xyes (by simp [hus]) ?_
   refine xsr fun Q' hQ=>?_
   simp [hus]
   subst hQ
   refine xret (no hO ?_ (Sl.mk (n:=116) rfl (by simp [hus])))
   rw [htk]
   by_cases hb2:k2<n
   ·obtain⟨a,ha⟩:∃ a,w[k+1+1]? = some a:=⟨_,List.getElem?_eq_getElem (by omega)⟩
    rw [piece_cons ha (by omega),piece_nil (by omega)];rfl
   ·rw [piece_nil (by omega)];rfl
  ·obtain⟨a,ha⟩:∃ a,w[k2]? = some a:=⟨_,List.getElem?_eq_getElem (by omega)⟩
   obtain⟨b,hb'⟩:∃ b,w[k3]? = some b:=⟨_,List.getElem?_eq_getElem (by omega)⟩
   have ha2:w[k+1+1]? = some a:=by rw [← ha];congr 1;omega
   have hb2:w[k+1+1+1]? = some b:=by rw [← hb'];congr 1;omega
   rw [piece_cons ha2 (by omega),piece_cons hb2 (by omega)] at htk
   simp only at htk
   simp [hus,hw3,hwn,hb,hw2,ha]
   refine xcall (ov_none (by decide)) (rdigit_ok _ a) ?_ (fun ch m' h=>h.elim)
   rintro r m4 ⟨rfl,rfl⟩
   cases hx:hexOf a with
   |none =>
    have hi:=hexI_neg.2 hx
    simp [hus,hi]
    subst hQ
    refine xyes (by simp [hus]) ?_
    refine xsr fun Q' hQ=>?_
    simp [hus]
    subst hQ
    refine xret (no hO ?_ (Sl.mk (n:=116) rfl (by simp [hus])))
    rw [htk,hx];rfl
   |some x =>
    have hi:¬ hexI a<0:=fun e=>by rw [hexI_neg.1 e] at hx;cases hx
    simp [hus,hi,hw3,hb']
    refine xcall (ov_none (by decide)) (rdigit_ok _ b) ?_ (fun ch m' h=>h.elim)
    rintro r m5 ⟨rfl,rfl⟩
    cases hy:hexOf b with
    |none =>
     have hi2:=hexI_neg.2 hy
     simp [hus,hi2]
     subst hQ
     refine xyes (by simp [hus]) ?_
     refine xsr fun Q' hQ=>?_
     simp [hus]
     subst hQ
     refine xret (no hO ?_ (Sl.mk (n:=116) rfl (by simp [hus])))
     rw [htk,hx,hy];rfl
    |some y =>
     have hi2:¬ hexI b<0:=fun e=>by rw [hexI_neg.1 e] at hy;cases hy
     simp [hus,hi2]
     subst hQ
     refine xno (by simp [hus]) (xskip ?_)
     exact⟨rfl,rfl,by omega,⟨a,b,x,y,ha,hb',hx,hy⟩,Sl.mk rfl (by simp [hus])⟩
 clear hus
 rintro l ds m3 ⟨rfl,rfl,hk3n,⟨a,b,x,y,ha,hb,hx,hy⟩,us,hus,rfl⟩
 have ha2:w[k+1+1]? = some a:=by rw [← ha];congr 1;omega
 have hb2:w[k+1+1+1]? = some b:=by rw [← hb];congr 1;omega
 rw [piece_cons ha2 (by omega),piece_cons hb2 (by omega)] at htk
 simp only [hx,hy] at htk
 have hx16:=hexOf_lt hx
 have hy16:=hexOf_lt hy
 obtain⟨c8,hc8⟩:∃ c8,c8=UInt8.ofNat (16*x+y):=⟨_,rfl⟩
 have hc8n:c8.toNat=16*x+y:=by rw [hc8,UInt8.toNat_ofNat_of_lt' (by show _<256;omega)]
 obtain⟨z,hz⟩:∃ z,z=16*x:=⟨_,rfl⟩
 obtain⟨aw0,rfl⟩:=hown.shape
 refine xseq (xdrw 6 fun Q' hQ=>?_)
 simp [hus,hw2,ha,hw3,hb]
 refine xcall (ov_none (by decide)) (rdigit_ok _ a) ?_ (fun ch m' h=>h.elim)
 rintro r m4 ⟨rfl,rfl⟩
 have w1:IntKind.wrap .i64 (16*hexI a)=(z:Int):=by rw [hexI_some hx,wr64 _ (by omega) (by omega)];omega
 simp [hus,w1]
 refine xcall (ov_none (by decide)) (rdigit_ok _ b) ?_ (fun ch m' h=>h.elim)
 rintro r m5 ⟨rfl,rfl⟩
 have w2:IntKind.wrap .i64 ((z:Int)+hexI b)=(c8.toNat:Int):=by rw [hexI_some hy,wr64 _ (by omega) (by omega)];omega
 have w3:IntKind.wrap .u8 (c8.toNat:Int)=(c8.toNat:Int):=wru8 _ (by omega) (by omega)
 obtain⟨aw,v',m9,he,g1,g2,g3⟩:=app1 hown hO.1 c8
 cases he
 obtain⟨aw1,hv'⟩:=g2.shape
 subst hv'
 simp [hus,w1,w2,w3,hw2,hw3,fits_true _ o.length o.length 1 1 (by omega),g1]
 subst hQ
 refine xregQ fun Q' hQ=>?_
 simp [hus,hw2]
 subst hQ
 refine⟨rfl,k2,o++[c8],_,by omega,by omega,hO.trans g3,g2,by simp;omega,?_,Sl.mk ?_ (by simp [hus])⟩
 ·rw [htk,Option.map_map,← hc8,show k2+2=k+1+1+1+1 by omega];congr 1;funext x;simp
 ·simp
end Go.Proofs.YtgmkbdmgifdfeaaGreatDoor

set_option maxRecDepth 8000
namespace Go.Proofs.YtgmkbdmgifdfeaaGreatDoor
open Go Go.Ev
structure Fs where
 ints:List Int
 nats:List Int
 way:Int
 text:List UInt8
def fs0:Fs:=⟨[],[],0,[]⟩
def rdOne (c:UInt8) (w:List UInt8) (f:Fs):Option Fs :=
 if c=105 then (intOf w).map fun v => { f with ints:=f.ints++[v] }
 else if c=110 then (longOf w).map fun v => { f with nats:=f.nats++[v] }
 else if c=109 then (maskOf w).map fun v => { f with nats:=f.nats++[v] }
 else if c=119 then (wayOf w).map fun v => { f with way:=v }
 else if c=116 then (textOf w).map fun v => { f with text:=v }
 else none
def readGo:List UInt8→List (List UInt8)→Fs→Option Fs
 | [],[],f=>some f
 |c::cs,w::ws,f=>(rdOne c w f).bind (readGo cs ws)
 |_,_,_=>none
def readF (form:List UInt8) (ws:List (List UInt8)):Option Fs :=
 if form=[99] then (allInts ws).map fun l => { fs0 with ints:=l } else readGo form ws fs0
theorem readGo_len:∀ (cs:List UInt8) (ws:List (List UInt8)) (f:Fs),cs.length≠ws.length→readGo cs ws f=none
 | [],[],_,h=>absurd rfl h
 | [],_::_,_,_=>rfl
 |_::_,[],_,_=>rfl
 |c::cs,w::ws,f,h=>by
  rw [readGo]
  cases rdOne c w f with
  |none=>rfl
  |some g=>exact readGo_len cs ws g (by simpa using h)
def u64s (l:List Int):List Value:=l.map fun n=>.int .u64 n
@[simp] theorem u64s_length (l:List Int):(u64s l).length=l.length:=by simp [u64s]
theorem app1u {n0:Nat} {m:Mem} {v:Value} {o:List Int} (h:Own n0 m v 22 o.length (u64s o)) (hn:n0≤m.next) (c:Int) :
  ∃ aw v' m3,v=.slice aw o.length o.length∧appendTo (newObjA m (.row ⟨T.setL [.int .u64 c] 0 .lf,1,[.int .u64 0],22,.none,false⟩)) 22 1 (.slice aw o.length o.length) 1 [.int .u64 c]=some (v',m3)∧Own n0 m3 v' 22 (o++[c]).length (u64s (o++[c]))∧Old n0 m m3∧(∀ x,x<m.next→blkV v≠some x→m3.objs.get x=m.objs.get x):=by
 obtain⟨aw,rfl⟩:=h.shape
 obtain⟨v',m3,h5,h6,h7,h8,b,hb1,hb2⟩:=h.append (k:=0) (sz:=1) (new:=[.int .u64 c]) ((Old.refl _ m).new (Nat.le_refl _) (.row ⟨T.setL [.int .u64 c] 0 .lf,1,[.int .u64 0],22,.none,false⟩)) hn (by simp) (by simp) (by simp)
 have e1:u64s (o++[c])=u64s o++[.int .u64 c]:=by simp [u64s]
 exact⟨aw,v',m3,rfl,h5,by rw [e1,List.length_append];exact h6,((Old.refl n0 m).new hn _).trans h8,fun x hx hb=>by rw [h7.2 x (by rw [next_newObjA];omega) hb,get_newObjA,if_neg (by omega)]⟩
def FsAt (n0:Nat) (m:Mem) (p:Nat) (f:Fs):Prop :=
 ∃ vi vn vt,vw m p=some ⟨true,141,false,[vi,vn,.int .i64 f.way,vt]⟩∧Own n0 m vi 3 f.ints.length (i64s f.ints)∧Own n0 m vn 22 f.nats.length (u64s f.nats)∧Own n0 m vt 5 f.text.length (u8s f.text)
def FsV (n0:Nat) (m:Mem) (f:Fs) (v:Value):Prop :=
 ∃ vi vn vt,v=.agg ⟨[vi,vn,.int .i64 f.way,vt]⟩∧Own n0 m vi 3 f.ints.length (i64s f.ints)∧Own n0 m vn 22 f.nats.length (u64s f.nats)∧Own n0 m vt 5 f.text.length (u8s f.text)
theorem WordsV.get {m:Mem} {p:Nat} {v:Value} {ws:List (List UInt8)} (h:WordsV m p v ws) {k:Nat} {w:List UInt8} (hw:ws[k]? = some w) :
  ∃ b o all,v=.slice (some ⟨b,o,none⟩) ws.length ws.length∧b<p∧vw m b=some ⟨true,9,true,strsV all⟩∧(strsV all)[o+k]? = some (.string ⟨⟨w⟩⟩)∧o+k<all.length:=by
 obtain⟨hk,he⟩:=List.getElem?_eq_some_iff.1 hw
 rcases h with ⟨_,rfl⟩|⟨b,all,h1,h2,⟨o,rfl,h3⟩|⟨rfl,_⟩⟩
 ·simp at hk
 ·have h4:all[o+k]? = some w:=by rw [← List.getElem?_drop,← h3];exact hw
  exact⟨b,o,all,rfl,h1,h2,by rw [strsV_get,h4];rfl,(List.getElem?_eq_some_iff.1 h4).1⟩
 ·simp at hk
theorem WordsV.shape {m:Mem} {p:Nat} {v:Value} {ws:List (List UInt8)} (h:WordsV m p v ws):∃ a,v=.slice a ws.length ws.length:=by
 rcases h with ⟨rfl,rfl⟩|⟨b,all,h1,h2,⟨o,rfl,h3⟩|⟨rfl,o,k,rfl⟩⟩<;>exact⟨_,rfl⟩
theorem resX_ct {l:List Value} {m:Mem} {i j b:Nat} {t:TypeId} {v:Value} (h:gx l i=.pointer (some ⟨b,0,none⟩)) (hv:loadA tb t m b 0=some v):resX tb [.cell i t,.tmp j] l m=some (.tuple ⟨[v,gx l j]⟩):=by
 have h1:=slots_ofList l i
 have h2:=slots_ofList l j
 rw [gx_eq] at h1 h2
 simp only [ev] at h1 h2
 have h3:(T.ofList l).get i=some (.pointer (some ⟨b,0,none⟩)):=by
  cases hg:(T.ofList l).get i with
  |none=>rw [hg,h] at h1;cases h1
  |some x=>rw [hg,h] at h1;rw [show x=_ from h1]
 simp only [resX,resA,h3,oB,hv,h2]
structure RdI (m0 m:Mem) (f:Fs):Prop where
 old:Old m0.next m0 m
 nx:m0.next+2≤m.next
 p4:∃ a b c d,vw m m0.next=some ⟨true,141,false,[a,b,c,d]⟩
 fs:FsAt m0.next m (m0.next+1) f
theorem RdI.int1 {m0 m:Mem} {f:Fs} (h:RdI m0 m f) (c:Int):∃ aw vn vt aw1 m3,
  vw m (m0.next+1)=some ⟨true,141,false,[.slice aw f.ints.length f.ints.length,vn,.int .i64 f.way,vt]⟩ ∧
  appendTo (newObjA m (.row ⟨T.setL [.int .i64 c] 0 .lf,1,[.int .i64 0],3,.none,false⟩)) 3 1 (.slice aw f.ints.length f.ints.length) 1 [.int .i64 c]=some (.slice aw1 (f.ints.length+1) (f.ints.length+1),m3) ∧
  vw m3 (m0.next+1)=some ⟨true,141,false,[.slice aw f.ints.length f.ints.length,vn,.int .i64 f.way,vt]⟩ ∧
  RdI m0 (stM m3 (m0.next+1) 0 [.slice aw1 (f.ints.length+1) (f.ints.length+1)]) { f with ints:=f.ints++[c] }:=by
 obtain⟨hO,hnx,⟨a4,b4,c4,d4,h4⟩,vi,vn,vt,h1,h2,h3,h5⟩:=h
 obtain⟨aw,v',m3,rfl,g1,g2,g3,g4,-⟩:=app1i h2 hO.1 c
 obtain⟨aw1,rfl⟩:=g2.shape
 simp only [List.length_append,List.length_cons,List.length_nil,Nat.zero_add] at g1 g2
 have hne:∀ x V,vw m x=some V→V.elem≠3→blkV (.slice aw f.ints.length f.ints.length)≠some x:=fun x V hV he=>by
  rcases h2 with ⟨e,_⟩|⟨b,e,_,_,hb⟩
  ·rw [e];intro h;cases h
  ·rw [e];intro h
   have:b=x:=Option.some.inj h
   subst this;rw [hb] at hV;cases hV;exact he rfl
 have vk:∀ x V,x<m.next→vw m x=some V→V.elem≠3→vw m3 x=some V:=fun x V hx hV he=>by
  have:=g4 x hx (hne x V hV he)
  unfold vw at hV ⊢;rw [this];exact hV
 have h13:=vk _ _ (by omega) h1 (by intro e;cases e)
 refine⟨aw,vn,vt,aw1,m3,h1,g1,h13,⟨?_,?_,?_,?_⟩⟩
 ·have:=hO.trans g3
  exact⟨by rw [stM_next];exact this.1,fun x hx=>by rw [stM_get (by omega)];exact this.2 x hx⟩
 ·rw [stM_next];have:=g3.1;omega
 ·exact⟨a4,b4,c4,d4,by rw [vw_stM_ne (by omega)];exact vk _ _ (by omega) h4 (by intro e;cases e)⟩
 ·have own:∀ {v:Value} {e:TypeId} {n:Nat} {cs:List Value},Own m0.next m3 v e n cs→Own m0.next (stM m3 (m0.next+1) 0 [.slice aw1 (f.ints.length+1) (f.ints.length+1)]) v e n cs:=fun ho=>by
   refine ho.ex (by rw [stM_next];exact Nat.le_refl _) fun x hx h0 hV=>stM_get fun e=>?_
   subst e;rw [h13] at hV;cases hV
  have own2:∀ {v:Value} {e:TypeId} {n:Nat} {cs:List Value},e≠3→Own m0.next m v e n cs→Own m0.next m3 v e n cs:=fun he ho=>by
   refine ho.ex g3.1 fun x hx h0 hV=>g4 x hx (hne x _ hV he)
  refine⟨.slice aw1 (f.ints.length+1) (f.ints.length+1),vn,vt,?_,own (by simpa using g2),own (own2 (by decide) h3),own (own2 (by decide) h5)⟩
  rw [vw_stM_eq h13 (stOk_one rfl (by simp) rfl)];rfl
theorem RdI.nat1 {m0 m:Mem} {f:Fs} (h:RdI m0 m f) (c:Int):∃ aw vi vt aw1 m3,
  vw m (m0.next+1)=some ⟨true,141,false,[vi,.slice aw f.nats.length f.nats.length,.int .i64 f.way,vt]⟩ ∧
  appendTo (newObjA m (.row ⟨T.setL [.int .u64 c] 0 .lf,1,[.int .u64 0],22,.none,false⟩)) 22 1 (.slice aw f.nats.length f.nats.length) 1 [.int .u64 c]=some (.slice aw1 (f.nats.length+1) (f.nats.length+1),m3) ∧
  vw m3 (m0.next+1)=some ⟨true,141,false,[vi,.slice aw f.nats.length f.nats.length,.int .i64 f.way,vt]⟩ ∧
  RdI m0 (stM m3 (m0.next+1) 1 [.slice aw1 (f.nats.length+1) (f.nats.length+1)]) { f with nats:=f.nats++[c] }:=by
 obtain⟨hO,hnx,⟨a4,b4,c4,d4,h4⟩,vi,vn,vt,h1,h2,h3,h5⟩:=h
 obtain⟨aw,v',m3,rfl,g1,g2,g3,g4⟩:=app1u h3 hO.1 c
 obtain⟨aw1,rfl⟩:=g2.shape
 simp only [List.length_append,List.length_cons,List.length_nil,Nat.zero_add] at g1 g2
 have hne:∀ x V,vw m x=some V→V.elem≠22→blkV (.slice aw f.nats.length f.nats.length)≠some x:=fun x V hV he=>by
  rcases h3 with ⟨e,_⟩|⟨b,e,_,_,hb⟩
  ·rw [e];intro h;cases h
  ·rw [e];intro h
   have:b=x:=Option.some.inj h
   subst this;rw [hb] at hV;cases hV;exact he rfl
 have vk:∀ x V,x<m.next→vw m x=some V→V.elem≠22→vw m3 x=some V:=fun x V hx hV he=>by
  have:=g4 x hx (hne x V hV he)
  unfold vw at hV ⊢;rw [this];exact hV
 have h13:=vk _ _ (by omega) h1 (by intro e;cases e)
 refine⟨aw,vi,vt,aw1,m3,h1,g1,h13,⟨?_,?_,?_,?_⟩⟩
 ·have:=hO.trans g3
  exact⟨by rw [stM_next];exact this.1,fun x hx=>by rw [stM_get (by omega)];exact this.2 x hx⟩
 ·rw [stM_next];have:=g3.1;omega
 ·exact⟨a4,b4,c4,d4,by rw [vw_stM_ne (by omega)];exact vk _ _ (by omega) h4 (by intro e;cases e)⟩
 ·have own:∀ {v:Value} {e:TypeId} {n:Nat} {cs:List Value},Own m0.next m3 v e n cs→Own m0.next (stM m3 (m0.next+1) 1 [.slice aw1 (f.nats.length+1) (f.nats.length+1)]) v e n cs:=fun ho=>by
   refine ho.ex (by rw [stM_next];exact Nat.le_refl _) fun x hx h0 hV=>stM_get fun e=>?_
   subst e;rw [h13] at hV;cases hV
  have own2:∀ {v:Value} {e:TypeId} {n:Nat} {cs:List Value},e≠22→Own m0.next m v e n cs→Own m0.next m3 v e n cs:=fun he ho=>by
   refine ho.ex g3.1 fun x hx h0 hV=>g4 x hx (hne x _ hV he)
  refine⟨vi,.slice aw1 (f.nats.length+1) (f.nats.length+1),vt,?_,own (own2 (by decide) h2),own (by simpa using g2),own (own2 (by decide) h5)⟩
  rw [vw_stM_eq h13 (stOk_one rfl (by simp) rfl)];rfl
theorem RdI.way1 {m0 m:Mem} {f:Fs} (h:RdI m0 m f) (z:Int):(∃ vi vn vt,vw m (m0.next+1)=some ⟨true,141,false,[vi,vn,.int .i64 f.way,vt]⟩)∧RdI m0 (stM m (m0.next+1) 2 [.int .i64 z]) { f with way:=z }:=by
 obtain⟨hO,hnx,⟨a4,b4,c4,d4,h4⟩,vi,vn,vt,h1,h2,h3,h5⟩:=h
 refine⟨⟨vi,vn,vt,h1⟩,⟨?_,?_,?_,?_⟩⟩
 ·exact⟨by rw [stM_next];exact hO.1,fun x hx=>by rw [stM_get (by omega)];exact hO.2 x hx⟩
 ·rw [stM_next];omega
 ·exact⟨a4,b4,c4,d4,by rw [vw_stM_ne (by omega)];exact h4⟩
 ·have own:∀ {v:Value} {e:TypeId} {n:Nat} {cs:List Value},Own m0.next m v e n cs→Own m0.next (stM m (m0.next+1) 2 [.int .i64 z]) v e n cs:=fun ho=>by
   refine ho.ex (by rw [stM_next];exact Nat.le_refl _) fun x hx h0 hV=>stM_get fun e=>?_
   subst e;rw [h1] at hV;cases hV
  refine⟨vi,vn,vt,?_,own h2,own h3,own h5⟩
  rw [vw_stM_eq h1 (stOk_one rfl (by simp) rfl)];rfl
theorem RdI.text1 {m0 m m3:Mem} {f:Fs} {v:Value} {s:List UInt8} (h:RdI m0 m f) (hO:Old m.next m m3) (hv:Own m0.next m3 v 5 s.length (u8s s)):(∃ vi vn vt,vw m3 (m0.next+1)=some ⟨true,141,false,[vi,vn,.int .i64 f.way,vt]⟩)∧RdI m0 (stM m3 (m0.next+1) 3 [v]) { f with text:=s }:=by
 obtain⟨hO0,hnx,⟨a4,b4,c4,d4,h4⟩,vi,vn,vt,h1,h2,h3,h5⟩:=h
 have h13:vw m3 (m0.next+1)=some ⟨true,141,false,[vi,vn,.int .i64 f.way,vt]⟩:=by rw [hO.vw (by omega)];exact h1
 refine⟨⟨vi,vn,vt,h13⟩,⟨?_,?_,?_,?_⟩⟩
 ·have:=hO0.trans (hO.le hO0.1)
  exact⟨by rw [stM_next];exact this.1,fun x hx=>by rw [stM_get (by omega)];exact this.2 x hx⟩
 ·rw [stM_next];have:=hO.1;omega
 ·exact⟨a4,b4,c4,d4,by rw [vw_stM_ne (by omega),hO.vw (by omega)];exact h4⟩
 ·have own:∀ {v':Value} {e:TypeId} {n:Nat} {cs:List Value},Own m0.next m3 v' e n cs→Own m0.next (stM m3 (m0.next+1) 3 [v]) v' e n cs:=fun ho=>by
   refine ho.ex (by rw [stM_next];exact Nat.le_refl _) fun x hx h0 hV=>stM_get fun e=>?_
   subst e;rw [h13] at hV;cases hV
  have own2:∀ {v':Value} {e:TypeId} {n:Nat} {cs:List Value},Own m0.next m v' e n cs→Own m0.next m3 v' e n cs:=fun ho =>
   ho.ex hO.1 fun x hx h0 hV=>hO.2 x hx
  obtain⟨a,rfl⟩:=hv.shape
  refine⟨vi,vn,.slice a s.length s.length,?_,own (own2 h2),own (own2 h3),own hv⟩
  rw [vw_stM_eq h13 (stOk_one rfl (by simp) rfl)];rfl
def fsC (f:Fs) (a1 a2 a3:Option Addr):List Value:=[.slice a1 f.ints.length f.ints.length,.slice a2 f.nats.length f.nats.length,.int .i64 f.way,.slice a3 f.text.length f.text.length]
theorem RdI.fin {m0 m:Mem} {f:Fs} (h:RdI m0 m f):∃ a1 a2 a3 a4 b4 c4 d4,vw m (m0.next+1)=some ⟨true,141,false,fsC f a1 a2 a3⟩∧vw m m0.next=some ⟨true,141,false,[a4,b4,c4,d4]⟩∧loadA tb 141 (stM m m0.next 0 (fsC f a1 a2 a3)) m0.next 0=some (.agg ⟨fsC f a1 a2 a3⟩) ∧
  Old m0.next m0 (stM m m0.next 0 (fsC f a1 a2 a3))∧FsV m0.next (stM m m0.next 0 (fsC f a1 a2 a3)) f (.agg ⟨fsC f a1 a2 a3⟩):=by
 obtain⟨hO,hnx,⟨a4,b4,c4,d4,h4⟩,vi,vn,vt,h1,h2,h3,h5⟩:=h
 obtain⟨a1,rfl⟩:=h2.shape
 obtain⟨a2,rfl⟩:=h3.shape
 obtain⟨a3,rfl⟩:=h5.shape
 have hst:stOk ⟨true,141,false,[a4,b4,c4,d4]⟩ 0 (fsC f a1 a2 a3)=true:=by
  simp [stOk,oneC,fsC]
 refine⟨a1,a2,a3,a4,b4,c4,d4,h1,h4,?_,?_,.slice a1 f.ints.length f.ints.length,.slice a2 f.nats.length f.nats.length,.slice a3 f.text.length f.text.length,rfl,?_,?_,?_⟩
 ·rw [loadA_all Ty.ti141 Ty.g141 (vw_stM_eq h4 hst) (by rw [Ty.s141];rfl)];rfl
 ·exact⟨by rw [stM_next];exact hO.1,fun x hx=>by rw [stM_get (by omega)];exact hO.2 x hx⟩
 all_goals
  refine Own.ex (by assumption) (by rw [stM_next];exact Nat.le_refl _) fun x hx h0 hV=>stM_get fun e=>?_
  subst e;rw [h4] at hV;cases hV
end Go.Proofs.YtgmkbdmgifdfeaaGreatDoor

