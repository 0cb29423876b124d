/- A part of a proof: ScriptOwn. -/
import Derived.Test.YtgmkbdmgifdfeaaGreatDoorF22
set_option linter.unusedVariables false
set_option linter.unusedSimpArgs false
set_option maxRecDepth 8000
namespace Go.Proofs.YtgmkbdmgifdfeaaGreatDoor
open Go Go.Ev
theorem kind_of:∀ k,1≤k→k≤22→kindOf (wordOf k)=some k
 |1,_,_=>by decide|2,_,_=>by decide|3,_,_=>by decide|4,_,_=>by decide|5,_,_=>by decide|6,_,_=>by decide|7,_,_=>by decide|8,_,_=>by decide
 |9,_,_=>by decide|10,_,_=>by decide|11,_,_=>by decide|12,_,_=>by decide|13,_,_=>by decide|14,_,_=>by decide|15,_,_=>by decide|16,_,_=>by decide
 |17,_,_=>by decide|18,_,_=>by decide|19,_,_=>by decide|20,_,_=>by decide|21,_,_=>by decide|22,_,_=>by decide
 |0,h,_=>absurd h (by omega)
 |k+23,_,h=>absurd h (by omega)
theorem kind_some {w:List UInt8} {k:Nat} (h:kindOf w=some k):1≤k∧k≤22∧wordOf k=w:=by
 unfold kindOf at h
 have h1:=List.find?_some h
 have h2:=List.mem_of_find?_eq_some h
 simp at h1 h2
 exact⟨h1.1,by omega,h1.2⟩
theorem step_hit {k:Nat} {n:Int} {w:List UInt8} {vs ws:List (List UInt8)} (hn:nodeOf ws=some (n,w,vs)) (h1:1≤k) (h2:k≤22) (hw:wordOf k=w) (hf:(k != 1)=decide (0<n)) :
  (∀ f,readF (formOf k) vs=some f→stepOf ws=some (stepF k n f)∧Shape k f)∧(readF (formOf k) vs=none→stepOf ws=none):=by
 obtain⟨g1,g2⟩:=read_law k n vs h1 h2
 have hs:stepOf ws=match readFds (fieldsOf k) { stp0 with kind:=k,node:=n } vs with
   |some (s,[])=>some s
   |_=>none:=by
  unfold stepOf
  rw [hn]
  simp only
  rw [← hw,kind_of k h1 h2]
  simp only
  rw [if_pos hf]
  rfl
 refine⟨fun f h=>⟨?_,(g1 f h).2⟩,fun h=>?_⟩
 ·rw [hs,(g1 f h).1]
 ·have:=g2 h
  rw [hs]
  split
  ·rename_i s hh;exact absurd hh (this s)
  ·rfl
theorem step_miss {n:Int} {w:List UInt8} {vs ws:List (List UInt8)} (hn:nodeOf ws=some (n,w,vs)) (h:∀ k,1≤k→k≤22→¬ (wordOf k=w∧(k != 1)=decide (0<n))):stepOf ws=none:=by
 unfold stepOf
 rw [hn]
 simp only
 split
 ·rfl
 ·rename_i k hk
  obtain⟨h1,h2,h3⟩:=kind_some hk
  rw [if_neg (fun e=>h k h1 h2 ⟨h3,e⟩)]
def tlV (z:Bool) (b o n:Nat):Option Value:=match z with
 |true=>some (Value.slice (some ⟨b,o,some 1⟩) 0 0)
 |false=>some (Value.slice (some ⟨b,o+1,none⟩) n n)
theorem tlV_ok {m:Mem} {b o:Nat} {w:List UInt8} {ws all:List (List UInt8)} (hb:b<m.next) (hvb:vw m b=some ⟨true,9,true,strsV all⟩) (hdr:w::ws=all.drop o):∃ vt,tlV (decide (ws=[])) b o ws.length=some vt∧WordsV m m.next vt ws:=by
 by_cases hz:ws=[]
 ·refine⟨.slice (some ⟨b,o,some 1⟩) 0 0,by rw [decide_eq_true hz];rfl,.inr ⟨b,all,hb,hvb,.inr ⟨hz,o,0,rfl⟩⟩⟩
 ·refine⟨.slice (some ⟨b,o+1,none⟩) ws.length ws.length,by rw [decide_eq_false hz];rfl,.inr ⟨b,all,hb,hvb,.inl ⟨o+1,rfl,?_⟩⟩⟩
  have:=congrArg List.tail hdr
  simpa [List.tail_drop] using this
theorem beq4 {m:Mem} (x y:Operand) (a b:Bool):binA tb m .eql 4 x y (.bool a) (.bool b)=some (.bool (a==b)):=by
 have e:eqA tb m 64 4 (.bool a) (.bool b)=some (a==b):=by
  rw [eqA];simp only [Ty.ti4,oB,Ty.d4,eqBool]
 simp only [binA,eqOp,guardOk,e,oB]
theorem formOf_len:∀ k,(formOf k).length≤20
 |0=>by decide|1=>by decide|2=>by decide|3=>by decide|4=>by decide|5=>by decide|6=>by decide|7=>by decide|8=>by decide|9=>by decide|10=>by decide|11=>by decide|12=>by decide
 |13=>by decide|14=>by decide|15=>by decide|16=>by decide|17=>by decide|18=>by decide|19=>by decide|20=>by decide|21=>by decide|22=>by decide
 |k+23=>by show ([]:List UInt8).length≤20;decide
theorem vEq_t2' (d:Nat) (a b:Value) (ha:vEq d a a=true) (hb:vEq d b b=true):vEq (d+1) (.tuple ⟨[a,b]⟩) (.tuple ⟨[a,b]⟩)=true:=by simp [vEq,ha,hb]
theorem vEq_fs (a1 a2 a3:Option Addr) (n1 n2 n3:Nat) (z:Int) (ok:Bool):vEq 100 (.tuple ⟨[.agg ⟨[.slice a1 n1 n1,.slice a2 n2 n2,.int .i64 z,.slice a3 n3 n3]⟩,.bool ok]⟩) (.tuple ⟨[.agg ⟨[.slice a1 n1 n1,.slice a2 n2 n2,.int .i64 z,.slice a3 n3 n3]⟩,.bool ok]⟩)=true:=by
 refine vEq_t2' 99 _ _ (vEq_a (d:=98) fun v hv=>?_) (vEq_b _ _)
 simp only [List.mem_cons,List.not_mem_nil,or_false] at hv
 rcases hv with rfl|rfl|rfl|rfl
 ·exact vEq_l _ _ _ _
 ·exact vEq_l _ _ _ _
 ·exact vEq_i _ _ _
 ·exact vEq_l _ _ _ _
theorem step_owns {N0:Nat} {m:Mem} {n:Int} {f:Fs} {a1 a2 a3:Option Addr}:∀ (k:Nat),1≤k→k≤22→FsV N0 m f (.agg ⟨fsC f a1 a2 a3⟩)→Own N0 m (dOf k f a3) 5 (stepF k n f).data.length (u8s (stepF k n f).data)∧Own N0 m (cOf k f a1) 3 (stepF k n f).choices.length (i64s (stepF k n f).choices)
 |1,_,_,_=>⟨.inl ⟨rfl,rfl,rfl⟩,.inl ⟨rfl,rfl,rfl⟩⟩
 |2,_,_,_=>⟨.inl ⟨rfl,rfl,rfl⟩,.inl ⟨rfl,rfl,rfl⟩⟩
 |3,_,_,_=>⟨.inl ⟨rfl,rfl,rfl⟩,.inl ⟨rfl,rfl,rfl⟩⟩
 |4,_,_,_=>⟨.inl ⟨rfl,rfl,rfl⟩,.inl ⟨rfl,rfl,rfl⟩⟩
 |5,_,_,_=>⟨.inl ⟨rfl,rfl,rfl⟩,.inl ⟨rfl,rfl,rfl⟩⟩
 |6,_,_,h=>⟨h.parts.2.2,.inl ⟨rfl,rfl,rfl⟩⟩
 |7,_,_,_=>⟨.inl ⟨rfl,rfl,rfl⟩,.inl ⟨rfl,rfl,rfl⟩⟩
 |8,_,_,_=>⟨.inl ⟨rfl,rfl,rfl⟩,.inl ⟨rfl,rfl,rfl⟩⟩
 |9,_,_,_=>⟨.inl ⟨rfl,rfl,rfl⟩,.inl ⟨rfl,rfl,rfl⟩⟩
 |10,_,_,_=>⟨.inl ⟨rfl,rfl,rfl⟩,.inl ⟨rfl,rfl,rfl⟩⟩
 |11,_,_,_=>⟨.inl ⟨rfl,rfl,rfl⟩,.inl ⟨rfl,rfl,rfl⟩⟩
 |12,_,_,_=>⟨.inl ⟨rfl,rfl,rfl⟩,.inl ⟨rfl,rfl,rfl⟩⟩
 |13,_,_,_=>⟨.inl ⟨rfl,rfl,rfl⟩,.inl ⟨rfl,rfl,rfl⟩⟩
 |14,_,_,h=>⟨.inl ⟨rfl,rfl,rfl⟩,h.parts.1⟩
 |15,_,_,_=>⟨.inl ⟨rfl,rfl,rfl⟩,.inl ⟨rfl,rfl,rfl⟩⟩
 |16,_,_,_=>⟨.inl ⟨rfl,rfl,rfl⟩,.inl ⟨rfl,rfl,rfl⟩⟩
 |17,_,_,_=>⟨.inl ⟨rfl,rfl,rfl⟩,.inl ⟨rfl,rfl,rfl⟩⟩
 |18,_,_,_=>⟨.inl ⟨rfl,rfl,rfl⟩,.inl ⟨rfl,rfl,rfl⟩⟩
 |19,_,_,_=>⟨.inl ⟨rfl,rfl,rfl⟩,.inl ⟨rfl,rfl,rfl⟩⟩
 |20,_,_,_=>⟨.inl ⟨rfl,rfl,rfl⟩,.inl ⟨rfl,rfl,rfl⟩⟩
 |21,_,_,_=>⟨.inl ⟨rfl,rfl,rfl⟩,.inl ⟨rfl,rfl,rfl⟩⟩
 |22,_,_,_=>⟨.inl ⟨rfl,rfl,rfl⟩,.inl ⟨rfl,rfl,rfl⟩⟩
 |0,h,_,_=>absurd h (by omega)
 |k+23,_,h,_=>absurd h (by omega)
theorem load_st {m:Mem} {t:TypeId} {i:TI} {b:Nat} {V:Vw} {cells:List Value} (hi:ti tb t=some i) (ha:i.agg=true) (hv:vw m b=some V) (hs:stOk V 0 cells=true) (hl:V.cs.length=cells.length) (hc:cells.length=i.inf.size):loadA tb t (stM m b 0 cells) b 0=some (.agg ⟨cells⟩):=by
 have e:spl V.cs 0 cells=cells:=by rw [spl_eq (by omega)];simp [hl]
 have:=loadA_all hi ha (vw_stM_eq hv hs) (by rw [spl_length,hl,hc])
 rw [this,e]
def oneCells (b1 b2:Bool) (x:Stu) (s:Stp) (d c:Value):List Value:=.bool b1::.bool b2::(stuCells' x++stpCells s d c)
def OneR (tx:List UInt8) (m:Mem) (r:Value) (m':Mem):Prop :=
 ∃ b1 b2 x s ad nd ac nc ok,r=.tuple ⟨[.agg ⟨oneCells b1 b2 x s (.slice ad nd nd) (.slice ac nc nc)⟩,.bool ok]⟩∧Old m.next m m'∧(ok=false→lineOf tx=none) ∧
   (ok=true→(b1=false∧lineOf tx=some .nothing)∨(b1=true∧b2=true∧lineOf tx=some (.head x)) ∨
    (b1=true∧b2=false∧lineOf tx=some (.step s)∧Own m.next m' (.slice ad nd nd) 5 s.data.length (u8s s.data)∧Own m.next m' (.slice ac nc nc) 3 s.choices.length (i64s s.choices)))
theorem words_of_own {n0 p:Nat} {m:Mem} {v:Value} {ws:List (List UInt8)} (h:Own n0 m v 9 ws.length (strsV ws)) (hp:m.next≤p):WordsV m p v ws:=by
 rcases h with ⟨rfl,h1,h2⟩|⟨b,rfl,h1,h2,h3⟩
 ·exact .inl ⟨rfl,List.length_eq_zero_iff.1 h1⟩
 ·exact .inr ⟨b,ws,by omega,h3,.inl ⟨0,rfl,rfl⟩⟩
theorem WordsV.get' {m:Mem} {p:Nat} {v:Value} {ws:List (List UInt8)} (h:WordsV m p v ws) {k:Nat} {w:List UInt8} (hw:ws[k]? = some w) :
  ∃ b o all,v=.slice (some ⟨b,o,none⟩) ws.length ws.length∧b<p∧vw m b=some ⟨true,9,true,strsV all⟩∧(strsV all)[o+k]? = some (.string ⟨⟨w⟩⟩)∧o+k<all.length∧ws=all.drop o:=by
 obtain⟨hk,he⟩:=List.getElem?_eq_some_iff.1 hw
 rcases h with ⟨_,rfl⟩|⟨b,all,h1,h2,⟨o,rfl,h3⟩|⟨rfl,_⟩⟩
 ·simp at hk
 ·have h4:all[o+k]? = some w:=by rw [← List.getElem?_drop,← h3];exact hw
  exact⟨b,o,all,rfl,h1,h2,by rw [strsV_get,h4];rfl,(List.getElem?_eq_some_iff.1 h4).1,h3⟩
 ·simp at hk
theorem WordsV.ex {p p':Nat} {m m':Mem} {v:Value} {ws:List (List UInt8)} (h:WordsV m p v ws) (hp:p≤p') (hg:∀ x,x<p→vw m' x=vw m x):WordsV m' p' v ws:=by
 rcases h with h|⟨b,all,h1,h2,h3⟩
 ·exact .inl h
 ·exact .inr ⟨b,all,by omega,by rw [hg b h1];exact h2,h3⟩
set_option maxHeartbeats 1000000 in
theorem rone_ok {m:Mem} {tx:List UInt8} (hlen:tx.length≤2000000) (hm8:8≤m.next):CallsA tb 42 [.string ⟨⟨tx⟩⟩] m (retR (OneR tx m)):=by
 refine callsS Tryz.func42 e42 rfl rfl ?_
 simp only [s42,List.replicate,List.length_cons,List.length_nil,List.cons_append,List.nil_append,Nat.reduceAdd,Nat.reduceSub]
 obtain⟨r0,hr0⟩:∃ r0,r0=m.next:=⟨_,rfl⟩
 refine xseqN (fun l ds m'=>ds=[]∧Old m.next m m'∧m'.next=r0+1∧vw m' r0=some ⟨true,105,false,oneCells false false stu0 stp0 (.slice none 0 0) (.slice none 0 0)⟩∧Sl [.string ⟨⟨tx⟩⟩,undef,.pointer (some ⟨r0,0,none⟩),.bool false] 121 l) ?_ ?_
 rotate_left
 ·refine xregQ fun Q' hQ=>?_
  simp
  subst hQ
  refine⟨rfl,(Old.refl _ _).new (Nat.le_refl _) _,by rw [next_newObjA,hr0],?_,Sl.mk (by rw [hr0];rfl) rfl⟩
  rw [vw_new,if_pos hr0];exact vwO_zero1 105 (oneCells false false stu0 stp0 (.slice none 0 0) (.slice none 0 0))
 rintro l ds m1 ⟨rfl,hO1,hn1,hv1,ts,hts,rfl⟩
 have fin:∀ {b1 b2 ok:Bool} {x:Stu} {s:Stp} {ad ac:Option Addr} {nd nc:Nat} {m4:Mem},Old m.next m m4→vw m4 r0=some ⟨true,105,false,oneCells false false stu0 stp0 (.slice none 0 0) (.slice none 0 0)⟩→(ok=false→lineOf tx=none) →
   (ok=true→(b1=false∧lineOf tx=some .nothing)∨(b1=true∧b2=true∧lineOf tx=some (.head x)) ∨
   (b1=true∧b2=false∧lineOf tx=some (.step s)∧Own m.next m4 (.slice ad nd nd) 5 s.data.length (u8s s.data)∧Own m.next m4 (.slice ac nc nc) 3 s.choices.length (i64s s.choices))) →
   ∀ {l:List Value},(∃ x0 x1 ts,l=x0::x1::.pointer (some ⟨r0,0,none⟩)::.bool ok::ts)→endX tb Tryz.f42.results.toList (retR (OneR tx m)) (.jump .ret) l [] (stM m4 r0 0 (oneCells b1 b2 x s (.slice ad nd nd) (.slice ac nc nc))):=by
  rintro b1 b2 ok x s ad ac nd nc m4 hO hv h1 h2 l ⟨x0,x1,ts,rfl⟩
  have hs:stOk ⟨true,105,false,oneCells false false stu0 stp0 (.slice none 0 0) (.slice none 0 0)⟩ 0 (oneCells b1 b2 x s (.slice ad nd nd) (.slice ac nc nc))=true:=rfl
  have own:∀ {v:Value} {e:TypeId} {n:Nat} {cs:List Value},Own m.next m4 v e n cs→Own m.next (stM m4 r0 0 (oneCells b1 b2 x s (.slice ad nd nd) (.slice ac nc nc))) v e n cs:=fun ho=>by
   refine ho.ex (by rw [stM_next];exact Nat.le_refl _) fun y hy h0 hV=>stM_get fun e=>?_
   subst e;rw [hv] at hV;cases hV
  refine⟨rfl,_,resX_ct (i:=2) (j:=3) rfl (load_st Ty.ti105 Ty.g105 hv hs rfl (by rw [Ty.s105];rfl)),b1,b2,x,s,ad,nd,ac,nc,ok,rfl,?_,h1,fun h=>?_⟩
  ·exact⟨by rw [stM_next];exact hO.1,fun y hy=>by rw [stM_get (by omega)];exact hO.2 y hy⟩
  ·rcases h2 h with h|h|⟨g1,g2,g3,g4,g5⟩
   ·exact .inl h
   ·exact .inr (.inl h)
   ·exact .inr (.inr ⟨g1,g2,g3,own g4,own g5⟩)
 obtain⟨x4,ts4,rfl,hts4⟩:=ln_succ (n:=120) hts
 obtain⟨x5,ts5,rfl,hts5⟩:=ln_succ (n:=119) hts4
 clear hts hts4
 have hts:=hts5
 refine xsr fun Q' hQ=>?_
 simp [hts]
 refine xcall (ov_none (by decide)) (rwords_ok hlen) ?_ (fun ch m' h=>h.elim)
 rintro r m2 ⟨acc,ok,v,rfl,hown,hO2,hal,hne,sp1,sp0⟩
 simp [hts]
 subst hQ
 rw [hn1] at hown hO2
 have hO2':Old m.next m m2:=hO1.trans (hO2.le (by omega))
 have hv2:vw m2 r0=some ⟨true,105,false,oneCells false false stu0 stp0 (.slice none 0 0) (.slice none 0 0)⟩:=by rw [hO2.vw (by omega)];exact hv1
 have hW:=words_of_own hown (Nat.le_refl _)
 obtain⟨av,rfl⟩:=hown.shape
 have hn2:r0+1≤m2.next:=by have:=hO2.1;omega
 clear hv1 hn1
 simp only [oneCells,stuCells',stpCells,stu0,stp0,List.cons_append,List.nil_append] at hv2 fin
 refine xseqN (fun l ds m'=>ds=[]∧m'=m2∧(ok=true→∃ w ws,acc=w::ws∧splitOf tx=some acc)∧(ok=false→splitOf tx=none)∧Sl [.string ⟨⟨tx⟩⟩,undef,.pointer (some ⟨r0,0,none⟩),.bool false,.slice av acc.length acc.length,.bool ok] 119 l) ?_ ?_
 rotate_left
 ·refine xsr fun Q' hQ=>?_
  cases acc with
  |nil =>
   have hsp:=sp0 rfl
   cases ok with
   |false =>
    simp [hts]
    subst hQ
    refine xno (by simp [hts]) (xskip ?_)
    exact⟨rfl,rfl,(fun h=>by cases h),(fun _=>hsp),Sl.mk rfl (by simp [hts])⟩
   |true =>
    simp [hts]
    subst hQ
    refine xyes (by simp [hts]) ?_
    refine xsr fun Q' hQ=>?_
    simp [hts,hv2,stOk,oneC]
    subst hQ
    refine xret (fin (b1:=false) (b2:=false) (ok:=true) (x:=stu0) (s:=stp0) (ad:=none) (ac:=none) (nd:=0) (nc:=0) hO2' hv2 (fun h=>by cases h) (fun _=>.inl ⟨rfl,by rw [lineOf,hsp];rfl⟩) ?_)
    exact⟨_,_,_,rfl⟩
  |cons w ws =>
   obtain⟨b,o,all,hav,hb,hvb,hel,hol⟩:=hW.get (k:=0) (w:=w) rfl
   obtain rfl:av=some ⟨b,o,none⟩:=by cases hav;rfl
   obtain⟨hwn,hwl⟩:=hne w (.head _)
   cases w with
   |nil=>exact absurd rfl hwn
   |cons c r =>
    rw [Nat.add_zero] at hel hol
    by_cases hc:c=35
    ·subst hc
     simp [hts,hvb,hel,hol]
     subst hQ
     refine xyes (by simp [hts]) ?_
     refine xsr fun Q' hQ=>?_
     simp [hts,hv2,stOk,oneC]
     subst hQ
     refine xret (fin (b1:=false) (b2:=false) (ok:=true) (x:=stu0) (s:=stp0) (ad:=none) (ac:=none) (nd:=0) (nc:=0) hO2' hv2 (fun h=>by cases h) (fun _=>.inl ⟨rfl,by rw [lineOf,sp1 rfl]⟩) ?_)
     exact⟨_,_,_,rfl⟩
    ·have hc':¬ (c.toNat:Int)=35:=fun e=>hc ((u8i (n:=35) (by omega)).1 e)
     have hsp:=sp0 (by unfold hashed;simpa using hc)
     have hz0:¬ (ws.length:Int)+1=0:=by omega
     simp [hts,hvb,hel,hol,hc',hz0]
     subst hQ
     refine xno (by simp [hts]) (xskip ?_)
     exact⟨rfl,rfl,(fun h=>⟨_,_,rfl,by rw [hsp,h];rfl⟩),(fun h=>by rw [hsp,h];rfl),Sl.mk rfl (by simp [hts])⟩
 clear hts
 rintro l ds m3 ⟨rfl,rfl,hok,hno,ts,hts,rfl⟩
 cases ok with
 |false =>
  have hl0:lineOf tx=none:=by rw [lineOf,hno rfl]
  refine xseq (xseq (xregQ fun Q' hQ=>?_))
  simp [hts]
  subst hQ
  refine xyes (by simp [hts]) ?_
  refine xsr fun Q' hQ=>?_
  simp [hts,hv2,stOk,oneC]
  subst hQ
  refine xret (fin (b1:=true) (b2:=false) (ok:=false) (x:=stu0) (s:=stp0) (ad:=none) (ac:=none) (nd:=0) (nc:=0) hO2' hv2 (fun _=>hl0) (fun h=>by cases h) ?_)
  exact⟨_,_,_,rfl⟩
 |true =>
 obtain⟨w,ws,rfl,hsp⟩:=hok rfl
 obtain⟨b,o,all,hav,hb,hvb,hel,hol,hdr0⟩:=hW.get' (k:=0) (w:=w) rfl
 obtain rfl:av=some ⟨b,o,none⟩:=by cases hav;rfl
 rw [Nat.add_zero] at hel hol
 obtain⟨hwn,hwl⟩:=hne w (.head _)
 have hline:lineOf tx=if w=worldB then (headOf ws).map .head else (stepOf (w::ws)).map .step:=by rw [lineOf,hsp]
 have hwsl:ws.length≤2000000:=by simp at hal;omega
 have hwls:∀ x∈ws,x.length≤2000000:=fun x hx=>by have:=(hne x (.tail _ hx)).2;omega
 refine xseq (xseq (xregQ fun Q' hQ=>?_))
 simp [hts]
 subst hQ
 refine xno (by simp [hts]) (xskip ?_)
 rw [thenA_normal]
 refine xseqN (fun l ds m'=>ds=[]∧m'=m3∧¬ w=worldB∧Sl [.string ⟨⟨tx⟩⟩,undef,.pointer (some ⟨r0,0,none⟩),.bool false,.slice (some ⟨b,o,none⟩) (ws.length+1) (ws.length+1),.bool true] 119 l) ?_ ?_
 rotate_left
 ·refine xsr fun Q' hQ=>?_
  by_cases hw:w=worldB
  rotate_left
  ·have hw':¬ w=[119,111,114,108,100]:=hw
   simp [hts,hvb,hel,hol,hw']
   subst hQ
   refine xno (by simp [hts]) (xskip ?_)
   exact⟨rfl,rfl,hw,Sl.mk rfl (by simp [hts])⟩
  ·rw [if_pos hw] at hline
   have hw':w=[119,111,114,108,100]:=hw
   subst hw'
   simp [hts,hvb,hel,hol]
   subst hQ
   refine xyes (by simp [hts]) ?_
   refine xsr fun Q' hQ=>?_
   simp [hts,hvb]
   generalize hX:oR _=X
   obtain⟨vt,hvt,hWt⟩:∃ vt,X=.r vt∧WordsV m3 m3.next vt ws:=by
    obtain⟨vt,h1,h2⟩:=tlV_ok hb hvb hdr0
    refine⟨vt,?_,h2⟩
    rw [← hX,← oR_some,← h1]
    rfl
   rw [hvt]
   simp [hts]
   refine xcall (ov_none (by decide)) (rhead_ok hWt hwsl hwls) ?_ (fun ch m' h=>h.elim)
   rintro r m4 ⟨x,ok,rfl,hO4,h1,h2⟩
   simp only [stuCells']
   simp [hts,stOk,oneC]
   subst hQ
   obtain⟨m5,hm5,hn5,hv5,hg5⟩:=alloc_st' m4 26 9 [Value.int IntKind.i64 0,Value.int IntKind.u64 0,Value.int IntKind.u64 0,Value.int IntKind.i64 0,Value.int IntKind.i64 0,Value.int IntKind.i64 0,Value.int IntKind.i64 0,Value.int IntKind.i64 0,Value.int IntKind.u64 0] [Value.int IntKind.i64 x.mtu,Value.int IntKind.u64 x.ack,Value.int IntKind.u64 x.retry,Value.int IntKind.i64 x.retries,Value.int IntKind.i64 x.window,Value.int IntKind.i64 x.inbox,Value.int IntKind.i64 x.sectors,Value.int IntKind.i64 x.room,Value.int IntKind.u64 x.start] rfl rfl rfl
   rw [← hm5]
   clear hm5
   have hr4:r0<m4.next:=by have:=hO4.1;omega
   have hO4':Old m.next m m4:=hO2'.trans (hO4.le hO2'.1)
   have hv25:vw m5 r0=some ⟨true,105,false,oneCells false false stu0 stp0 (.slice none 0 0) (.slice none 0 0)⟩:=by
    have:vw m4 r0=some ⟨true,105,false,oneCells false false stu0 stp0 (.slice none 0 0) (.slice none 0 0)⟩:=by rw [hO4.vw (by omega)];exact hv2
    unfold vw at this ⊢;rw [hg5 _ hr4];exact this
   have hO5:Old m.next m m5:=⟨by have:=hO4'.1;omega,fun y hy=>by rw [hg5 y (by have:=hO4'.1;omega)];exact hO4'.2 y hy⟩
   simp only [oneCells,stuCells',stpCells,stu0,stp0,List.cons_append,List.nil_append] at hv25
   obtain⟨x6,ts6,rfl,hts6⟩:=ln_succ (n:=118) hts
   obtain⟨x7,ts7,rfl,hts7⟩:=ln_succ (n:=117) hts6
   clear hts hts6
   refine xsr fun Q' hQ=>?_
   simp [hts7,hv5,hv25,stOk,oneC]
   subst hQ
   refine xret (fin (b1:=true) (b2:=true) (ok:=ok) (x:=x) (s:=stp0) (ad:=none) (ac:=none) (nd:=0) (nc:=0) hO5 hv25 (fun h=>by rw [hline,h2 h];rfl) (fun h=>.inr (.inl ⟨rfl,rfl,by rw [hline,h1 h];rfl⟩)) ?_)
   exact⟨_,_,_,rfl⟩
 clear hts
 rintro l ds m4 ⟨rfl,rfl,hww,ts,hts,rfl⟩
 rw [if_neg hww] at hline
 obtain⟨x6,ts6,rfl,hts6⟩:=ln_succ (n:=118) hts
 obtain⟨x7,ts7,rfl,hts7⟩:=ln_succ (n:=117) hts6
 obtain⟨x8,ts8,rfl,hts8⟩:=ln_succ (n:=116) hts7
 clear hts hts6 hts7
 refine xsr fun Q' hQ=>?_
 simp [hts8]
 subst hQ
 refine xseqN (fun l ds m'=>ds=[]∧m'=m4∧∃ (n:Nat) (av:Option Addr) (ws':List (List UInt8)),n≤2∧WordsV m4 m4.next (.slice av ws'.length ws'.length) ws'∧ws'.length≤2000001∧(∀ x∈ws',x.length≤2000000)∧((ws'=[]∧stepOf (w::ws)=none)∨∃ w' vs,ws'=w'::vs∧nodeOf (w::ws)=some ((n:Int),w',vs)) ∧
   Sl [.string ⟨⟨tx⟩⟩,undef,.pointer (some ⟨r0,0,none⟩),.bool false,.slice av ws'.length ws'.length,.bool true,x6,x7,.int .i64 (n:Nat)] 116 l) ?_ ?_
 rotate_left
 ·refine xsr fun Q' hQ=>?_
  by_cases hnode:w=[49]∨w=[50]
  rotate_left
  ·have h49:¬ w=[49]:=fun e=>hnode (.inl e)
   have h50:¬ w=[50]:=fun e=>hnode (.inr e)
   simp [hts8,hvb,hel,hol,h49,h50]
   subst hQ
   refine xno (by simp [hts8]) (xskip ?_)
   refine⟨rfl,rfl,0,_,w::ws,by omega,hW,by simp;omega,fun x hx=>?_,.inr ⟨w,ws,rfl,?_⟩,Sl.mk rfl (by simp [hts8])⟩
   ·have:=(hne x hx).2;omega
   ·simp [nodeOf,h49,h50]
  ·obtain⟨vt,hvt,hWt⟩:=tlV_ok hb hvb hdr0
   obtain⟨at',hat⟩:=hWt.shape
   subst hat
   have hnd:∀ d:Int,(w=[49]→d=1)→(w=[50]→d=2)→∀ n:Nat,d=n→((ws=[]∧stepOf (w::ws)=none)∨∃ w' vs,ws=w'::vs∧nodeOf (w::ws)=some ((n:Int),w',vs)):=by
    rintro d h1 h2 n rfl
    cases ws with
    |nil=>exact .inl ⟨rfl,by simp [stepOf,nodeOf,hnode]⟩
    |cons w' vs =>
     refine .inr ⟨w',vs,rfl,?_⟩
     rcases hnode with h|h
     ·simp [nodeOf,h,h1 h]
     ·simp [nodeOf,h,h2 h]
   rcases hnode with h|h
   ·subst h
    simp [hts8,hvb,hel,hol]
    subst hQ
    refine xyes (by simp [hts8]) ?_
    refine xsr fun Q' hQ=>?_
    simp [hts8,hvb,hel,hol]
    subst hQ
    refine xregQ fun Q' hQ=>?_
    simp [hts8,hvb]
    generalize hX:oR _=X
    have hX2:X=.r (.slice at' ws.length ws.length):=by rw [← hX,← oR_some,← hvt];rfl
    rw [hX2]
    simp [hts8]
    subst hQ
    exact⟨rfl,rfl,1,_,ws,by omega,hWt,by omega,hwls,hnd 1 (fun _=>rfl) (fun h=>by cases h) 1 rfl,Sl.mk rfl (by simp [hts8])⟩
   ·subst h
    simp [hts8,hvb,hel,hol]
    subst hQ
    refine xyes (by simp [hts8]) ?_
    refine xsr fun Q' hQ=>?_
    simp [hts8,hvb,hel,hol]
    subst hQ
    refine xregQ fun Q' hQ=>?_
    simp [hts8,hvb]
    generalize hX:oR _=X
    have hX2:X=.r (.slice at' ws.length ws.length):=by rw [← hX,← oR_some,← hvt];rfl
    rw [hX2]
    simp [hts8]
    subst hQ
    exact⟨rfl,rfl,2,_,ws,by omega,hWt,by omega,hwls,hnd 2 (fun h=>by cases h) (fun _=>rfl) 2 rfl,Sl.mk rfl (by simp [hts8])⟩
 clear hts8 hW hb hvb hel hol hdr0
 rintro l ds m3 ⟨rfl,rfl,n,av,ws',hn,hW,hwsl',hwls',hst,ts,hts,rfl⟩
 obtain⟨x9,ts9,rfl,hts9⟩:=ln_succ (n:=115) hts
 obtain⟨x10,ts10,rfl,hts10⟩:=ln_succ (n:=114) hts9
 clear hts hts9
 obtain⟨k0,hk0⟩:∃ k0,k0=m3.next:=⟨_,rfl⟩
 refine xseqN (fun l ds m'=>ds=[]∧Old m3.next m3 m'∧m3.next+1≤m'.next∧vw m' k0=some ⟨true,88,false,rcs⟩∧Sl [.string ⟨⟨tx⟩⟩,undef,.pointer (some ⟨r0,0,none⟩),.bool false,.slice av ws'.length ws'.length,.bool true,x6,x7,.int .i64 (n:Nat),.slice (some ⟨k0,0,none⟩) 22 22,x10] 114 l) ?_ ?_
 rotate_left
 ·refine xregQ fun Q' hQ=>?_
  simp [hts10]
  refine xclosed ov_rrows (by omega) (fun hrows=>?_)
  subst hQ
  have hL:=layRows_old m3 (rrowsRows.map (CRow.ren 8 m3.next))
  refine⟨rfl,hL,?_,by rw [hk0];exact rows_vw hrows,Sl.mk (by rw [hk0];rfl) (by simp [hts10])⟩
  rw [layRows_next];simp [rrowsRows]
 clear hts10
 rintro l ds m4 ⟨rfl,hO4,hn4,hrv,ts,hts,rfl⟩
 have hO4':Old m.next m m4:=hO2'.trans (hO4.le hO2'.1)
 have hv4:vw m4 r0=some ⟨true,105,false,oneCells false false stu0 stp0 (.slice none 0 0) (.slice none 0 0)⟩:=by rw [hO4.vw (by omega)];exact hv2
 simp only [oneCells,stuCells',stpCells,stu0,stp0,List.cons_append,List.nil_append] at hv4
 have hW4:WordsV m4 m3.next (.slice av ws'.length ws'.length) ws':=hW.ex (Nat.le_refl _) fun x hx=>hO4.vw hx
 refine xseqN (fun l ds m'=>ds=[]∧m'=m4∧stepOf (w::ws)=none∧∃ x4 x5,Sl [.string ⟨⟨tx⟩⟩,undef,.pointer (some ⟨r0,0,none⟩),.bool false,x4,x5] 119 l) ?_ ?_
 ·rintro l ds m5 ⟨rfl,rfl,hno2,x4,x5,us,hus,rfl⟩
  refine xsr fun Q' hQ=>?_
  simp [hus,hv4,stOk,oneC]
  subst hQ
  refine xret (fin (b1:=true) (b2:=false) (ok:=false) (x:=stu0) (s:=stp0) (ad:=none) (ac:=none) (nd:=0) (nc:=0) hO4' hv4 (fun _=>by rw [hline,hno2];rfl) (fun h=>by cases h) ?_)
  exact⟨_,_,_,rfl⟩
 refine xsr fun Q' hQ=>?_
 simp [hts]
 subst hQ
 refine xblock (xwhile (N:=22) (I:=fun q l ds m5=>∃ i:Nat,q=22-i∧i≤22∧ds=[]∧m5=m4∧(∀ w' vs,ws'=w'::vs→∀ k,1≤k→k≤i→¬ (wordOf k=w'∧(k != 1)=decide (0<(n:Int)))) ∧
   Sl [.string ⟨⟨tx⟩⟩,undef,.pointer (some ⟨r0,0,none⟩),.bool false,.slice av ws'.length ws'.length,.bool true,x6,x7,.int .i64 (n:Nat),.slice (some ⟨k0,0,none⟩) 22 22,.int .i64 (i:Nat)] 114 l) ?_ ?_)
 ·exact⟨0,rfl,by omega,rfl,rfl,(fun w' vs _ k h1 h2=>by omega),Sl.mk rfl (by simp [hts])⟩
 clear hts
 rintro q l ds m5 ⟨i,rfl,hi,rfl,rfl,hmiss,ts,hts,rfl⟩
 refine xseq (xseq (xregQ fun Q' hQ=>?_))
 cases ws' with
 |nil =>
  simp [hts]
  subst hQ
  refine xif (v:=false) (by simp [hts]) (fun h=>by cases h) (fun _=>xexit ?_)
  refine⟨rfl,rfl,?_,_,_,Sl.mk rfl (by simp [hts])⟩
  rcases hst with h|⟨w',vs,h,_⟩
  ·exact h.2
  ·cases h
 |cons w' vs =>
 have hnd:nodeOf (w::ws)=some ((n:Int),w',vs):=by
  rcases hst with h|⟨w'',vs',h,h2⟩
  ·cases h.1
  ·cases h;exact h2
 by_cases hi22:i<22
 rotate_left
 ·obtain rfl:i=22:=by omega
  simp [hts]
  subst hQ
  refine xif (v:=false) (by simp [hts]) (fun h=>by cases h) (fun _=>xexit ?_)
  exact⟨rfl,rfl,step_miss hnd (fun k h1 h2=>hmiss w' vs rfl k h1 h2),_,_,Sl.mk rfl (by simp [hts])⟩
 obtain⟨b,o,all,hav,hb,hvb,hel,hol,hdr0⟩:=hW4.get' (k:=0) (w:=w') rfl
 obtain rfl:av=some ⟨b,o,none⟩:=by cases hav;rfl
 rw [Nat.add_zero] at hel hol
 have hrow:=rcs_row i hi22
 have hc:∀ j,j<4→rcs[i*4+j]? = (rowCells (i+1))[j]? := fun j hj=>by
  have:=takeN_get (l:=rcs) (o:=i*4) (n:=4) (k:=j) hj
  rw [hrow] at this;exact this.symm
 have hc0:rcs[i*4]? = some (.string ⟨⟨wordOf (i+1)⟩⟩):=hc 0 (by omega)
 have hc1:rcs[i*4+1]? = some (.bool (!decide (i+1=1))):=hc 1 (by omega)
 have hc3:rcs[i*4+3]? = some (.string ⟨⟨formOf (i+1)⟩⟩):=hc 3 (by omega)
 have hlen4:i*4+4≤88:=by omega
 have hi22':(i:Int)<22:=by omega
 simp [hts,hi22]
 subst hQ
 refine xyes (by simp [hts,hi22,hi22']) (xskip ?_)
 rw [thenA_normal]
 refine xseqN (fun l ds m'=>ds=[]∧m'=m5∧¬ (wordOf (i+1)=w'∧((i+1) != 1)=decide (0<(n:Int)))∧Sl [.string ⟨⟨tx⟩⟩,undef,.pointer (some ⟨r0,0,none⟩),.bool false,.slice (some ⟨b,o,none⟩) (vs.length+1) (vs.length+1),.bool true,x6,x7,.int .i64 (n:Nat),.slice (some ⟨k0,0,none⟩) 22 22,.int .i64 (i:Nat)] 114 l) ?_ ?_
 ·rintro l ds m6 ⟨rfl,rfl,hm,us,hus,rfl⟩
  obtain⟨i1,hi1⟩:∃ i1,i1=i+1:=⟨_,rfl⟩
  have hw1:IntKind.wrap .i64 ((i:Int)+1)=(i1:Int):=by rw [wr64 _ (by omega) (by omega)];omega
  refine xregQ fun Q' hQ=>?_
  simp [hus,hw1]
  subst hQ
  refine⟨22-i1,by omega,i1,rfl,by omega,rfl,rfl,fun w'' vs'' he k h1 h2=>?_,Sl.mk rfl (by simp [hus])⟩
  by_cases hk:k≤i
  ·exact hmiss w'' vs'' he k h1 hk
  ·obtain rfl:k=i+1:=by omega
   cases he;exact hm
 refine xblock ?_
 refine xseq (xdrw 3 fun Q' hQ=>?_)
 by_cases hit:wordOf (i+1)=w'
 rotate_left
 ·simp [hts,hrv,hi22,hc0,hc1,hvb,hel,hol,hit,rcs_len]
  subst hQ
  refine xno (by simp [hts]) (xskip ?_)
  exact⟨rfl,rfl,fun h=>hit h.1,Sl.mk rfl (by simp [hts])⟩
 by_cases hfl:((i+1) != 1)=decide (0<(n:Int))
 rotate_left
 ·rcases Nat.eq_zero_or_pos n with h0|h0
  ·subst h0
   have hi0:¬ i=0:=fun e=>hfl (by subst e;rfl)
   simp [hts,hrv,hi22,hc0,hc1,hvb,hel,hol,hit,rcs_len,beq4,hi0]
   subst hQ
   refine xno (by simp [hts]) (xskip ?_)
   exact⟨rfl,rfl,fun h=>hfl h.2,Sl.mk rfl (by simp [hts])⟩
  ·have hi0:i=0:=by
    rcases Nat.eq_zero_or_pos i with h|h
    ·exact h
    ·exact absurd (by rw [decide_eq_true (by omega)];simp;omega) hfl
   subst hi0
   simp [hts,hrv,hc0,hc1,hvb,hel,hol,hit,rcs_len,beq4,h0]
   subst hQ
   refine xno (by simp [hts]) (xskip ?_)
   exact⟨rfl,rfl,fun h=>hfl h.2,Sl.mk rfl (by simp [hts])⟩
 have hB:(!decide (i+1=1))=decide (0<n):=by
  have:(!decide (i+1=1))=((i+1) != 1):=by cases i<;>rfl
  rw [this,hfl];simp
 rw [hB] at hc1
 simp [hts,hrv,hi22,hc0,hc1,hvb,hel,hol,hit,rcs_len,beq4]
 subst hQ
 refine xyes (by simp [hts]) ?_
 clear hmiss
 obtain⟨x11,ts11,rfl,hts11⟩:=ln_succ (n:=113) hts
 obtain⟨x12,ts12,rfl,hts12⟩:=ln_succ (n:=112) hts11
 clear hts hts11
 obtain⟨vt,hvt,hWt⟩:=tlV_ok (m:=m5) (by omega) hvb hdr0
 obtain⟨at',hat⟩:=hWt.shape
 subst hat
 refine xseq (xdrw 4 fun Q' hQ=>?_)
 simp [hts12,hrv,hi22,hc3,rcs_len,hvb]
 generalize hX:oR _=X
 have hX2:X=.r (.slice at' vs.length vs.length):=by rw [← hX,← oR_some,← hvt];rfl
 rw [hX2]
 simp [hts12]
 obtain⟨m6,hm6⟩:∃ m6,m6=newObjA m5 (zeroObj 141 4 [Value.slice none 0 0,Value.slice none 0 0,Value.int IntKind.i64 0,Value.slice none 0 0]):=⟨_,rfl⟩
 obtain⟨q,hq⟩:∃ q,q=m5.next:=⟨_,rfl⟩
 have hq6:vw m6 q=some ⟨true,141,false,[Value.slice none 0 0,Value.slice none 0 0,Value.int IntKind.i64 0,Value.slice none 0 0]⟩:=by
  rw [hm6,vw_new,if_pos hq];exact vwO_zero1 141 [Value.slice none 0 0,Value.slice none 0 0,Value.int IntKind.i64 0,Value.slice none 0 0]
 have hn6:m6.next=q+1:=by rw [hm6,hq];rfl
 have hO6:Old m5.next m5 m6:=by rw [hm6];exact (Old.refl _ _).new (Nat.le_refl _) _
 rw [← hm6,← hq]
 clear hm6
 have hW6:WordsV m6 m6.next (.slice at' vs.length vs.length) vs:=hWt.ex (by omega) fun x hx=>hO6.vw hx
 refine xcall (ov_none (by decide)) (rread_ok (form:=formOf (i+1)) hW6 (by simp at hwsl';omega) (fun x hx=>hwls' x (.tail _ hx)) (formOf_len _)) ?_ (fun ch m' h=>h.elim)
 rintro r m7 ⟨f,a1,a2,a3,ok,rfl,hO7,h1,h2⟩
 have hq7:vw m7 q=some ⟨true,141,false,[Value.slice none 0 0,Value.slice none 0 0,Value.int IntKind.i64 0,Value.slice none 0 0]⟩:=by rw [hO7.vw (by omega)];exact hq6
 simp only [fsC]
 simp [hts12,hq7,stOk,oneC,vEq_fs]
 subst hQ
 obtain⟨g1,g2⟩:=step_hit hnd (k:=i+1) (by omega) (by omega) hit hfl
 have hst8:stOk ⟨true,141,false,[Value.slice none 0 0,Value.slice none 0 0,Value.int IntKind.i64 0,Value.slice none 0 0]⟩ 0 (fsC f a1 a2 a3)=true:=by simp [stOk,oneC,fsC]
 have hq8:=vw_stM_eq hq7 hst8
 obtain⟨m8,hm8⟩:∃ m8,m8=stM m7 q 0 (fsC f a1 a2 a3):=⟨_,rfl⟩
 have hO8:Old q m5 m8:=by
  rw [hm8];exact (((hO6.le (by omega)).trans (hO7.le (by omega))).st (Nat.le_refl _) _ _)
 rw [← hm8] at hq8
 have hg8:∀ x,x≠q→m8.objs.get x=m7.objs.get x:=fun x hx=>by rw [hm8,stM_get hx]
 have hn8:m8.next=m7.next:=by rw [hm8,stM_next]
 simp only [fsC] at hm8
 rw [← hm8]
 clear hm8
 have hO8':Old m.next m m8:=hO4'.trans (hO8.le (by have:=hO4'.1;omega))
 have hv8:vw m8 r0=some ⟨true,105,false,oneCells false false stu0 stp0 (.slice none 0 0) (.slice none 0 0)⟩:=by rw [hO8.vw (by omega)];exact hv4
 simp only [oneCells,stuCells',stpCells,stu0,stp0,List.cons_append,List.nil_append] at hv8
 cases ok with
 |false =>
  refine xseq (xseq (xregQ fun Q' hQ=>?_))
  simp [hts12]
  subst hQ
  refine xyes (by simp [hts12]) ?_
  refine xsr fun Q' hQ=>?_
  simp [hts12,hv8,stOk,oneC]
  subst hQ
  refine xret (fin (b1:=true) (b2:=false) (ok:=false) (x:=stu0) (s:=stp0) (ad:=none) (ac:=none) (nd:=0) (nc:=0) hO8' hv8 (fun _=>by rw [hline,g2 (h2 rfl)];rfl) (fun h=>by cases h) ?_)
  exact⟨_,_,_,rfl⟩
 |true =>
  obtain⟨hrd,hF⟩:=h1 rfl
  obtain⟨g3,g4⟩:=g1 f hrd
  refine xseq (xseq (xregQ fun Q' hQ=>?_))
  simp [hts12]
  subst hQ
  refine xno (by simp [hts12]) (xskip ?_)
  rw [thenA_normal]
  have hrv8:vw m8 k0=some ⟨true,88,false,rcs⟩:=by rw [hO8.vw (by omega)];exact hrv
  refine xseq (xdrw 4 fun Q' hQ=>?_)
  simp [hts12,hrv8,hi22,hrow,rcs_len,hlen4,hq8,spl_length,fsC]
  have hF8:FsV m6.next m8 f (.agg ⟨fsC f a1 a2 a3⟩):=by
   obtain⟨vi,vn,vt,e,o1,o2,o3⟩:=hF
   exact⟨vi,vn,vt,e,o1.ex (by omega) fun x hx h0 _=>hg8 x (by omega),o2.ex (by omega) fun x hx h0 _=>hg8 x (by omega),o3.ex (by omega) fun x hx h0 _=>hg8 x (by omega)⟩
  refine xcall (ov_none (by decide)) (rstep_ok (n:=(n:Int)) (i+1) (by omega) (by omega) hF8 g4) ?_ (fun ch m' h=>h.elim)
  rintro r m9 ⟨rfl,hO9⟩
  obtain⟨od,oc⟩:=step_owns (n:=(n:Int)) (i+1) (by omega) (by omega) hF8
  have od9:=(od.ex hO9.1 fun x hx _ _=>hO9.2 x hx).le (n0:=m.next) (by have:=hO4'.1;omega)
  have oc9:=(oc.ex hO9.1 fun x hx _ _=>hO9.2 x hx).le (n0:=m.next) (by have:=hO4'.1;omega)
  obtain⟨ad,had⟩:=od9.shape
  obtain⟨ac,hac⟩:=oc9.shape
  rw [had] at od9
  rw [hac] at oc9
  rw [had,hac]
  generalize hsv:stepF (i+1) (n:Int) f=sv at od9 oc9 g3 ⊢
  have hv9:vw m9 r0=some ⟨true,105,false,oneCells false false stu0 stp0 (.slice none 0 0) (.slice none 0 0)⟩:=by
   have hr8:r0<m8.next:=by have:=hO8.1;omega
   rw [hO9.vw hr8];exact hv8
  have hO9':Old m.next m m9:=hO8'.trans (hO9.le hO8'.1)
  simp only [oneCells,stuCells',stpCells,stu0,stp0,List.cons_append,List.nil_append] at hv9
  simp only [stpCells]
  simp [hts12,hv9,stOk,oneC]
  subst hQ
  refine xret (fin (b1:=true) (b2:=false) (ok:=true) (x:=stu0) (s:=sv) (ad:=ad) (ac:=ac) (nd:=sv.data.length) (nc:=sv.choices.length) hO9' hv9 (fun h=>by cases h) (fun _=>.inr (.inr ⟨rfl,rfl,by rw [hline,g3];rfl,od9,oc9⟩)) ?_)
  exact⟨_,_,_,rfl⟩
end Go.Proofs.YtgmkbdmgifdfeaaGreatDoor

set_option maxRecDepth 8000
namespace Go.Proofs.YtgmkbdmgifdfeaaGreatDoor
open Go Go.Ev
def z17:List Value:=[.int .i64 0,.int .i64 0,.int .i64 0,.int .u64 0,.int .u64 0,.slice none 0 0,.int .u64 0,.int .i64 0,.int .i64 0,.int .i64 0,.int .i64 0,.int .i64 0,.int .u32 0,.int .u64 0,.slice none 0 0,.int .i64 0,.int .u64 0]
theorem steps_app {n0:Nat} {m:Mem} {v:Value} {ss:List Stp} {s:Stp} {ad ac:Option Addr} {nd nc:Nat} (h:StepsAt n0 m v ss) (hn:n0≤m.next) (hd:Own n0 m (.slice ad nd nd) 5 s.data.length (u8s s.data)) (hc:Own n0 m (.slice ac nc nc) 3 s.choices.length (i64s s.choices)) :
  ∃ aw bn m3,v=.slice aw ss.length ss.length∧appendTo (newObjA m (.row ⟨T.setL (stpCells s (.slice ad nd nd) (.slice ac nc nc)) 0 .lf,17,z17,36,.none,false⟩)) 36 17 (.slice aw ss.length ss.length) 1 (stpCells s (.slice ad nd nd) (.slice ac nc nc))=some (.slice (some ⟨bn,0,none⟩) (ss.length+1) (ss.length+1),m3) ∧
    StepsAt n0 m3 (.slice (some ⟨bn,0,none⟩) (ss.length+1) (ss.length+1)) (ss++[s])∧Old n0 m m3∧m.next+1≤m3.next∧∀ x V,x<m.next→vw m x=some V→(V.elem≠36∨V.ext=false)→m3.objs.get x=m.objs.get x:=by
 obtain⟨cells,hown,hcl,hce⟩:=h
 obtain⟨aw,rfl⟩:=hown.shape
 have hone:(stpCells s (.slice ad nd nd) (.slice ac nc nc)).all oneC=true:=rfl
 have hO13:Old m.next m (newObjA m (.row ⟨T.setL (stpCells s (.slice ad nd nd) (.slice ac nc nc)) 0 .lf,17,z17,36,.none,false⟩)):=(Old.refl _ _).new (Nat.le_refl _) _
 obtain⟨v',m14,k1,k2,k3,k4,bn,k5,k6⟩:=hown.append (k:=0) (sz:=17) (new:=stpCells s (.slice ad nd nd) (.slice ac nc nc)) hO13 hn hcl (by rw [stpl]) hone
 subst k5
 have hbv:∀ x,blkV (.slice aw ss.length ss.length)=some x→x<m.next∧vw m x=some ⟨true,36,true,cells⟩:=by
  intro x hx
  rcases hown with ⟨e,_⟩|⟨b,e,q1,q2,q3⟩
  ·rw [e] at hx;cases hx
  ·rw [e] at hx;have:b=x:=Option.some.inj hx
   subst this;exact⟨q2,q3⟩
 have hn14:m.next+1≤m14.next:=by have:=k3.1;rw [next_newObjA] at this;exact this
 have hstay:∀ x V,x<m.next→vw m x=some V→(V.elem≠36∨V.ext=false)→m14.objs.get x=m.objs.get x:=by
  intro x V hx hV hV2
  have e3:blkV (.slice aw ss.length ss.length)≠some x:=fun e=>by
   obtain⟨q1,q2⟩:=hbv x e
   rw [q2] at hV
   cases hV
   rcases hV2 with h|h
   ·exact h rfl
   ·cases h
  rw [k3.2 x (by rw [next_newObjA];omega) e3,get_newObjA,if_neg (by omega)]
 have hold:∀ {v:Value} {e:TypeId} {k:Nat} {cs:List Value},Own n0 m v e k cs→e≠36→Own n0 m14 v e k cs:=fun h he =>
  h.ex (by omega) fun x hx _ hV=>hstay x _ hx hV (.inl he)
 refine⟨aw,bn,m14,rfl,k1,⟨cells++stpCells s (.slice ad nd nd) (.slice ac nc nc),by simpa using k2,by simp [hcl,stpl];omega,fun k2 s2 hs2=>?_⟩,((Old.refl n0 m).new hn _).trans k4,hn14,hstay⟩
 by_cases hlt:k2<ss.length
 ·rw [List.getElem?_append_left hlt] at hs2
  obtain⟨d',c',q1,q2,q3⟩:=hce k2 s2 hs2
  refine⟨d',c',?_,hold q2 (by decide),hold q3 (by decide)⟩
  rw [← q1];unfold takeN
  rw [List.drop_append_of_le_length (by omega),List.take_append_of_le_length (by simp;omega)]
 ·rw [List.getElem?_append_right (by omega)] at hs2
  have hk2:=(List.getElem?_eq_some_iff.1 hs2).1
  simp only [List.length_cons,List.length_nil] at hk2
  obtain rfl:k2=ss.length:=by omega
  simp only [Nat.sub_self,List.getElem?_cons_zero,Option.some.injEq] at hs2
  subst hs2
  refine⟨_,_,?_,hold hd (by decide),hold hc (by decide)⟩
  unfold takeN
  rw [← hcl,List.drop_left,List.take_of_length_le (by rw [stpl];omega)]
end Go.Proofs.YtgmkbdmgifdfeaaGreatDoor

set_option maxRecDepth 8000
namespace Go.Proofs.YtgmkbdmgifdfeaaGreatDoor
open Go Go.Ev
theorem resX_c3 {l:List Value} {m:Mem} {i j k p b:Nat} {t:TypeId} {v:Value} (h:gx l i=.pointer (some ⟨b,0,none⟩)) (hv:loadA tb t m b 0=some v):resX tb [.cell i t,.tmp j,.tmp k,.tmp p] l m=some (.tuple ⟨[v,gx l j,gx l k,gx l p]⟩):=by
 have h1:=slots_ofList l i
 have h2:=slots_ofList l j
 have h4:=slots_ofList l k
 have h5:=slots_ofList l p
 rw [gx_eq] at h1 h2 h4 h5
 simp only [ev] at h1 h2 h4 h5
 have h3:(T.ofList l).get i=some (.pointer (some ⟨b,0,none⟩)):=by
  cases hg:(T.ofList l).get i with
  |none=>rw [hg,h] at h1;cases h1
  |some x=>rw [hg,h] at h1;rw [show x=_ from h1]
 simp only [resX,resA,h3,oB,hv,h2,h4,h5]
theorem WordsV.ex' {p p':Nat} {m m':Mem} {v:Value} {ws:List (List UInt8)} (h:WordsV m p v ws) (hp:p≤p') (hg:∀ x V,x<p→vw m x=some V→V.elem=9→vw m' x=vw m x):WordsV m' p' v ws:=by
 rcases h with h|⟨b,all,h1,h2,h3⟩
 ·exact .inl h
 ·exact .inr ⟨b,all,by omega,by rw [hg b _ h1 h2 rfl];exact h2,h3⟩
structure RPI (m0:Mem) (tx:List UInt8) (p:Nat) (lv:Value) (i:Nat) (s:Scr) (v:Value) (m:Mem):Prop where
 go:parseGo s (i:Int) ((cutLines tx).drop i)=parseOut tx
 old:Old m0.next m0 m
 nx:m0.next+2≤m.next
 np:p≤m.next
 out:vw m m0.next=some ⟨true,26,false,stuCells' stu0⟩
 stu:vw m (m0.next+1)=some ⟨true,26,false,stuCells' s.setup⟩
 steps:StepsAt m0.next m v s.steps
 cnt:s.steps.length≤i
 lns:WordsV m p lv (cutLines tx)
theorem rparse_ok {m:Mem} {tx:List UInt8} (hm8:8≤m.next) (hlen:tx.length≤9223372036854775807):CallsA tb 20 [.string ⟨⟨tx⟩⟩] m (retR (ParseR m tx)):=by
 refine callsS Tryz.func20 e20 rfl rfl ?_
 simp only [s20,List.replicate,List.length_cons,List.length_nil,List.cons_append,List.nil_append,Nat.reduceAdd,Nat.reduceSub]
 obtain⟨r0,hr0⟩:∃ r0,r0=m.next:=⟨_,rfl⟩
 refine xseqN (fun l ds m'=>ds=[]∧Old m.next m m'∧m'.next=r0+1∧vw m' r0=some ⟨true,26,false,stuCells' stu0⟩∧Sl [.string ⟨⟨tx⟩⟩,undef,.pointer (some ⟨r0,0,none⟩),.slice none 0 0,.int .i64 0,.int .i64 0] 59 l) ?_ ?_
 rotate_left
 ·refine xregQ fun Q' hQ=>?_
  simp
  subst hQ
  refine⟨rfl,(Old.refl _ _).new (Nat.le_refl _) _,by rw [next_newObjA,hr0],?_,Sl.mk (by rw [hr0];rfl) rfl⟩
  rw [vw_new,if_pos hr0];exact vwO_zero1 26 (stuCells' stu0)
 rintro l ds m1 ⟨rfl,hO1,hn1,hv1,ts,hts,rfl⟩
 have fin:∀ {x:Stu} {ss:List Stp} {n e:Int} {v:Value} {m4:Mem},parseOut tx=(x,ss,n,e)→Old m.next m m4→vw m4 r0=some ⟨true,26,false,stuCells' stu0⟩→StepsAt m.next m4 v ss →
   ∀ {l:List Value},(∃ x0 x1 ts,l=x0::x1::.pointer (some ⟨r0,0,none⟩)::v::.int .i64 n::.int .i64 e::ts)→endX tb Tryz.f20.results.toList (retR (ParseR m tx)) (.jump .ret) l [] (stM m4 r0 0 (stuCells' x)):=by
  rintro x ss n e v m4 hpo hO hv hst l ⟨x0,x1,ts,rfl⟩
  have hs:stOk ⟨true,26,false,stuCells' stu0⟩ 0 (stuCells' x)=true:=rfl
  refine⟨rfl,_,resX_c3 (i:=2) (j:=3) (k:=4) (p:=5) rfl (load_st Ty.ti26 Ty.g26 hv hs rfl (by rw [Ty.s26];rfl)),v,by rw [hpo];rfl,?_,?_⟩
  ·rw [hpo]
   refine hst.ex (by rw [stM_next];exact Nat.le_refl _) fun y V hy h0 hV hx=>stM_get fun e=>?_
   subst e;rw [hv] at hV;cases hV;cases hx
  ·exact⟨by rw [stM_next];exact hO.1,fun y hy=>by rw [stM_get (by omega)];exact hO.2 y hy⟩
 simp only [stuCells',stu0] at hv1
 refine xseqN (fun l ds m'=>ds=[]∧m'=m1∧tx.length≤1048576∧Sl [.string ⟨⟨tx⟩⟩,undef,.pointer (some ⟨r0,0,none⟩),.slice none 0 0,.int .i64 0,.int .i64 0] 59 l) ?_ ?_
 rotate_left
 ·refine xsr fun Q' hQ=>?_
  by_cases hbig:1048576<tx.length
  ·have hbig':(1048576:Int)<(tx.length:Int):=by omega
   simp [hts,hbig']
   subst hQ
   refine xyes (by simp [hts,hbig]) ?_
   refine xsr fun Q' hQ=>?_
   simp [hts,hv1,stOk,oneC]
   subst hQ
   refine xret (fin (x:=stu0) (ss:=[]) (n:=0) (e:=81) (v:=.slice none 0 0) (by unfold parseOut;rw [if_pos hbig]) hO1 hv1 (steps_nil _ _) ?_)
   exact⟨_,_,_,rfl⟩
  ·have hbig':¬ (1048576:Int)<(tx.length:Int):=by omega
   simp [hts,hbig']
   subst hQ
   refine xno (by simp [hts,hbig]) (xskip ?_)
   exact⟨rfl,rfl,by omega,Sl.mk rfl (by simp [hts])⟩
 clear hts
 rintro l ds m2 ⟨rfl,rfl,hsm,ts,hts,rfl⟩
 have hpo:parseOut tx=parseGo ⟨stu0,[],false⟩ 0 (cutLines tx):=by unfold parseOut;rw [if_neg (by omega)]
 obtain⟨x6,ts6,rfl,hts6⟩:=ln_succ (n:=58) hts
 obtain⟨x7,ts7,rfl,hts7⟩:=ln_succ (n:=57) hts6
 obtain⟨x8,ts8,rfl,hts8⟩:=ln_succ (n:=56) hts7
 obtain⟨x9,ts9,rfl,hts9⟩:=ln_succ (n:=55) hts8
 obtain⟨x10,ts10,rfl,hts10⟩:=ln_succ (n:=54) hts9
 clear hts hts6 hts7 hts8 hts9
 obtain⟨m3,hm3⟩:∃ m3,m3=newObjA m2 (zeroObj 26 9 (stuCells' stu0)):=⟨_,rfl⟩
 have hn3:m3.next=r0+2:=by rw [hm3,next_newObjA,hn1]
 have hv30:vw m3 r0=some ⟨true,26,false,stuCells' stu0⟩:=by rw [hm3,vw_new,if_neg (by omega)];exact hv1
 have hv31:vw m3 (r0+1)=some ⟨true,26,false,stuCells' stu0⟩:=by rw [hm3,vw_new,if_pos (by omega)];exact vwO_zero1 26 (stuCells' stu0)
 have hO3:Old m.next m m3:=by rw [hm3];exact hO1.new (by omega) _
 simp only [stuCells',stu0] at hm3
 refine xsr fun Q' hQ=>?_
 simp [hts10,hn1,← hm3]
 subst hQ
 refine xsr fun Q' hQ=>?_
 simp [hts10]
 subst hQ
 refine xsr fun Q' hQ=>?_
 simp [hts10]
 subst hQ
 refine xsr fun Q' hQ=>?_
 simp [hts10]
 refine xcall (ov_none (by decide)) (rlines_ok (m:=m3) (tx:=tx) (by omega)) ?_ (fun ch m' h=>h.elim)
 rintro lv m4 ⟨hown,hO4,hll⟩
 subst hQ
 obtain⟨cl1,cl2⟩:=cut_len tx
 obtain⟨al,rfl⟩:=hown.shape
 have hW:=words_of_own hown (Nat.le_refl _)
 obtain⟨L,hL⟩:∃ L,L=(cutLines tx).length:=⟨_,rfl⟩
 rw [← hL] at hll cl1
 have hI0:RPI m tx m4.next (.slice al (cutLines tx).length (cutLines tx).length) 0 ⟨stu0,[],false⟩ (.slice none 0 0) m4:=by
  refine⟨by rw [hpo];rfl,hO3.trans (hO4.le (by omega)),by have:=hO4.1;omega,Nat.le_refl _,by rw [← hr0,hO4.vw (by omega)];exact hv30,by rw [← hr0,hO4.vw (by omega)];exact hv31,steps_nil _ _,Nat.le_refl _,hW⟩
 obtain⟨p,hp⟩:∃ p,p=m4.next:=⟨_,rfl⟩
 rw [← hp] at hI0
 clear hW hown hO4 hv30 hv31 hO3 hm3 hO1 hv1
 refine xseqN (fun l ds m'=>ds=[]∧∃ (s:Scr) (v x9 x10:Value),RPI m tx p (.slice al (cutLines tx).length (cutLines tx).length) L s v m'∧Sl [.string ⟨⟨tx⟩⟩,undef,.pointer (some ⟨r0,0,none⟩),.slice none 0 0,.int .i64 0,.int .i64 0,.pointer (some ⟨r0+1,0,none⟩),v,.bool s.begun,x9,x10] 54 l) ?_ ?_
 ·rintro l ds m5 ⟨rfl,s,v,x9,x10,hI,us,hus,rfl⟩
  have hgo:=hI.go
  rw [hL,List.drop_length] at hgo
  have hout:=hI.out
  have hstu:=hI.stu
  have hst:=hI.steps
  rw [← hr0] at hout hstu
  simp only [stuCells',stu0] at hout
  refine xseq (xseq (xregQ fun Q' hQ=>?_))
  cases hbg:s.begun with
  |false =>
   have hp2:parseOut tx=(stu0,[],1,210):=by rw [← hgo];simp [parseGo,hbg]
   simp [hus]
   subst hQ
   refine xyes (by simp [hus]) ?_
   refine xsr fun Q' hQ=>?_
   simp [hus,hout,stOk,oneC]
   subst hQ
   refine xret (fin (x:=stu0) (ss:=[]) (n:=1) (e:=210) (v:=.slice none 0 0) hp2 hI.old hout (steps_nil _ _) ?_)
   exact⟨_,_,_,rfl⟩
  |true =>
   have hp2:parseOut tx=(s.setup,s.steps,0,0):=by rw [← hgo];simp [parseGo,hbg]
   simp [hus]
   subst hQ
   refine xno (by simp [hus]) (xskip ?_)
   rw [thenA_normal]
   simp only [stuCells'] at hstu
   refine xsr fun Q' hQ=>?_
   simp [hus,hout,hstu,stOk,oneC]
   subst hQ
   refine xret (fin (x:=s.setup) (ss:=s.steps) (n:=0) (e:=0) (v:=v) hp2 hI.old hout hst ?_)
   exact⟨_,_,_,rfl⟩
 refine xsr fun Q' hQ=>?_
 simp [hts10]
 subst hQ
 refine xblock (xwhile (N:=L) (I:=fun q l ds m5=>∃ (i:Nat) (s:Scr) (v:Value),q=L-i∧i≤L∧ds=[]∧RPI m tx p (.slice al (cutLines tx).length (cutLines tx).length) i s v m5 ∧
   Sl [.string ⟨⟨tx⟩⟩,undef,.pointer (some ⟨r0,0,none⟩),.slice none 0 0,.int .i64 0,.int .i64 0,.pointer (some ⟨r0+1,0,none⟩),v,.bool s.begun,.slice al L L,.int .i64 (i:Nat)] 54 l) ?_ ?_)
 ·refine⟨0,⟨stu0,[],false⟩,.slice none 0 0,rfl,by omega,rfl,hI0,?_⟩
  rw [hL]
  exact Sl.mk rfl (by simp [hts10])
 clear hts10 hI0
 rintro q l ds m5 ⟨i,s,v,rfl,hi,rfl,hI,ts,hts,rfl⟩
 obtain⟨x11,ts11,rfl,hts11⟩:=ln_succ (n:=53) hts
 obtain⟨x12,ts12,rfl,hts12⟩:=ln_succ (n:=52) hts11
 clear hts hts11
 refine xseq (xseq (xregQ fun Q' hQ=>?_))
 simp [hts12]
 subst hQ
 refine xif (v:=decide ((i:Int)<(L:Int))) (by simp [hts12]) (fun h=>xskip ?_) (fun h=>xexit ?_)
 rotate_left
 ·simp only [decide_eq_false_iff_not] at h
  obtain rfl:i=L:=by omega
  exact⟨rfl,s,v,_,_,hI,Sl.mk rfl (by simp [hts12])⟩
 simp only [decide_eq_true_eq] at h
 have hiL:i<L:=by omega
 obtain⟨ln,hln⟩:∃ ln,(cutLines tx)[i]? = some ln:=⟨_,List.getElem?_eq_getElem (by omega)⟩
 have hlnl:ln.length≤2000000:=by have:=cl2 ln (List.mem_of_getElem? hln);omega
 have hdr:(cutLines tx).drop i=ln::(cutLines tx).drop (i+1):=by
  obtain⟨h1,h2⟩:=List.getElem?_eq_some_iff.1 hln
  rw [List.drop_eq_getElem_cons h1,h2]
 obtain⟨b,o,all,hav,hb,hvb,hel,hol⟩:=hI.lns.get hln
 obtain rfl:al=some ⟨b,o,none⟩:=by cases hav;rfl
 have hgo:=hI.go
 rw [hdr] at hgo
 rw [thenA_normal]
 obtain⟨i1,hi1⟩:∃ i1,i1=i+1:=⟨_,rfl⟩
 have hw1:IntKind.wrap .i64 ((i:Int)+1)=(i1:Int):=by rw [wr64 _ (by omega) (by omega)];omega
 refine xseqN (fun l ds m'=>ds=[]∧∃ (s:Scr) (v:Value),RPI m tx p (.slice (some ⟨b,o,none⟩) (cutLines tx).length (cutLines tx).length) i1 s v m'∧Sl [.string ⟨⟨tx⟩⟩,undef,.pointer (some ⟨r0,0,none⟩),.slice none 0 0,.int .i64 0,.int .i64 0,.pointer (some ⟨r0+1,0,none⟩),v,.bool s.begun,.slice (some ⟨b,o,none⟩) L L,.int .i64 (i:Nat)] 54 l) ?_ ?_
 ·rintro l ds m6 ⟨rfl,s,v,hI,us,hus,rfl⟩
  refine xregQ fun Q' hQ=>?_
  simp [hus,hw1]
  subst hQ
  exact⟨L-i1,by omega,i1,s,v,rfl,by omega,rfl,hI,Sl.mk rfl (by simp [hus])⟩
 refine xblock (xseq (xregQ fun Q' hQ=>?_))
 simp [hts12,hiL,hvb,hel,hol]
 refine xcall (ov_none (by decide)) (rone_ok (m:=m5) hlnl (by have:=hI.nx;omega)) ?_ (fun ch m' h=>h.elim)
 rintro r m6 ⟨b1,b2,x,t,ad,nd,ac,nc,ok,rfl,hO6,h0,h1⟩
 simp only [oneCells,stuCells',stpCells,List.cons_append,List.nil_append]
 simp [hts12,stOk,oneC]
 subst hQ
 obtain⟨m7,hm7,hn7,hv7,hg7⟩:=alloc_st' m6 105 28 (oneCells false false stu0 stp0 (.slice none 0 0) (.slice none 0 0)) (oneCells b1 b2 x t (.slice ad nd nd) (.slice ac nc nc)) rfl rfl rfl
 obtain⟨q,hq⟩:∃ q,q=m6.next:=⟨_,rfl⟩
 simp only [oneCells,stuCells',stpCells,stu0,stp0,List.cons_append,List.nil_append] at hm7 hv7
 rw [← hm7]
 rw [← hq] at hm7 hv7 hn7 hg7 ⊢
 clear hm7
 have hO7:Old m5.next m5 m7:=⟨by have:=hO6.1;omega,fun y hy=>by rw [hg7 y (by have:=hO6.1;omega)];exact hO6.2 y hy⟩
 have hW7:WordsV m7 p (.slice (some ⟨b,o,none⟩) (cutLines tx).length (cutLines tx).length) (cutLines tx):=hI.lns.ex (Nat.le_refl _) fun y hy=>hO7.vw (by have:=hI.np;omega)
 have hnx:=hI.nx
 have hnp:=hI.np
 have hout:vw m7 r0=some ⟨true,26,false,stuCells' stu0⟩:=by rw [hO7.vw (by omega),hr0];exact hI.out
 have hstu:vw m7 (r0+1)=some ⟨true,26,false,stuCells' s.setup⟩:=by rw [hO7.vw (by omega),hr0];exact hI.stu
 have hst7:StepsAt r0 m7 v s.steps:=by
  rw [hr0];exact hI.steps.ex hO7.1 fun y V hy _ _ _=>hO7.2 y hy
 have hOm:Old m.next m m7:=hI.old.trans (hO7.le (by omega))
 have hcnt:=hI.cnt
 have hgx:∀ s',takeLn s ln=some s'→parseGo s' (i1:Int) ((cutLines tx).drop i1)=parseOut tx:=fun s' h=>by
  rw [← hgo,parseGo,h,hi1];rfl
 have hgf:takeLn s ln=none→parseOut tx=(stu0,[],(i1:Int),210):=fun h=>by
  rw [← hgo,parseGo,h,hi1];rfl
 simp only [stuCells',stu0] at hout
 have bad:takeLn s ln=none→∀ {l:List Value},Sl [.string ⟨⟨tx⟩⟩,undef,.pointer (some ⟨r0,0,none⟩),.slice none 0 0,.int .i64 0,.int .i64 0,.pointer (some ⟨r0+1,0,none⟩),v,.bool s.begun,.slice (some ⟨b,o,none⟩) L L,.int .i64 (i:Nat)] 54 l →
   ∀ {Q:PostA},(∀ {l:List Value} {m':Mem},endX tb Tryz.f20.results.toList (retR (ParseR m tx)) (.jump .ret) l [] m'→Q (.jump .ret) l [] m')→wpX tb ⟨20,.normal,none⟩ (.seq (.reg [⟨some 45,.build 26 #[],26,.no⟩,⟨some 46,.move (.tmp 10),3,.no⟩,⟨some 47,.binOp .add 3 (.tmp 46) (.const (.int .i64 1)) 3,3,.no⟩,⟨none,.store 26 (.tmp 2) (.tmp 45),0,.no⟩,⟨some 3,.assign (.const (.slice none 0 0)),27,.no⟩,⟨some 4,.assign (.tmp 47),3,.no⟩,⟨some 5,.assign (.const (.int .i64 210)),3,.no⟩]) .ret) l [] m7 Q:=by
  rintro hno l ⟨us,hus,rfl⟩ Q hQ0
  refine xsr fun Q' hQ=>?_
  simp [hus,hout,stOk,oneC,hw1]
  subst hQ
  refine xret (hQ0 (fin (x:=stu0) (ss:=[]) (n:=(i1:Int)) (e:=210) (v:=.slice none 0 0) (hgf hno) hOm hout (steps_nil _ _) ?_))
  exact⟨_,_,_,rfl⟩
 have take:takeLn s ln=match lineOf ln with
   |none=>none
   |some .nothing=>some s
   |some (.head x)=>if s.begun then none else some { s with setup:=x,begun:=true }
   |some (.step t)=>if s.begun then some { s with steps:=s.steps++[t] } else none:=rfl
 refine xseqN (fun l ds m'=>ds=[]∧m'=m7∧((b1=false∧lineOf ln=some .nothing)∨(b1=true∧b2=true∧s.begun=false∧lineOf ln=some (.head x)) ∨
   (b1=true∧b2=false∧s.begun=true∧lineOf ln=some (.step t)∧Own m5.next m6 (.slice ad nd nd) 5 t.data.length (u8s t.data)∧Own m5.next m6 (.slice ac nc nc) 3 t.choices.length (i64s t.choices))) ∧
   Sl [.string ⟨⟨tx⟩⟩,undef,.pointer (some ⟨r0,0,none⟩),.slice none 0 0,.int .i64 0,.int .i64 0,.pointer (some ⟨r0+1,0,none⟩),v,.bool s.begun,.slice (some ⟨b,o,none⟩) L L,.int .i64 (i:Nat),.pointer (some ⟨q,0,none⟩)] 53 l) ?_ ?_
 rotate_left
 ·refine xsr fun Q' hQ=>?_
  cases ok with
  |false =>
   have hno:takeLn s ln=none:=by rw [take,h0 rfl]
   simp [hts12]
   subst hQ
   refine xyes (by simp [hts12]) ?_
   refine bad hno ?_ ?_
   ·exact Sl.mk rfl (by simp [hts12])
   ·exact fun h=>h
  |true =>
   rcases h1 rfl with ⟨rfl,hl⟩|⟨rfl,rfl,hl⟩|⟨rfl,rfl,hl,o1,o2⟩
   ·simp [hts12,hv7]
    subst hQ
    refine xno (by simp [hts12]) (xskip ?_)
    exact⟨rfl,rfl,.inl ⟨rfl,hl⟩,Sl.mk rfl (by simp [hts12])⟩
   ·cases hbg:s.begun with
    |true =>
     have hno:takeLn s ln=none:=by rw [take,hl];simp [hbg]
     simp [hts12,hv7,beq4]
     subst hQ
     refine xyes (by simp [hts12]) ?_
     refine bad hno ?_ ?_
     ·exact Sl.mk (by rw [hbg];rfl) (by simp [hts12])
     ·exact fun h=>h
    |false =>
     simp [hts12,hv7,beq4]
     subst hQ
     refine xno (by simp [hts12]) (xskip ?_)
     exact⟨rfl,rfl,.inr (.inl ⟨rfl,rfl,hbg,hl⟩),Sl.mk (by rw [hbg];rfl) (by simp [hts12])⟩
   ·cases hbg:s.begun with
    |false =>
     have hno:takeLn s ln=none:=by rw [take,hl];simp [hbg]
     simp [hts12,hv7,beq4]
     subst hQ
     refine xyes (by simp [hts12]) ?_
     refine bad hno ?_ ?_
     ·exact Sl.mk (by rw [hbg];rfl) (by simp [hts12])
     ·exact fun h=>h
    |true =>
     simp [hts12,hv7,beq4]
     subst hQ
     refine xno (by simp [hts12]) (xskip ?_)
     exact⟨rfl,rfl,.inr (.inr ⟨rfl,rfl,hbg,hl,o1,o2⟩),Sl.mk (by rw [hbg];rfl) (by simp [hts12])⟩
 clear hts12 bad
 rintro l ds m8 ⟨rfl,rfl,hcase,ts,hts,rfl⟩
 rcases hcase with ⟨rfl,hl⟩|⟨rfl,rfl,hbg,hl⟩|⟨rfl,rfl,hbg,hl,o1,o2⟩
 ·
  refine xseq (xseq (xregQ fun Q' hQ=>?_))
  simp [hts,hv7]
  subst hQ
  refine xyes (by simp [hts]) ?_
  refine xexit ⟨rfl,s,v,⟨hgx s (by rw [take,hl]),hOm,by have:=hO7.1;omega,by have:=hO7.1;omega,by rw [← hr0];exact hout,by rw [← hr0];exact hstu,by rw [← hr0];exact hst7,by omega,hW7⟩,Sl.mk rfl (by simp [hts])⟩
 ·
  refine xseq (xseq (xregQ fun Q' hQ=>?_))
  simp [hts,hv7]
  subst hQ
  refine xno (by simp [hts]) (xskip ?_)
  rw [thenA_normal]
  refine xsr fun Q' hQ=>?_
  simp [hts,hv7]
  subst hQ
  refine xyes (by simp [hts]) ?_
  have hs:stOk ⟨true,26,false,stuCells' s.setup⟩ 0 (stuCells' x)=true:=rfl
  have hnew:=vw_stM_eq hstu hs
  rw [spl_eq (by show 0+9≤9;omega)] at hnew
  have htk9:takeLn s ln=some { s with setup:=x,begun:=true }:=by rw [take,hl];simp [hbg]
  have hO9:Old m.next m (stM m8 (r0+1) 0 (stuCells' x)):=hOm.st (by omega) _ _
  have hRP:RPI m tx p (.slice (some ⟨b,o,none⟩) (cutLines tx).length (cutLines tx).length) i1 { s with setup:=x,begun:=true } v (stM m8 (r0+1) 0 (stuCells' x)):=by
   refine⟨hgx _ htk9,hO9,by rw [stM_next];have:=hO7.1;omega,by rw [stM_next];have:=hO7.1;omega,by rw [← hr0,vw_stM_ne (by omega)];exact hout,?_,?_,by simp;omega,?_⟩
   ·rw [← hr0,hnew];rfl
   ·rw [← hr0]
    refine hst7.ex (by rw [stM_next];exact Nat.le_refl _) fun y V hy h0 hV hx=>stM_get fun e=>?_
    subst e;rw [hstu] at hV;cases hV;cases hx
   ·refine hW7.ex' (Nat.le_refl _) fun y V hy hV he=>vw_stM_ne fun e=>?_
    subst e;rw [hstu] at hV;cases hV;cases he
  simp only [stuCells'] at hstu hRP
  refine xsr fun Q' hQ=>?_
  simp [hts,hv7,hstu,stOk,oneC]
  subst hQ
  generalize stM m8 (r0+1) 0 [Value.int IntKind.i64 x.mtu,Value.int IntKind.u64 x.ack,Value.int IntKind.u64 x.retry,Value.int IntKind.i64 x.retries,Value.int IntKind.i64 x.window,Value.int IntKind.i64 x.inbox,Value.int IntKind.i64 x.sectors,Value.int IntKind.i64 x.room,Value.int IntKind.u64 x.start]=m9 at hRP
  refine xregQ fun Q' hQ=>?_
  simp [hts]
  subst hQ
  exact⟨rfl,{ s with setup:=x,begun:=true },v,hRP,Sl.mk rfl (by simp [hts])⟩
 ·
  refine xseq (xseq (xregQ fun Q' hQ=>?_))
  simp [hts,hv7]
  subst hQ
  refine xno (by simp [hts]) (xskip ?_)
  rw [thenA_normal]
  refine xsr fun Q' hQ=>?_
  simp [hts,hv7]
  subst hQ
  refine xno (by simp [hts]) ?_
  have htk9:takeLn s ln=some { s with steps:=s.steps++[t] }:=by rw [take,hl];simp [hbg]
  have own:∀ {v:Value} {e:TypeId} {n:Nat} {cs:List Value},Own m5.next m6 v e n cs→Own r0 m8 v e n cs:=fun ho =>
   (ho.ex (by omega) fun y hy _ _=>hg7 y (by omega)).le (by omega)
  obtain⟨aw,bn,m9,rfl,g1,g2,g3,g4,g5⟩:=steps_app hst7 (by have:=hO7.1;omega) (own o1) (own o2)
  have hRP:RPI m tx p (.slice (some ⟨b,o,none⟩) (cutLines tx).length (cutLines tx).length) i1 { s with steps:=s.steps++[t] } (.slice (some ⟨bn,0,none⟩) (s.steps.length+1) (s.steps.length+1)) m9:=by
   refine⟨hgx _ htk9,hOm.trans (g3.le (by omega)),by have:=hO7.1;omega,by have:=hO7.1;omega,?_,?_,by rw [← hr0];exact g2,by simp;omega,?_⟩
   ·rw [← hr0]
    have:=g5 r0 _ (by have:=hO7.1;omega) hout (.inr rfl)
    unfold vw at hout ⊢;rw [this];exact hout
   ·rw [← hr0]
    have:=g5 (r0+1) _ (by have:=hO7.1;omega) hstu (.inr rfl)
    unfold vw at hstu ⊢;rw [this];exact hstu
   ·refine hW7.ex' (Nat.le_refl _) fun y V hy hV he=>?_
    have:=g5 y V (by have:=hO7.1;omega) hV (.inl (by rw [he];decide))
    unfold vw;rw [this]
  have hsl:s.steps.length≤8000000:=by omega
  simp only [stpCells,z17] at g1
  refine xregQ fun Q' hQ=>?_
  simp [hts,hv7,fits_true _ s.steps.length s.steps.length 1 168 (by omega),g1]
  subst hQ
  exact⟨rfl,{ s with steps:=s.steps++[t] },_,hRP,Sl.mk rfl (by simp [hts])⟩
end Go.Proofs.YtgmkbdmgifdfeaaGreatDoor

set_option maxRecDepth 8000
namespace Go.Proofs.YtgmkbdmgifdfeaaGreatDoor
open Go Go.Ev
theorem num_ok (m:Mem) (z:Int):CallsA tb 15 [.int .i64 z] m (retR fun r m'=>r=.int .i64 z∧m'=m):=by
 refine callsS Tryz.func15 e15 rfl rfl ?_
 simp only [s15,List.replicate,List.length_cons,List.length_nil,List.cons_append,List.nil_append,Nat.reduceAdd,Nat.reduceSub]
 refine xsr fun Q' hQ=>?_
 simp
 subst hQ
 refine xsr fun Q' hQ=>?_
 simp
 subst hQ
 exact xret ⟨rfl,_,resX_one _,rfl,rfl⟩
theorem guard32:(tv 32).guard=false:=by kernel_rfl
theorem held32:(tv 32).held=false:=by kernel_rfl
theorem b_neq32 (m:Mem) (x y:Operand) (a b:Int):binA tb m .neq 32 x y (.agg ⟨[.int .i64 a,.int .i64 b]⟩) (.agg ⟨[.int .i64 a,.int .i64 b]⟩)=some (.bool false):=by
 have h3:∀ z:Int,eqA tb m 63 3 (.int .i64 z) (.int .i64 z)=some true:=by
  intro z
  unfold eqA
  simp only [Ty.ti3,oB,Ty.d3,eqInt,kEq_self,intEq_eq,beq_self_eq_true]
 have e:eqA tb m 64 32 (.agg ⟨[.int .i64 a,.int .i64 b]⟩) (.agg ⟨[.int .i64 a,.int .i64 b]⟩)=some true:=by
  rw [eqA]
  simp only [Ty.ti32,oB,Ty.d32,eqSt,held32,Ty.f32]
  have p0:partA tb 3 [Value.int IntKind.i64 a,Value.int IntKind.i64 b] 0=some (.int .i64 a):=by
   unfold partA;simp only [Ty.ti3,Ty.g3,oB];rfl
  have p1:partA tb 3 [Value.int IntKind.i64 a,Value.int IntKind.i64 b] 1=some (.int .i64 b):=by
   unfold partA;simp only [Ty.ti3,Ty.g3,oB];rfl
  simp only [eqFields,p0,p1,oB,h3]
 unfold binA
 simp only [eqOp,guardOk,Ty.ti32,guard32,Bool.not_false,e,oB,Bool.not_true]
theorem sameStep_ok {m:Mem} {s:Stp} {ad ac ad' ac':Option Addr} {dc cc dc' cc':Nat} (hd:SlAt m (.slice ad s.data.length dc) s.data.length (u8s s.data)) (hd':SlAt m (.slice ad' s.data.length dc') s.data.length (u8s s.data))
  (hc:SlAt m (.slice ac s.choices.length cc) s.choices.length (i64s s.choices)) (hc':SlAt m (.slice ac' s.choices.length cc') s.choices.length (i64s s.choices)) (hb:s.choices.length≤1000000000) :
  CallsA tb 38 [.agg ⟨stpCells s (.slice ad s.data.length dc) (.slice ac s.choices.length cc)⟩,.agg ⟨stpCells s (.slice ad' s.data.length dc') (.slice ac' s.choices.length cc')⟩] m (retR fun r m'=>r=.bool true∧Old m.next m m'):=by
 refine callsS Tryz.func38 e38 rfl rfl ?_
 simp only [s38,List.replicate,List.length_cons,List.length_nil,List.cons_append,List.nil_append,Nat.reduceAdd,Nat.reduceSub]
 refine xseqP (PS:=fun l' ds' m1=>ds'=[]∧m1.next=m.next+2∧Old m.next m m1∧vw m1 m.next=some ⟨true,36,false,stpCells s (.slice ad s.data.length dc) (.slice ac s.choices.length cc)⟩∧vw m1 (m.next+1)=some ⟨true,36,false,stpCells s (.slice ad' s.data.length dc') (.slice ac' s.choices.length cc')⟩ ∧
   Sl [.agg ⟨stpCells s (.slice ad s.data.length dc) (.slice ac s.choices.length cc)⟩,.agg ⟨stpCells s (.slice ad' s.data.length dc') (.slice ac' s.choices.length cc')⟩,.pointer (some ⟨m.next,0,none⟩),.pointer (some ⟨m.next+1,0,none⟩),.bool false] 131 l') ?_ ?_
 ·refine xregQ fun Q' hQ=>?_
  simp
  subst hQ
  refine⟨rfl,rfl,by simp,?_,?_,?_,Sl.mk rfl rfl⟩
  ·exact ((Old.refl _ _).new (Nat.le_refl _) _).new (by simp) _
  ·simp [vw_new]
  ·simp [vw_new]
 rintro l ds m1 ⟨rfl,hnx,hO,hv1,hv2,⟨ts,hts,rfl⟩⟩
 have hr1:=hv1
 have hr2:=hv2
 have zs:∀ d c:Value,(stpCells s d c)[0]? = some (.int .i64 s.kind)∧(stpCells s d c)[1]? = some (.int .i64 s.node)∧(stpCells s d c)[2]? = some (.int .i64 s.stream)∧(stpCells s d c)[3]? = some (.int .u64 s.time)∧(stpCells s d c)[4]? = some (.int .u64 s.life)∧(stpCells s d c)[5]? = some d∧(stpCells s d c)[6]? = some (.int .u64 s.seq)∧takeN (stpCells s d c) 7 2=[.int .i64 s.qc,.int .i64 s.qb]∧9≤(stpCells s d c).length:=fun _ _=>⟨rfl,rfl,rfl,rfl,rfl,rfl,rfl,rfl,by rw [stp_len];omega⟩
 have zt:∀ d c:Value,(stpCells s d c)[9]? = some (.int .i64 s.way)∧(stpCells s d c)[10]? = some (.int .i64 s.place)∧(stpCells s d c)[11]? = some (.int .i64 s.pos)∧(stpCells s d c)[12]? = some (.int .u32 s.mask)∧(stpCells s d c)[13]? = some (.int .u64 s.ticks)∧(stpCells s d c)[14]? = some c∧(stpCells s d c)[15]? = some (.int .i64 s.cursor)∧(stpCells s d c)[16]? = some (.int .u64 s.to):=fun _ _=>⟨rfl,rfl,rfl,rfl,rfl,rfl,rfl,rfl⟩
 have hd1:=SlAt.old hd hO
 have hd2:=SlAt.old hd' hO
 have hc1:=SlAt.old hc hO
 have hc2:=SlAt.old hc' hO
 refine xseqP (PS:=fun l' ds' m'=>ds'=[]∧m'=m1∧Sl [.agg ⟨stpCells s (.slice ad s.data.length dc) (.slice ac s.choices.length cc)⟩,.agg ⟨stpCells s (.slice ad' s.data.length dc') (.slice ac' s.choices.length cc')⟩,.pointer (some ⟨m.next,0,none⟩),.pointer (some ⟨m.next+1,0,none⟩),.bool false] 131 l') ?_ ?_
 ·refine xsr fun Q' hQ=>?_
  simp [hts,hv1,hv2,zs,c29_9 hd1,c29_9 hd2,b_neq32]
  subst hQ
  rw [thenA_normal]
  refine xif (v:=false) ?_ (fun h=>by cases h) (fun h=>xskip ?_)
  ·rw [evL_tmp']
   simp [hts]
  exact⟨rfl,rfl,rfl,Sl.mk rfl (by simp [hts])⟩
 rintro l ds m2 ⟨rfl,rfl,⟨ts,hts,rfl⟩⟩
 refine xseqP (PS:=fun l' ds' m'=>ds'=[]∧m'=m2∧Sl [.agg ⟨stpCells s (.slice ad s.data.length dc) (.slice ac s.choices.length cc)⟩,.agg ⟨stpCells s (.slice ad' s.data.length dc') (.slice ac' s.choices.length cc')⟩,.pointer (some ⟨m.next,0,none⟩),.pointer (some ⟨m.next+1,0,none⟩),.bool false] 131 l') ?_ ?_
 ·refine xsr fun Q' hQ=>?_
  simp [hts,hv1,hv2,zt]
  subst hQ
  rw [thenA_normal]
  refine xif (v:=false) ?_ (fun h=>by cases h) (fun h=>xskip ?_)
  ·rw [evL_tmp']
   simp [hts]
  exact⟨rfl,rfl,rfl,Sl.mk rfl (by simp [hts])⟩
 rintro l ds m3 ⟨rfl,rfl,⟨ts,hts,rfl⟩⟩
 refine xseq (xseq (xregQ fun Q' hQ=>?_))
 simp [hts]
 subst hQ
 obtain⟨x5,ts',rfl,hts'⟩:=len_succ (n:=130) hts
 refine xblock (xwhile (N:=s.choices.length) (I:=fun n l ds m2=>∃ k,n=s.choices.length-k∧k≤s.choices.length∧ds=[]∧m2=m3∧Sl [.agg ⟨stpCells s (.slice ad s.data.length dc) (.slice ac s.choices.length cc)⟩,.agg ⟨stpCells s (.slice ad' s.data.length dc') (.slice ac' s.choices.length cc')⟩,.pointer (some ⟨m.next,0,none⟩),.pointer (some ⟨m.next+1,0,none⟩),.bool false,.int .i64 (k:Nat)] 130 l) ?_ ?_)
 ·exact⟨0,rfl,by omega,rfl,rfl,ts',hts',rfl⟩
 rintro n l ds m4 ⟨k,rfl,hk,rfl,rfl,⟨us,hus,rfl⟩⟩
 refine xseq (xseq (xregQ fun Q' hQ=>?_))
 simp [hus,hv1,zt]
 subst hQ
 refine xif (v:=decide ((k:Int)<(s.choices.length:Int))) (by first|rfl|simp [hus]) (fun h=>xskip ?_) (fun h=>xexit ?_)
 ·simp only [decide_eq_true_eq] at h
  have hk2:k<s.choices.length:=by omega
  have q:(i64s s.choices)[k]? = some (.int .i64 (s.choices[k])):=by rw [i64s_get,List.getElem?_eq_getElem hk2];rfl
  obtain⟨b1,o1,c1,h1,h2,h3,-,h4⟩:=hc1.load q
  obtain⟨b2,o2,c2,g1,g2,g3,-,g4⟩:=hc2.load q
  simp only [Value.slice.injEq] at h1 g1
  obtain⟨rfl,-,rfl⟩:=h1
  obtain⟨rfl,-,rfl⟩:=g1
  have ql:=h4 (t:=3) (s:=none) Ty.ti3 Ty.g3
  have qg:=g4 (t:=3) (s:=none) Ty.ti3 Ty.g3
  refine xseq (xblock (xseq (xdrw 1 fun Q' hQ=>?_)))
  simp [hus,hv1,hv2,zt,ql,qg,hk2,h]
  subst hQ
  refine xif (v:=false) (by first|rfl|simp [hus]) (fun h=>by cases h) (fun h=>xskip ?_)
  refine xregQ fun Q' hQ=>?_
  simp [hus]
  rw [wr64 _ (by omega) (by omega)]
  subst hQ
  exact⟨s.choices.length-(k+1),by omega,k+1,rfl,by omega,rfl,rfl,Sl.mk (by simp) (by simp [hus])⟩
 ·refine xsr fun Q' hQ=>?_
  simp [hus]
  subst hQ
  refine xret ?_
  exact⟨rfl,_,resX_one _,by simp [hus],hO⟩
end Go.Proofs.YtgmkbdmgifdfeaaGreatDoor

