/- A part of a proof: ScriptBack. -/
import Derived.Test.YtgmkbdmgifdfeaaGreatDoorD15
set_option linter.unusedVariables false
set_option linter.unusedSimpArgs false
set_option maxRecDepth 8000
namespace Go.Proofs.YtgmkbdmgifdfeaaGreatDoor
open Go Go.Ev
theorem intF {g0 o p xp cb:Nat} {m:Mem} {ws:List (List UInt8)} {cs:List Value} (ha:Adr g0 o) (ho:o<cs.length) (hcb:vw m cb=some ⟨true,118,false,[.func (.func g0) ⟨[]⟩ ⟨[]⟩]⟩) (hx:vw m xp=some ⟨true,36,false,cs⟩) (hxl:xp<m.next) (hpx:p<xp) (hL:Qa1 m p ws) (hE:Qcv m) :
  Qaw tb 83 [.pointer (some ⟨p,0,none⟩),.pointer (some ⟨xp,0,none⟩),.pointer (some ⟨cb,0,none⟩)] m (optR (rd1 Qbf ws) (fun a r m'=>vw m' xp=some ⟨true,36,false,cs.set o (.int .i64 a.1)⟩∧Qa1 m' p a.2∧Kp [p,xp] m m') (fun m'=>Kp [p,xp] m m')):=by
 refine Qa5 Tryz.func83 e83 rfl rfl ?_
 simp only [s83,List.replicate,Klc,Kln,Kca,Kna,Nat.reduceAdd,Nat.reduceSub]
 refine Qal fun Q' hQ=>?_
 simp [hcb]
 refine Qak ha.1 (ha.2 m xp) ?_ (fun ch m' h=>h.elim)
 rintro r m1 ⟨rfl,rfl⟩
 refine Qak (Qad (by decide)) (Qez hL hE) ?_ ?_
 ·rintro r m2 ⟨a,h1,rfl,h2,h3⟩
  have hx2:vw m2 xp=some ⟨true,36,false,cs⟩:=by rw [h3.vw hxl (by simp;omega)];exact hx
  have ho':o+1≤cs.length:=ho
  simp [hx2,ho']
  subst hQ
  refine⟨rfl,_,Qdd,a,h1,?_,?_,?_⟩
  ·rw [Qau hx2 (Qby rfl ho rfl)];rfl
  ·exact h2.kp ((Kp.refl [xp] _).st (by simp) _ _) (by simp;omega)
  ·exact (h3.mono (by simp)).st (by simp) _ _
 ·rintro ch m2 ⟨h1,rfl,h3⟩
  subst hQ
  exact⟨rfl,h1,rfl,h3.mono (by simp)⟩
theorem natF {g0 o p xp cb:Nat} {m:Mem} {ws:List (List UInt8)} {cs:List Value} (ha:Adr g0 o) (ho:o<cs.length) (hcb:vw m cb=some ⟨true,121,false,[.func (.func g0) ⟨[]⟩ ⟨[]⟩]⟩) (hx:vw m xp=some ⟨true,36,false,cs⟩) (hxl:xp<m.next) (hpx:p<xp) (hL:Qa1 m p ws) (hE:Qcv m) :
  Qaw tb 86 [.pointer (some ⟨p,0,none⟩),.pointer (some ⟨xp,0,none⟩),.pointer (some ⟨cb,0,none⟩)] m (optR (rd1 Qbt ws) (fun a r m'=>vw m' xp=some ⟨true,36,false,cs.set o (.int .u64 a.1)⟩∧Qa1 m' p a.2∧Kp [p,xp] m m') (fun m'=>Kp [p,xp] m m')):=by
 refine Qa5 Tryz.func86 e86 rfl rfl ?_
 simp only [s86,List.replicate,Klc,Kln,Kca,Kna,Nat.reduceAdd,Nat.reduceSub]
 refine Qal fun Q' hQ=>?_
 simp [hcb]
 refine Qak ha.1 (ha.2 m xp) ?_ (fun ch m' h=>h.elim)
 rintro r m1 ⟨rfl,rfl⟩
 refine Qak (Qad (by decide)) (Qme hL hE) ?_ ?_
 ·rintro r m2 ⟨a,h1,rfl,h2,h3⟩
  have hx2:vw m2 xp=some ⟨true,36,false,cs⟩:=by rw [h3.vw hxl (by simp;omega)];exact hx
  have ho':o+1≤cs.length:=ho
  simp [hx2,ho']
  subst hQ
  refine⟨rfl,_,Qdd,a,h1,?_,?_,?_⟩
  ·rw [Qau hx2 (Qby rfl ho rfl)];rfl
  ·exact h2.kp ((Kp.refl [xp] _).st (by simp) _ _) (by simp;omega)
  ·exact (h3.mono (by simp)).st (by simp) _ _
 ·rintro ch m2 ⟨h1,rfl,h3⟩
  subst hQ
  exact⟨rfl,h1,rfl,h3.mono (by simp)⟩
theorem maskF {p xp:Nat} {m:Mem} {ws:List (List UInt8)} {cs:List Value} (ho:cs.length=17) (hx:vw m xp=some ⟨true,36,false,cs⟩) (hxl:xp<m.next) (hpx:p<xp) (hL:Qa1 m p ws) (hE:Qcv m) :
  Qaw tb 99 [.pointer (some ⟨p,0,none⟩),.pointer (some ⟨xp,0,none⟩)] m (optR (rd1 Qhu ws) (fun a r m'=>vw m' xp=some ⟨true,36,false,cs.set 12 (.int .u32 a.1)⟩∧Qa1 m' p a.2∧Kp [p,xp] m m') (fun m'=>Kp [p,xp] m m')):=by
 refine Qa5 Tryz.func99 e99 rfl rfl ?_
 simp only [s99,List.replicate,Klc,Kln,Kca,Kna,Nat.reduceAdd,Nat.reduceSub]
 refine Qal fun Q' hQ=>?_
 simp
 refine Qak (Qad (by decide)) (Qsb (b:=4294967295) hL hE (by omega)) ?_ ?_
 ·rintro r m2 ⟨⟨v,ws'⟩,h1,rfl,h2,h3⟩
  have hx2:vw m2 xp=some ⟨true,36,false,cs⟩:=by rw [h3.vw hxl (by simp;omega)];exact hx
  have hv:v≤4294967295:=by
   cases ws with
   |nil=>cases h1
   |cons w ws =>
    simp only [rd1,Option.map_eq_some_iff,Kpj] at h1
    obtain⟨v',h4,rfl,_⟩:=h1
    exact Qiw h4
  have hw:IntKind.wrap .u32 (v:Int)=(v:Int):=wru32 _ (by omega) (by omega)
  simp [hx2,ho,hw]
  subst hQ
  refine⟨rfl,_,Qdd,((v:Int),ws'),?_,?_,?_,?_⟩
  ·cases ws with
   |nil=>cases h1
   |cons w ws =>
    simp only [rd1,Option.map_eq_some_iff,Kpj] at h1
    obtain⟨v',h4,rfl,rfl⟩:=h1
    simp [rd1,Qhu,h4]
  ·rw [Qau hx2 (Qby rfl (by simp [ho]) rfl)];rfl
  ·exact h2.kp ((Kp.refl [xp] _).st (by simp) _ _) (by simp;omega)
  ·exact (h3.mono (by simp)).st (by simp) _ _
 ·rintro ch m2 ⟨h1,rfl,h3⟩
  subst hQ
  refine⟨rfl,?_,rfl,h3.mono (by simp)⟩
  cases ws with
  |nil=>rfl
  |cons w ws =>
   simp only [rd1,Option.map_eq_none_iff] at h1
   simp [rd1,Qhu,h1]
theorem wayF {p xp:Nat} {m:Mem} {ws:List (List UInt8)} {cs:List Value} (ho:cs.length=17) (hx:vw m xp=some ⟨true,36,false,cs⟩) (hxl:xp<m.next) (hpx:p<xp) (hL:Qa1 m p ws) :
  Qaw tb 94 [.pointer (some ⟨p,0,none⟩),.pointer (some ⟨xp,0,none⟩)] m (optR (rd1 Qmq ws) (fun a r m'=>vw m' xp=some ⟨true,36,false,cs.set 9 (.int .i64 a.1)⟩∧Qa1 m' p a.2∧Kp [p,xp] m m') (fun m'=>Kp [p,xp] m m')):=by
 refine Qa5 Tryz.func94 e94 rfl rfl ?_
 simp only [s94,List.replicate,Klc,Kln,Kca,Kna,Nat.reduceAdd,Nat.reduceSub]
 refine Qal fun Q' hQ=>?_
 simp
 refine Qak (Qad (by decide)) (way_ok' hL) ?_ ?_
 ·rintro r m2 ⟨a,h1,rfl,h2,h3⟩
  have hx2:vw m2 xp=some ⟨true,36,false,cs⟩:=by rw [h3.vw hxl (by simp;omega)];exact hx
  simp [hx2,ho]
  subst hQ
  refine⟨rfl,_,Qdd,a,h1,?_,?_,?_⟩
  ·rw [Qau hx2 (Qby rfl (by simp [ho]) rfl)];rfl
  ·exact h2.kp ((Kp.refl [xp] _).st (by simp) _ _) (by simp;omega)
  ·exact (h3.mono (by simp)).st (by simp) _ _
 ·rintro ch m2 ⟨h1,rfl,h3⟩
  subst hQ
  exact⟨rfl,h1,rfl,h3.mono (by simp)⟩
theorem dataF {p xp:Nat} {m:Mem} {ws:List (List UInt8)} {cs:List Value} (ho:cs.length=17) (hx:vw m xp=some ⟨true,36,false,cs⟩) (hxl:xp<m.next) (hpx:p<xp) (hL:Qa1 m p ws) :
  Qaw tb 90 [.pointer (some ⟨p,0,none⟩),.pointer (some ⟨xp,0,none⟩)] m (optR (rd1 Qec ws) (fun a r m'=>∃ d,vw m' xp=some ⟨true,36,false,cs.set 5 d⟩∧Own m.next m' d 5 a.1.length (u8s a.1)∧a.1.length≤2000000∧Qa1 m' p a.2∧Kp [p,xp] m m') (fun m'=>Kp [p,xp] m m')):=by
 refine Qa5 Tryz.func90 e90 rfl rfl ?_
 simp only [s90,List.replicate,Klc,Kln,Kca,Kna,Nat.reduceAdd,Nat.reduceSub]
 refine Qal fun Q' hQ=>?_
 simp
 refine Qak (Qad (by decide)) (text_ok hL) ?_ ?_
 ·rintro r m2 ⟨a,h1,h0,hle,h2,h3⟩
  obtain⟨ad,rfl⟩:=h0.shape
  have hx2:vw m2 xp=some ⟨true,36,false,cs⟩:=by rw [h3.vw hxl (by simp;omega)];exact hx
  simp [hx2,ho]
  subst hQ
  refine⟨rfl,_,Qdd,a,h1,.slice ad a.1.length a.1.length,?_,?_,hle,?_,?_⟩
  ·rw [Qau hx2 (Qby rfl (by simp [ho]) rfl)];rfl
  ·rcases h0 with h0|⟨b,e,g1,g2,g3⟩
   ·exact .inl h0
   ·exact .inr ⟨b,e,g1,by rw [Qav];exact g2,by rw [Qa9 (by omega)];exact g3⟩
  ·exact h2.kp ((Kp.refl [xp] _).st (by simp) _ _) (by simp;omega)
  ·exact (h3.mono (by simp)).st (by simp) _ _
 ·rintro ch m2 ⟨h1,rfl,h3⟩
  subst hQ
  exact⟨rfl,h1,rfl,h3.mono (by simp)⟩
def Ch (n0:Nat) (S:List Nat) (m m':Mem):Prop:=m.next≤m'.next∧∀ x,x<n0→x∉S→m'.objs.get x=m.objs.get x
theorem Ch.refl (n0:Nat) (S:List Nat) (m:Mem):Ch n0 S m m:=⟨Knr _,fun _ _ _=>rfl⟩
theorem Ch.trans {n0:Nat} {S:List Nat} {a b c:Mem} (h:Ch n0 S a b) (k:Ch n0 S b c):Ch n0 S a c:=⟨Knt h.1 k.1,fun x hx hs=>(k.2 x hx hs).trans (h.2 x hx hs)⟩
theorem Ch.of_kp {n0:Nat} {S:List Nat} {a b:Mem} (h:Kp S a b) (hn:n0≤a.next):Ch n0 S a b:=⟨h.1,fun x hx hs=>h.2 x (by omega) hs⟩
theorem Ch.of_old {n0:Nat} {S:List Nat} {a b:Mem} (h:Old n0 a b):Ch n0 S a b:=⟨h.1,fun x hx _=>h.2 x hx⟩
theorem Ch.vw {n0:Nat} {S:List Nat} {a b:Mem} (h:Ch n0 S a b) {x:Nat} (hx:x<n0) (hs:x∉S):Go.Ev.vw b x=Go.Ev.vw a x:=by unfold Go.Ev.vw;rw [h.2 x hx hs]
theorem Ch.st {n0:Nat} {S:List Nat} {a b:Mem} (h:Ch n0 S a b) {k:Nat} (hk:k∈S) (i:Nat) (l:List Value):Ch n0 S a (stM b k i l) :=
 ⟨by rw [Qav];exact h.1,fun x hx hs=>by rw [Qcu (fun e=>hs (by rw [e];exact hk))];exact h.2 x hx hs⟩
theorem Qa1.ch {n0:Nat} {S:List Nat} {m m':Mem} {p:Nat} {ws:List (List UInt8)} (h:Qa1 m p ws) (k:Ch n0 S m m') (hp:p<n0) (hS:∀ x∈S,p<x):Qa1 m' p ws:=by
 obtain⟨h1,h2,h3,h4,v,h5,h6⟩:=h
 refine⟨h1,Nat.lt_of_lt_of_le h2 k.1,h3,h4,v,by rw [k.vw hp (fun e=>by have:=hS p e;omega)];exact h5,?_⟩
 rcases h6 with h6|⟨b,all,h7,h8,h9⟩
 ·exact .inl h6
 ·exact .inr ⟨b,all,h7,by rw [k.vw (by omega) (fun e=>by have:=hS b e;omega)];exact h8,h9⟩
theorem Qcv.ch {n0:Nat} {S:List Nat} {m m':Mem} (h:Qcv m) (k:Ch n0 S m m') (hn:8≤n0) (hS:∀ x∈S,8≤x):Qcv m':=by
 obtain⟨h1,⟨e,t,a,h2⟩,e',t',a',h3⟩:=h
 exact⟨Nat.lt_of_lt_of_le h1 k.1,⟨e,t,a,by rw [k.vw (by omega) (fun h=>by have:=hS 6 h;omega)];exact h2⟩,e',t',a',by rw [k.vw (by omega) (fun h=>by have:=hS 7 h;omega)];exact h3⟩
theorem _root_.Go.Ev.Own.ch {n0 n:Nat} {S:List Nat} {m m':Mem} {v:Value} {e:TypeId} {cells:List Value} (h:Own n0 m v e n cells) (k:Kp S m m') (hS:∀ x∈S,x<n0):Own n0 m' v e n cells:=by
 rcases h with h|⟨b,h1,h2,h3,h4⟩
 ·exact .inl h
 ·exact .inr ⟨b,h1,h2,Nat.lt_of_lt_of_le h3 k.1,by rw [k.vw h3 (fun e=>by have:=hS b e;omega)];exact h4⟩
theorem _root_.Go.Ev.Own.stb {n0 n k:Nat} {m:Mem} {v:Value} {e:TypeId} {cells:List Value} (h:Own n0 m v e n cells) (hk:k<n0) (i:Nat) (l:List Value):Own n0 (stM m k i l) v e n cells:=by
 rcases h with h|⟨b,h1,h2,h3,h4⟩
 ·exact .inl h
 ·exact .inr ⟨b,h1,h2,by rw [Qav];exact h3,by rw [Qa9 (by omega)];exact h4⟩
theorem app1i {n0:Nat} {m:Mem} {v:Value} {o:List Int} (h:Own n0 m v 3 o.length (i64s o)) (hn:n0≤m.next) (c:Int) :
  ∃ aw v' m3,v=.slice aw o.length o.length∧Qbq (Qah m (.row ⟨T.setL [.int .i64 c] 0 .lf,1,[.int .i64 0],3,.none,false⟩)) 3 1 (.slice aw o.length o.length) 1 [.int .i64 c]=some (v',m3)∧Own n0 m3 v' 3 (o++[c]).length (i64s (o++[c]))∧Old n0 m m3∧(∀ x,x<m.next→blkV v≠some x→m3.objs.get x=m.objs.get x)∧∃ b,blkV v'=some b∧m.next≤b:=by
 obtain⟨aw,rfl⟩:=h.shape
 obtain⟨v',m3,h5,h6,h7,h8,b,hb1,hb2⟩:=h.append (k:=0) (sz:=1) (new:=[.int .i64 c]) ((Old.refl _ m).new (Knr _) (.row ⟨T.setL [.int .i64 c] 0 .lf,1,[.int .i64 0],3,.none,false⟩)) hn (by simp) (by simp) (by simp)
 have e1:i64s (o++[c])=i64s o++[.int .i64 c]:=by simp [i64s]
 exact⟨aw,v',m3,rfl,h5,by rw [e1,Kla];exact h6,((Old.refl n0 m).new hn _).trans h8,fun x hx hb=>by rw [h7.2 x (by rw [Qaf];omega) hb,Qan,if_neg (by omega)],b,by rw [hb1];rfl,by rw [Qaf] at hb2;omega⟩
theorem choicesF {n0 p xp:Nat} {m:Mem} {ws:List (List UInt8)} {cs:List Value} {c:Value} {l:List Int} (ho:cs.length=17) (hx:vw m xp=some ⟨true,36,false,cs⟩) (hc:cs[14]? = some c) (hown:Own n0 m c 3 l.length (i64s l)) (hn:n0≤m.next) (hxl:xp<n0) (hpx:p<xp) (hL:Qa1 m p ws) (hE:Qcv m) (hl:l.length≤2000000) :
  Qaw tb 102 [.pointer (some ⟨p,0,none⟩),.pointer (some ⟨xp,0,none⟩)] m (optR (Qc9 ws) (fun a r m'=>∃ c',vw m' xp=some ⟨true,36,false,cs.set 14 c'⟩∧Own n0 m' c' 3 (l++a).length (i64s (l++a))∧Qa1 m' p []∧Ch n0 [p,xp] m m'∧∀ x,x<m.next→x≠p→x≠xp→blkV c≠some x→m'.objs.get x=m.objs.get x) (fun m'=>Ch n0 [p,xp] m m')):=by
 refine Qa5 Tryz.func102 e102 rfl rfl ?_
 simp only [s102,List.replicate,Klc,Kln,Kca,Kna,Nat.reduceAdd,Nat.reduceSub]
 have hp8:=hL.1
 refine Qax (Qem (N:=ws.length) (I:=fun q ls ds m2=>∃ ws' a la c',q=ws'.length∧la=l++a∧a.length+ws'.length≤ws.length∧ds=[]∧Qc9 ws=(Qc9 ws').map (a ++ ·)∧vw m2 xp=some ⟨true,36,false,cs.set 14 c'⟩∧Own n0 m2 c' 3 la.length (i64s la)∧Qa1 m2 p ws'∧Ch n0 [p,xp] m m2∧(∀ x,x<m.next→x≠p→x≠xp→blkV c≠some x→m2.objs.get x=m.objs.get x)∧(c'=c∨∃ b,blkV c'=some b∧m.next≤b) ∧
   Sl [.pointer (some ⟨p,0,none⟩),.pointer (some ⟨xp,0,none⟩)] 19 ls) ?_ ?_)
 ·refine⟨ws,[],l,c,rfl,by simp,by simp,rfl,by simp,?_,hown,hL,.refl _ _ _,fun _ _ _ _ _=>rfl,.inl rfl,Sl.mk rfl rfl⟩
  have:cs.set 14 c=cs:=by
   apply List.ext_getElem?
   intro i
   rw [List.getElem?_set]
   by_cases e:14=i
   ·subst e;rw [if_pos rfl,if_pos (by omega),hc]
   ·rw [if_neg e]
  rw [this];exact hx
 rintro q ls ds m2 ⟨ws',a,la,c',rfl,hla,hal,rfl,hai,hx2,hown2,hL2,hC2,hB2,hcb,us,hus,rfl⟩
 obtain⟨ap,ac,hv2⟩:=hL2.len
 refine xseq (xseq (Qal fun Q' hQ=>?_))
 simp [hus,hv2]
 subst hQ
 refine xif (v:=decide (0<ws'.length)) (by simp [hus]) (fun h=>Qbd ?_) (fun h=>Qdy ?_)
 ·simp only [decide_eq_true_eq] at h
  cases ws' with
  |nil=>simp at h
  |cons w ws' =>
   have hE2:=hE.ch hC2 (by omega) (by simp;omega)
   obtain⟨ac2,hcc⟩:=hown2.shape
   subst hcc
   have hll:la.length≤8000000:=by have:=hL.2.2.1;rw [hla,Kla];simp at hal;omega
   have hxm:xp<m2.next:=by have:=hC2.1;omega
   refine Qax (xdrw 5 fun Q' hQ=>?_)
   simp [hus,hx2,ho]
   refine Qak (Qad (by decide)) (Qez hL2 hE2) ?_ ?_
   rotate_left
   ·rintro ch m3 ⟨h1,rfl,h3⟩
    subst hQ
    refine⟨rfl,?_,rfl,hC2.trans (.of_kp (h3.mono (by simp)) (by have:=hC2.1;omega))⟩
    rw [hai]
    simp only [rd1,Option.map_eq_none_iff] at h1
    simp [Qc9,h1]
   rintro r m3 ⟨⟨v,ws3⟩,h1,rfl,h2,h3⟩
   simp only [rd1,Option.map_eq_some_iff,Kpj] at h1
   obtain⟨v',h4,rfl,rfl⟩:=h1
   have hx3:vw m3 xp=some ⟨true,36,false,cs.set 14 (.slice ac2 la.length la.length)⟩:=by rw [h3.vw hxm (by simp;omega)];exact hx2
   have hown3:=hown2.ch h3 (by simp;omega)
   have hn3:n0≤m3.next:=by have:=hC2.1;have:=h3.1;omega
   obtain⟨aw,v4,m4,he,g1,g2,g3,g4,bn,g5,g6⟩:=app1i hown3 hn3 v'
   cases he
   obtain⟨aw1,hv4⟩:=g2.shape
   subst hv4
   have hx4:vw m4 xp=some ⟨true,36,false,cs.set 14 (.slice ac2 la.length la.length)⟩:=by rw [g3.vw hxl];exact hx3
   simp [hus,hx3,ho,hx4,Qce _ la.length la.length 1 8 (by omega),g1]
   subst hQ
   have hx5:=Qau hx4 (i:=14) (l:=[.slice aw1 (la++[v']).length (la++[v']).length]) (Qby rfl (by simp [ho]) rfl)
   simp [spl] at hx5
   refine⟨ws'.length,by simp,ws',a++[v'],la++[v'],.slice aw1 (la++[v']).length (la++[v']).length,rfl,by rw [hla];simp,by simp at hal ⊢;omega,rfl,?_,?_,?_,?_,?_,?_,?_,Sl.mk rfl (by simp [hus])⟩
   ·rw [hai];simp [Qc9,h4]
    cases Qc9 ws'<;>simp
   ·simpa using hx5
   ·exact g2.stb hxl _ _
   ·have h5:=h2.ch (Ch.of_old (S:=[]) g3) (by omega) (by simp)
    exact h5.kp ((Kp.refl [xp] _).st (by simp) _ _) (by simp;omega)
   ·exact (hC2.trans ((Ch.of_kp (h3.mono (by simp)) (by have:=hC2.1;omega)).trans (Ch.of_old g3))).st (by simp) _ _
   ·intro x hx1 hx2' hx3' hx4'
    have hcx:blkV (.slice ac2 la.length la.length)≠some x:=by
     rcases hcb with e|⟨b,e1,e2⟩
     ·rw [e];exact hx4'
     ·rw [e1];intro e;cases e;omega
    rw [Qcu (by omega),g4 x (by have:=hC2.1;have:=h3.1;omega) hcx,h3.2 x (by have:=hC2.1;omega) (by simp;omega)]
    exact hB2 x hx1 hx2' hx3' hx4'
   ·exact .inr ⟨bn,by rw [← g5],by have:=hC2.1;have:=h3.1;omega⟩
 ·simp only [decide_eq_false_iff_not] at h
  cases ws' with
  |cons w ws'=>simp at h
  |nil =>
   subst hla
   exact⟨rfl,_,Qdd,a,by simp [hai,Qc9],c',hx2,hown2,hL2,hC2,hB2⟩
end Go.Proofs.YtgmkbdmgifdfeaaGreatDoor

set_option maxRecDepth 8000
namespace Go.Proofs.YtgmkbdmgifdfeaaGreatDoor
open Go Go.Ev
theorem stpl (s:Stp) (d c:Value):(Qaa s d c).length=17:=rfl
def Qip (n0:Nat) (m:Mem) (xp:Nat) (s:Stp):Prop :=
 xp<n0∧n0≤m.next∧∃ d c,vw m xp=some ⟨true,36,false,Qaa s d c⟩∧Own n0 m d 5 s.data.length (u8s s.data)∧Own n0 m c 3 s.choices.length (i64s s.choices)
def Qu7 (n0 p xp:Nat) (m:Mem) (x:Option (Stp × List (List UInt8))):OutA→Mem→Prop :=
 optR x (fun a r m'=>Qip n0 m' xp a.1∧Qa1 m' p a.2∧Ch n0 [p,xp] m m') (fun m'=>Ch n0 [p,xp] m m')
theorem Qk3 {α β : Type} {x:Option α} {f : α → β} {S : α → Value→Mem→Prop} {S' : β → Value→Mem→Prop} {P P':Mem→Prop} (h1:∀ a v m,x=some a→S a v m→S' (f a) v m) (h2:∀ m,P m→P' m):∀ o m,optR x S P o m→optR (x.map f) S' P' o m :=
 Jac (fun a v m h k=>⟨f a,by rw [h];rfl,h1 a v m h k⟩) fun m h k=>⟨by rw [h];rfl,h2 m k⟩
theorem Qip.upd {n0 xp p:Nat} {m m':Mem} {s s':Stp} {d c:Value} (h:Qip n0 m xp s) (hd:Own n0 m d 5 s.data.length (u8s s.data)) (hc:Own n0 m c 3 s.choices.length (i64s s.choices)) (k:Kp [p,xp] m m') (hp:p<xp) (hv:vw m' xp=some ⟨true,36,false,Qaa s' d c⟩) (e1:s'.data=s.data) (e2:s'.choices=s.choices):Qip n0 m' xp s':=by
 obtain⟨h1,h2,_⟩:=h
 have hS:∀ x∈[p,xp],x<n0:=by simp;omega
 exact⟨h1,Knt h2 k.1,d,c,hv,by rw [e1];exact hd.ch k hS,by rw [e2];exact hc.ch k hS⟩
theorem Qi0 {f:Fd} {g0 o:Nat} {m0:Mem} {cb:Nat} (ha:Adr g0 o) (ho:o<17) (upd:Stp→Int→Stp) (hread:∀ s ws,f.read s ws=(rd1 Qbf ws).map fun a=>(upd s a.1,a.2)) (hu:∀ s v,(upd s v).data=s.data∧(upd s v).choices=s.choices) (hc:∀ s d c v,(Qaa s d c).set o (.int .i64 v)=Qaa (upd s v) d c)
  {n0 p xp:Nat} {m:Mem} {s:Stp} {ws:List (List UInt8)} (hS:Qip n0 m xp s) (hL:Qa1 m p ws) (hE:Qcv m) (hpx:p<xp) (hcb:vw m cb=some ⟨true,118,false,[.func (.func g0) ⟨[]⟩ ⟨[]⟩]⟩)
  {ds:List Deferred} {K:Value→List Deferred→Mem→Prop} {PK:List PanicEntry→Mem→Prop} (k:∀ v m',Qu7 n0 p xp m (f.read s ws) (.ret v) m'→K v ds m') (pk:∀ ch m',Qu7 n0 p xp m (f.read s ws) (.pan ch) m'→PK ch m') :
   Qey tb (Qaz tb (.func (.func 83) ⟨[]⟩ ⟨[.pointer (some ⟨cb,0,none⟩)]⟩) [.pointer (some ⟨p,0,none⟩),.pointer (some ⟨xp,0,none⟩)] m) ds m K PK:=by
 have hS0:=hS
 obtain⟨h1,h2,d,c,h3,h4,h5⟩:=hS
 rw [hread] at k pk
 have hm:=Qk3 (x:=rd1 Qbf ws) (f:=fun a=>(upd s a.1,a.2)) (S':=fun a r m'=>Qip n0 m' xp a.1∧Qa1 m' p a.2∧Ch n0 [p,xp] m m') (P':=fun m'=>Ch n0 [p,xp] m m')
  (S:=fun a r m'=>vw m' xp=some ⟨true,36,false,(Qaa s d c).set o (.int .i64 a.1)⟩∧Qa1 m' p a.2∧Kp [p,xp] m m') (P:=fun m'=>Kp [p,xp] m m')
  (fun a v m' _ ⟨k1,k2,k3⟩=>⟨hS0.upd h4 h5 k3 hpx (by rw [k1,hc]) (hu s a.1).1 (hu s a.1).2,k2,Ch.of_kp k3 h2⟩) (fun m' k1=>Ch.of_kp k1 h2)
 exact Qak (Qad (by decide)) (intF ha (by rw [stpl];exact ho) hcb h3 (by omega) hpx hL hE) (fun v m' h=>k v m' (hm _ _ h)) fun ch m' h=>pk ch m' (hm _ _ h)
theorem Qj6 {f:Fd} {g0 o:Nat} {m0:Mem} {cb:Nat} (ha:Adr g0 o) (ho:o<17) (upd:Stp→Int→Stp) (hread:∀ s ws,f.read s ws=(rd1 Qbt ws).map fun a=>(upd s a.1,a.2)) (hu:∀ s v,(upd s v).data=s.data∧(upd s v).choices=s.choices) (hc:∀ s d c v,(Qaa s d c).set o (.int .u64 v)=Qaa (upd s v) d c)
  {n0 p xp:Nat} {m:Mem} {s:Stp} {ws:List (List UInt8)} (hS:Qip n0 m xp s) (hL:Qa1 m p ws) (hE:Qcv m) (hpx:p<xp) (hcb:vw m cb=some ⟨true,121,false,[.func (.func g0) ⟨[]⟩ ⟨[]⟩]⟩)
  {ds:List Deferred} {K:Value→List Deferred→Mem→Prop} {PK:List PanicEntry→Mem→Prop} (k:∀ v m',Qu7 n0 p xp m (f.read s ws) (.ret v) m'→K v ds m') (pk:∀ ch m',Qu7 n0 p xp m (f.read s ws) (.pan ch) m'→PK ch m') :
   Qey tb (Qaz tb (.func (.func 86) ⟨[]⟩ ⟨[.pointer (some ⟨cb,0,none⟩)]⟩) [.pointer (some ⟨p,0,none⟩),.pointer (some ⟨xp,0,none⟩)] m) ds m K PK:=by
 have hS0:=hS
 obtain⟨h1,h2,d,c,h3,h4,h5⟩:=hS
 rw [hread] at k pk
 have hm:=Qk3 (x:=rd1 Qbt ws) (f:=fun a=>(upd s a.1,a.2)) (S':=fun a r m'=>Qip n0 m' xp a.1∧Qa1 m' p a.2∧Ch n0 [p,xp] m m') (P':=fun m'=>Ch n0 [p,xp] m m')
  (S:=fun a r m'=>vw m' xp=some ⟨true,36,false,(Qaa s d c).set o (.int .u64 a.1)⟩∧Qa1 m' p a.2∧Kp [p,xp] m m') (P:=fun m'=>Kp [p,xp] m m')
  (fun a v m' _ ⟨k1,k2,k3⟩=>⟨hS0.upd h4 h5 k3 hpx (by rw [k1,hc]) (hu s a.1).1 (hu s a.1).2,k2,Ch.of_kp k3 h2⟩) (fun m' k1=>Ch.of_kp k1 h2)
 exact Qak (Qad (by decide)) (natF ha (by rw [stpl];exact ho) hcb h3 (by omega) hpx hL hE) (fun v m' h=>k v m' (hm _ _ h)) fun ch m' h=>pk ch m' (hm _ _ h)
theorem Qxx {m:Mem} {k0:Nat} {rv pv:Value} {f:Fd} (hF:IsFd m k0 rv pv f) {n0 p xp:Nat} {s:Stp} {ws:List (List UInt8)} (hS:Qip n0 m xp s) (hL:Qa1 m p ws) (hE:Qcv m) (hpx:p<xp) (hch:f=.choices→s.choices=[])
  {ds:List Deferred} {K:Value→List Deferred→Mem→Prop} {PK:List PanicEntry→Mem→Prop} (k:∀ v m',Qu7 n0 p xp m (f.read s ws) (.ret v) m'→K v ds m') (pk:∀ ch m',Qu7 n0 p xp m (f.read s ws) (.pan ch) m'→PK ch m') :
   Qey tb (Qaz tb rv [.pointer (some ⟨p,0,none⟩),.pointer (some ⟨xp,0,none⟩)] m) ds m K PK:=by
 cases f with
 |stream =>
  obtain⟨cb,-,-,rfl,-,hcb⟩:=hF
  exact Qi0 (m0:=m) adr82 (by omega) (fun s v => { s with stream:=v }) (fun s ws=>by cases ws<;>simp [Fd.read,rd1,Option.map_map,Function.comp_def]) (fun _ _=>⟨rfl,rfl⟩) (fun _ _ _ _=>rfl) hS hL hE hpx hcb k pk
 |qc =>
  obtain⟨cb,-,-,rfl,-,hcb⟩:=hF
  exact Qi0 (m0:=m) adr51 (by omega) (fun s v => { s with qc:=v }) (fun s ws=>by cases ws<;>simp [Fd.read,rd1,Option.map_map,Function.comp_def]) (fun _ _=>⟨rfl,rfl⟩) (fun _ _ _ _=>rfl) hS hL hE hpx hcb k pk
 |qb =>
  obtain⟨cb,-,-,rfl,-,hcb⟩:=hF
  exact Qi0 (m0:=m) adr52 (by omega) (fun s v => { s with qb:=v }) (fun s ws=>by cases ws<;>simp [Fd.read,rd1,Option.map_map,Function.comp_def]) (fun _ _=>⟨rfl,rfl⟩) (fun _ _ _ _=>rfl) hS hL hE hpx hcb k pk
 |place =>
  obtain⟨cb,-,-,rfl,-,hcb⟩:=hF
  exact Qi0 (m0:=m) adr97 (by omega) (fun s v => { s with place:=v }) (fun s ws=>by cases ws<;>simp [Fd.read,rd1,Option.map_map,Function.comp_def]) (fun _ _=>⟨rfl,rfl⟩) (fun _ _ _ _=>rfl) hS hL hE hpx hcb k pk
 |pos =>
  obtain⟨cb,-,-,rfl,-,hcb⟩:=hF
  exact Qi0 (m0:=m) adr98 (by omega) (fun s v => { s with pos:=v }) (fun s ws=>by cases ws<;>simp [Fd.read,rd1,Option.map_map,Function.comp_def]) (fun _ _=>⟨rfl,rfl⟩) (fun _ _ _ _=>rfl) hS hL hE hpx hcb k pk
 |cursor =>
  obtain⟨cb,-,-,rfl,-,hcb⟩:=hF
  exact Qi0 (m0:=m) adr104 (by omega) (fun s v => { s with cursor:=v }) (fun s ws=>by cases ws<;>simp [Fd.read,rd1,Option.map_map,Function.comp_def]) (fun _ _=>⟨rfl,rfl⟩) (fun _ _ _ _=>rfl) hS hL hE hpx hcb k pk
 |time =>
  obtain⟨cb,-,-,rfl,-,hcb⟩:=hF
  exact Qj6 (m0:=m) adr89 (by omega) (fun s v => { s with time:=v }) (fun s ws=>by cases ws<;>simp [Fd.read,rd1,Option.map_map,Function.comp_def]) (fun _ _=>⟨rfl,rfl⟩) (fun _ _ _ _=>rfl) hS hL hE hpx hcb k pk
 |life =>
  obtain⟨cb,-,-,rfl,-,hcb⟩:=hF
  exact Qj6 (m0:=m) adr55 (by omega) (fun s v => { s with life:=v }) (fun s ws=>by cases ws<;>simp [Fd.read,rd1,Option.map_map,Function.comp_def]) (fun _ _=>⟨rfl,rfl⟩) (fun _ _ _ _=>rfl) hS hL hE hpx hcb k pk
 |seq =>
  obtain⟨cb,-,-,rfl,-,hcb⟩:=hF
  exact Qj6 (m0:=m) adr54 (by omega) (fun s v => { s with seq:=v }) (fun s ws=>by cases ws<;>simp [Fd.read,rd1,Option.map_map,Function.comp_def]) (fun _ _=>⟨rfl,rfl⟩) (fun _ _ _ _=>rfl) hS hL hE hpx hcb k pk
 |to =>
  obtain⟨cb,-,-,rfl,-,hcb⟩:=hF
  exact Qj6 (m0:=m) adr56 (by omega) (fun s v => { s with to:=v }) (fun s ws=>by cases ws<;>simp [Fd.read,rd1,Option.map_map,Function.comp_def]) (fun _ _=>⟨rfl,rfl⟩) (fun _ _ _ _=>rfl) hS hL hE hpx hcb k pk
 |ticks =>
  obtain⟨cb,-,-,rfl,-,hcb⟩:=hF
  exact Qj6 (m0:=m) adr57 (by omega) (fun s v => { s with ticks:=v }) (fun s ws=>by cases ws<;>simp [Fd.read,rd1,Option.map_map,Function.comp_def]) (fun _ _=>⟨rfl,rfl⟩) (fun _ _ _ _=>rfl) hS hL hE hpx hcb k pk
 |mask =>
  obtain⟨rfl,-⟩:=hF
  have hS0:=hS
  obtain⟨h1,h2,d,c,h3,h4,h5⟩:=hS
  rw [show Fd.read .mask s ws=(rd1 Qhu ws).map fun a=>({ s with mask:=a.1 },a.2) from by cases ws<;>simp [Fd.read,rd1,Option.map_map,Function.comp_def]] at k pk
  have hm:=Qk3 (x:=rd1 Qhu ws) (f:=fun a=>(({ s with mask:=a.1 }:Stp),a.2)) (S':=fun a r m'=>Qip n0 m' xp a.1∧Qa1 m' p a.2∧Ch n0 [p,xp] m m') (P':=fun m'=>Ch n0 [p,xp] m m')
   (S:=fun a r m'=>vw m' xp=some ⟨true,36,false,(Qaa s d c).set 12 (.int .u32 a.1)⟩∧Qa1 m' p a.2∧Kp [p,xp] m m') (P:=fun m'=>Kp [p,xp] m m')
   (fun a v m' _ ⟨k1,k2,k3⟩=>⟨hS0.upd h4 h5 k3 hpx (by rw [k1];rfl) rfl rfl,k2,Ch.of_kp k3 h2⟩) (fun m' k1=>Ch.of_kp k1 h2)
  exact Qak (Qad (by decide)) (maskF (stpl _ _ _) h3 (by omega) hpx hL hE) (fun v m' h=>k v m' (hm _ _ h)) fun ch m' h=>pk ch m' (hm _ _ h)
 |way =>
  obtain⟨rfl,-⟩:=hF
  have hS0:=hS
  obtain⟨h1,h2,d,c,h3,h4,h5⟩:=hS
  rw [show Fd.read .way s ws=(rd1 Qmq ws).map fun a=>({ s with way:=a.1 },a.2) from by cases ws<;>simp [Fd.read,rd1,Option.map_map,Function.comp_def]] at k pk
  have hm:=Qk3 (x:=rd1 Qmq ws) (f:=fun a=>(({ s with way:=a.1 }:Stp),a.2)) (S':=fun a r m'=>Qip n0 m' xp a.1∧Qa1 m' p a.2∧Ch n0 [p,xp] m m') (P':=fun m'=>Ch n0 [p,xp] m m')
   (S:=fun a r m'=>vw m' xp=some ⟨true,36,false,(Qaa s d c).set 9 (.int .i64 a.1)⟩∧Qa1 m' p a.2∧Kp [p,xp] m m') (P:=fun m'=>Kp [p,xp] m m')
   (fun a v m' _ ⟨k1,k2,k3⟩=>⟨hS0.upd h4 h5 k3 hpx (by rw [k1];rfl) rfl rfl,k2,Ch.of_kp k3 h2⟩) (fun m' k1=>Ch.of_kp k1 h2)
  exact Qak (Qad (by decide)) (wayF (stpl _ _ _) h3 (by omega) hpx hL) (fun v m' h=>k v m' (hm _ _ h)) fun ch m' h=>pk ch m' (hm _ _ h)
 |data =>
  obtain⟨rfl,-⟩:=hF
  have hS0:=hS
  obtain⟨h1,h2,d,c,h3,h4,h5⟩:=hS
  rw [show Fd.read .data s ws=(rd1 Qec ws).map fun a=>({ s with data:=a.1 },a.2) from by cases ws<;>simp [Fd.read,rd1,Option.map_map,Function.comp_def]] at k pk
  have hS2:∀ x∈[p,xp],x<n0:=by simp;omega
  have hm:=Qk3 (x:=rd1 Qec ws) (f:=fun a=>(({ s with data:=a.1 }:Stp),a.2)) (S':=fun a r m'=>Qip n0 m' xp a.1∧Qa1 m' p a.2∧Ch n0 [p,xp] m m') (P':=fun m'=>Ch n0 [p,xp] m m')
   (S:=fun a r m'=>∃ d',vw m' xp=some ⟨true,36,false,(Qaa s d c).set 5 d'⟩∧Own m.next m' d' 5 a.1.length (u8s a.1)∧a.1.length≤2000000∧Qa1 m' p a.2∧Kp [p,xp] m m') (P:=fun m'=>Kp [p,xp] m m')
   (fun a v m' _ ⟨d',k1,k4,_,k2,k3⟩=>⟨⟨h1,Knt h2 k3.1,d',c,by rw [k1];rfl,k4.le h2,h5.ch k3 hS2⟩,k2,Ch.of_kp k3 h2⟩) (fun m' k1=>Ch.of_kp k1 h2)
  exact Qak (Qad (by decide)) (dataF (stpl _ _ _) h3 (by omega) hpx hL) (fun v m' h=>k v m' (hm _ _ h)) fun ch m' h=>pk ch m' (hm _ _ h)
 |choices =>
  obtain⟨rfl,-⟩:=hF
  obtain⟨h1,h2,d,c,h3,h4,h5⟩:=hS
  have hS2:∀ x∈[p,xp],x<n0:=by simp;omega
  have hnil:=hch rfl
  have hd:∀ m',(∀ x,x<m.next→x≠p→x≠xp→blkV c≠some x→m'.objs.get x=m.objs.get x)→m.next≤m'.next→Own n0 m' d 5 s.data.length (u8s s.data):=by
   intro m' hB hnx
   rcases h4 with h4|⟨b,g1,g2,g3,g4⟩
   ·exact .inl h4
   ·refine .inr ⟨b,g1,g2,by omega,?_⟩
    have hne:blkV c≠some b:=by
     rcases h5 with ⟨e,_⟩|⟨b',e,q2,q3,q4⟩
     ·rw [e];intro h;cases h
     ·rw [e];intro h
      have:b'=b:=Kai h
      subst this
      rw [g4] at q4;cases q4
    unfold vw at g4 ⊢
    rw [hB b g3 (by omega) (by omega) hne];exact g4
  have hm:∀ o m2,optR (Qc9 ws) (fun a r m'=>∃ c',vw m' xp=some ⟨true,36,false,(Qaa s d c).set 14 c'⟩∧Own n0 m' c' 3 (s.choices++a).length (i64s (s.choices++a))∧Qa1 m' p []∧Ch n0 [p,xp] m m'∧∀ x,x<m.next→x≠p→x≠xp→blkV c≠some x→m'.objs.get x=m.objs.get x) (fun m'=>Ch n0 [p,xp] m m') o m2→Qu7 n0 p xp m (Fd.read .choices s ws) o m2:=by
   rw [show Fd.read .choices s ws=(Qc9 ws).map fun l=>({ s with choices:=s.choices++l },[]) from by cases ws<;>rfl]
   exact Qk3 (fun a v m' _ ⟨c',k1,k4,k2,k3,k5⟩=>⟨⟨h1,Knt h2 k3.1,d,c',by rw [k1];rfl,hd m' k5 k3.1,k4⟩,k2,k3⟩) fun m' k1=>k1
  exact Qak (Qad (by decide)) (choicesF (l:=s.choices) (stpl _ _ _) h3 rfl h5 h2 h1 hpx hL hE (by rw [hnil];simp)) (fun v m' h=>k v m' (hm _ _ h)) fun ch m' h=>pk ch m' (hm _ _ h)
end Go.Proofs.YtgmkbdmgifdfeaaGreatDoor

namespace Go.Proofs.YtgmkbdmgifdfeaaGreatDoor
open Go
def Qm6 (tx:List UInt8) (f k:Nat):List UInt8:=(tx.drop f).take (k-f)
theorem Qz6 (tx:List UInt8) {f k w:Nat} (h:f≤k):Qm6 tx f k++(tx.drop k).take w=Qm6 tx f (k+w):=by
 unfold Qm6
 rw [show k+w-f=(k-f)+w from by omega,List.take_add,List.drop_drop,show f+(k-f)=k from by omega]
def Jcc (tx:List UInt8) (k w:Nat) (R:Nat):Prop :=
 (w=1∧∃ c,tx[k]? = some c∧c.toNat<128∧R=c.toNat)∨(1≤w∧k+w≤tx.length∧(∀ j,j<w→∃ c,tx[k+j]? = some c∧128≤c.toNat)∧128≤R)
theorem Qyu {c:UInt8} {n:Nat} (hn:n<256) (h:c.toNat≠n):c≠UInt8.ofNat n:=fun e=>h (by rw [e,UInt8.toNat_ofNat_of_lt' (by simpa using hn)])
theorem hi_not {c:UInt8} (h:128≤c.toNat):isBl c=false∧c≠34∧c≠92∧c≠35:=by
 refine⟨?_,Qyu (n:=34) (by omega) (by omega),Qyu (n:=92) (by omega) (by omega),Qyu (n:=35) (by omega) (by omega)⟩
 have h1:c≠32:=Qyu (n:=32) (by omega) (by omega)
 have h2:c≠9:=Qyu (n:=9) (by omega) (by omega)
 simp [isBl,h1,h2]
theorem Qdj (c:UInt8) (r:List UInt8) (acc:List (List UInt8)) (cur:Option (List UInt8)) (q e:Bool):Qar (c::r) acc cur q e =
  if e then Qar r acc (cur.map (· ++ [c])) q false
  else if q then
   (if c=92 then Qar r acc (cur.map (· ++ [c])) q true
    else if c=34 then (if atBl r then Qar r acc (cur.map (· ++ [c])) false false else none)
    else Qar r acc (cur.map (· ++ [c])) q false)
  else match cur with
   |none=>if isBl c then Qar r acc none false false
    else if acc=[]∧c=35 then some []
    else Qar r acc (some [c]) (c==34) false
   |some w=>if isBl c then Qar r (acc++[w]) none false false
    else Qar r acc (some (w++[c])) false false:=by
 conv=>lhs;rw [Qar.eq_def]
 rfl
theorem Qmv (acc:List (List UInt8)) (cur:Option (List UInt8)) (q e:Bool):Qar [] acc cur q e=if q then none else some (acc++cur.toList):=by rw [Qar.eq_def]
theorem Qsq:∀ (hs r:List UInt8) (acc:List (List UInt8)) (w:List UInt8) (q:Bool),(∀ c∈hs,128≤c.toNat)→Qar (hs++r) acc (some w) q false=Qar r acc (some (w++hs)) q false
 | [],r,acc,w,q,_=>by simp
 |c::hs,r,acc,w,q,h=>by
  obtain⟨h1,h2,h3,h4⟩:=hi_not (h c (.head _))
  have ih:=Qsq hs r acc (w++[c]) q fun c hc=>h c (.tail _ hc)
  rw [Kca,Qdj]
  cases q with
  |true =>
   simp [h2,h3]
   rw [ih];simp
  |false =>
   simp [h1]
   rw [ih];simp
theorem Qww {tx:List UInt8} {k w R:Nat} (h:Jcc tx k w R) (acc:List (List UInt8)) (cur:Option (List UInt8)) (q e:Bool) (hq:q=true→cur.isSome=true) (he:e=true→q=true) :
  Qar (tx.drop k) acc cur q e =
   if e then Qar (tx.drop (k+w)) acc (cur.map (· ++ (tx.drop k).take w)) q false
   else if q then
    (if R=92 then Qar (tx.drop (k+w)) acc (cur.map (· ++ (tx.drop k).take w)) q true
     else if R=34 then (if atBl (tx.drop (k+1)) then Qar (tx.drop (k+w)) acc (cur.map (· ++ (tx.drop k).take w)) false false else none)
     else Qar (tx.drop (k+w)) acc (cur.map (· ++ (tx.drop k).take w)) q false)
   else match cur with
    |none=>if R=32∨R=9 then Qar (tx.drop (k+w)) acc none false false
     else if acc=[]∧R=35 then some []
     else Qar (tx.drop (k+w)) acc (some ((tx.drop k).take w)) (decide (R=34)) false
    |some v=>if R=32∨R=9 then Qar (tx.drop (k+w)) (acc++[v]) none false false
     else Qar (tx.drop (k+w)) acc (some (v++(tx.drop k).take w)) false false:=by
 rcases h with ⟨rfl,c,hc,hlo,rfl⟩|⟨h1,h2,h3,h4⟩
 ·have hk:k<tx.length:=(Kgs.1 hc).1
  have hd:tx.drop k=c::tx.drop (k+1):=by
   rw [List.drop_eq_getElem_cons hk];congr 1;exact (Kgs.1 hc).2
  have ht:(tx.drop k).take 1=[c]:=by rw [hd];rfl
  have cv:∀ n:Nat,n<256→(c=UInt8.ofNat n↔c.toNat=n):=fun n hn=>⟨fun e=>by rw [e,UInt8.toNat_ofNat_of_lt' (by simpa using hn)],fun e=>by apply UInt8.toNat_inj.1;rw [e,UInt8.toNat_ofNat_of_lt' (by simpa using hn)]⟩
  have c32:(c=32)↔c.toNat=32:=cv 32 (by omega)
  have c9:(c=9)↔c.toNat=9:=cv 9 (by omega)
  have c92:(c=92)↔c.toNat=92:=cv 92 (by omega)
  have c34:(c=34)↔c.toNat=34:=cv 34 (by omega)
  have c35:(c=35)↔c.toNat=35:=cv 35 (by omega)
  have hbl:isBl c=true↔(c.toNat=32∨c.toNat=9):=by simp [isBl,c32,c9]
  have hbl34:(c==34)=decide (c.toNat=34):=by rw [Bool.eq_iff_iff];simp [c34]
  rw [ht,hd,Qdj]
  cases cur with
  |none=>simp only [c92,c34,c35,hbl,hbl34]
  |some v=>simp only [c92,c34,c35,hbl,hbl34]
 ·obtain⟨hs,hsd⟩:∃ hs,hs=(tx.drop k).take w:=⟨_,rfl⟩
  have hdr:tx.drop k=hs++tx.drop (k+w):=by rw [hsd,← List.drop_drop,List.take_append_drop]
  have hall:∀ c∈hs,128≤c.toNat:=by
   intro c hc
   rw [hsd] at hc
   obtain⟨j,hj,he⟩:=List.mem_iff_getElem.1 hc
   have hj2:j<w:=by simp at hj;omega
   obtain⟨c',e1,e2⟩:=h3 j hj2
   have:(List.take w (List.drop k tx))[j]? = some c:=by rw [Kge hj,he]
   rw [List.getElem?_take,if_pos hj2,List.getElem?_drop,e1] at this
   cases this;exact e2
  have hne:hs≠[]:=by
   intro e
   have:=congrArg List.length hsd
   rw [e] at this
   simp at this;omega
  rw [← hsd]
  have n1:¬ R=92:=by omega
  have n2:¬ R=34:=by omega
  have n3:¬ (R=32∨R=9):=by omega
  have n4:¬ R=35:=by omega
  rw [hdr]
  cases hs with
  |nil=>exact absurd rfl hne
  |cons c hs =>
   obtain⟨g1,g2,g3,g4⟩:=hi_not (hall c (.head _))
   have hall2:∀ c∈hs,128≤c.toNat:=fun c hc=>hall c (.tail _ hc)
   simp only [n1,n2,n3,n4,if_false,and_false,decide_false]
   cases e with
   |true =>
    obtain rfl:=he rfl
    cases cur with
    |none=>simp at hq
    |some v=>rw [Kca,Qdj];simp;rw [Qsq _ _ _ _ _ hall2];simp
   |false =>
    cases q with
    |true =>
     cases cur with
     |none=>simp at hq
     |some v=>rw [Kca,Qdj];simp [g2,g3];rw [Qsq _ _ _ _ _ hall2];simp
    |false =>
     cases cur with
     |none=>rw [Kca,Qdj];simp [g1,g4,g2,show (c==34)=false from by simp [g2]];rw [Qsq _ _ _ _ _ hall2];simp
     |some v=>rw [Kca,Qdj];simp [g1];rw [Qsq _ _ _ _ _ hall2];simp
theorem Qjz:∀ (r:List UInt8) (acc:List (List UInt8)) (cur:Option (List UInt8)) (q e:Bool) (ws:List (List UInt8)) (B:Nat),Qar r acc cur q e=some ws→(∀ w∈acc,w.length≤B)→(∀ w,cur=some w→w.length+r.length≤B)→r.length≤B →
  ws.length≤acc.length+r.length+1∧∀ w∈ws,w.length≤B
 | [],acc,cur,q,e,ws,B,h,ha,hc,hr=>by
   rw [Qmv] at h
   split at h<;>first|(cases h;done)|skip
   simp only [Kaj] at h
   subst h
   cases cur with
   |none=>simp;exact ha
   |some w =>
    simp
    refine fun v hv=>?_
    rcases hv with hv|hv
    ·exact ha v hv
    ·subst hv;have:=hc v rfl;simpa using this
 |c::r,acc,cur,q,e,ws,B,h,ha,hc,hr=>by
  have hc2:∀ w,cur.map (· ++ [c])=some w→w.length+r.length≤B:=by
   intro w hw
   cases cur with
   |none=>cases hw
   |some v=>cases hw;have:=hc v rfl;simp at this ⊢;omega
  have hr2:r.length≤B:=by simp at hr;omega
  have fin:∀ {acc':List (List UInt8)} {cur':Option (List UInt8)} {q' e':Bool},Qar r acc' cur' q' e'=some ws→acc'.length≤acc.length+1→(∀ w∈acc',w.length≤B)→(∀ w,cur'=some w→w.length+r.length≤B)→ws.length≤acc.length+(c::r).length+1∧∀ w∈ws,w.length≤B:=by
   intro acc' cur' q' e' h' hl ha' hc'
   obtain⟨k1,k2⟩:=Qjz r acc' cur' q' e' ws B h' ha' hc' hr2
   exact⟨by simp only [Klc];omega,k2⟩
  rw [Qdj] at h
  repeat' (split at h)
  all_goals first
   | (cases h;done)
   |exact fin h (by omega) ha hc2
   | (simp only [Kaj] at h;subst h;simp;done)
   | (refine fin h (by omega) ha ?_;intro w hw;cases hw;done)
   | (refine fin h (by omega) ha ?_;intro w hw;cases hw;show 1+r.length≤B;rw [Klc] at hr;omega)
   |exact fin h (by simp) (fun w hw=>by simp at hw;rcases hw with hw|rfl;exact ha w hw;have:=hc w rfl;simp at this;omega) (fun w hw=>by cases hw)
   |exact fin h (by omega) ha (fun w hw=>by cases hw;have:=hc _ rfl;simp at this ⊢;omega)
end Go.Proofs.YtgmkbdmgifdfeaaGreatDoor

namespace Go.Proofs.YtgmkbdmgifdfeaaGreatDoor
open Go
theorem get_at {s:ByteArray} {k:Nat} {c:UInt8} (h:s.data.toList[k]? = some c):s.get! k=c:=by
 have hk:=(Kgs.1 h).1
 have e:=(Kgs.1 h).2
 have hk2:k<s.size:=by simpa using hk
 rw [← e]
 show s.get! k=_
 simp only [ByteArray.get!]
 show s.data[k]! = _
 rw [getElem!_pos s.data k (by simpa using hk)]
 simp
theorem dec_hi {s:ByteArray} {k:Nat} {c:UInt8} (h:s.data.toList[k]? = some c) (hc:128≤c.toNat):Jcc s.data.toList k (Utf8.decode s k).2 (Utf8.decode s k).1:=by
 have hk:=(Kgs.1 h).1
 have hsz:s.size=s.data.toList.length:=by simp
 have g0:(s.get! (k+0)).toNat=c.toNat:=by rw [Nat.add_zero,get_at h]
 have cont:∀ j,(k+j<s.size&&(s.get! (k+j)).toNat / 64==2)=true→∃ b,s.data.toList[k+j]? = some b∧128≤b.toNat∧b.toNat<192∧(s.get! (k+j)).toNat=b.toNat:=by
  intro j hj
  simp only [Kba,decide_eq_true_eq,beq_iff_eq] at hj
  obtain⟨h1,h2⟩:=hj
  have hb:s.data.toList[k+j]? = some (s.data.toList[k+j]'(by rw [← hsz];exact h1)):=Kge _
  generalize s.data.toList[k+j]'(by rw [← hsz];exact h1)=b at hb
  have:=get_at hb
  rw [this] at h2 ⊢
  exact⟨b,hb,by omega,by omega,rfl⟩
 right
 have one:1≤1∧k+1≤s.data.toList.length∧(∀ j,j<1→∃ c,s.data.toList[k+j]? = some c∧128≤c.toNat)∧128≤Utf8.runeError :=
  ⟨Knr _,hk,fun j hj=>(by obtain rfl:j=0:=(by omega);exact⟨c,by simpa using h,hc⟩),by decide⟩
 unfold Utf8.decode
 simp only [g0]
 rw [if_neg (by omega)]
 split
 ·rename_i hx
  simp only [Kba] at hx
  obtain⟨b1,e1,l1,u1,v1⟩:=cont 1 (by simpa using hx.2)
  split
  ·rename_i hy
   refine⟨by omega,?_,fun j hj=>?_,by simpa using hy⟩
   ·have:=(Kgs.1 e1).1;omega
   ·rcases (show j=0∨j=1 by omega) with rfl|rfl
    ·exact⟨c,by simpa using h,hc⟩
    ·exact⟨b1,e1,l1⟩
  ·exact one
 ·split
  ·rename_i hx
   simp only [Kba] at hx
   obtain⟨b1,e1,l1,u1,v1⟩:=cont 1 (by simpa using hx.1.2)
   obtain⟨b2,e2,l2,u2,v2⟩:=cont 2 (by simpa using hx.2)
   split
   ·rename_i hy
    simp only [Kba,decide_eq_true_eq] at hy
    refine⟨by omega,?_,fun j hj=>?_,by have:=hy.1;simp only at this ⊢;omega⟩
    ·have:=(Kgs.1 e2).1;omega
    ·rcases (show j=0∨j=1∨j=2 by omega) with rfl|rfl|rfl
     ·exact⟨c,by simpa using h,hc⟩
     ·exact⟨b1,e1,l1⟩
     ·exact⟨b2,e2,l2⟩
   ·exact one
  ·split
   ·rename_i hx
    simp only [Kba] at hx
    obtain⟨b1,e1,l1,u1,v1⟩:=cont 1 (by simpa using hx.1.1.2)
    obtain⟨b2,e2,l2,u2,v2⟩:=cont 2 (by simpa using hx.1.2)
    obtain⟨b3,e3,l3,u3,v3⟩:=cont 3 (by simpa using hx.2)
    split
    ·rename_i hy
     simp only [Kba,decide_eq_true_eq] at hy
     refine⟨by omega,?_,fun j hj=>?_,by have:=hy.1;simp only at this ⊢;omega⟩
     ·have:=(Kgs.1 e3).1;omega
     ·rcases (show j=0∨j=1∨j=2∨j=3 by omega) with rfl|rfl|rfl|rfl
      ·exact⟨c,by simpa using h,hc⟩
      ·exact⟨b1,e1,l1⟩
      ·exact⟨b2,e2,l2⟩
      ·exact⟨b3,e3,l3⟩
    ·exact one
   ·exact one
end Go.Proofs.YtgmkbdmgifdfeaaGreatDoor

set_option maxRecDepth 8000
namespace Go.Proofs.YtgmkbdmgifdfeaaGreatDoor
open Go Go.Ev
theorem o_range {l:List Value} {m:Mem} (t:TypeId) (x:Operand):opA (.range t x) tb (T.ofList l) m=oE (Qo5 tb t m (evL l x)):=_root_.id rfl
theorem o_next {l:List Value} {m:Mem} (x:Operand) (s:Bool):opA (.next x s) tb (T.ofList l) m=oE (Qql m (evL l x) s):=_root_.id rfl
theorem range9 {m:Mem} (s:ByteArray):Qo5 tb 9 m (.string s)=some (.pointer (some ⟨m.next,0,none⟩),Qah m (.strIter s 0 s.data.toList)):=by
 unfold Qo5;simp
attribute [simp] o_range o_next range9 Qd0
theorem next_end {m:Mem} {b:Nat} {s:ByteArray} {k:Nat} (h:m.objs.get b=some (.strIter s k [])):Qql m (.pointer (some ⟨b,0,none⟩)) true=some (.tuple ⟨[.bool false]⟩,m):=by
 simp only [Qql,h,Qk5]
theorem Jag {m:Mem} {b:Nat} {tx:List UInt8} {k:Nat} (h:m.objs.get b=some (.strIter ⟨⟨tx⟩⟩ k (tx.drop k))) (hk:k<tx.length) :
  ∃ R w:Nat,Jcc tx k w R∧Qql m (.pointer (some ⟨b,0,none⟩)) true=some (.tuple ⟨[.bool true,.int .i64 (k:Int),.int .i32 (R:Int)]⟩,Qas m b (.strIter ⟨⟨tx⟩⟩ (k+w) (tx.drop (k+w)))):=by
 have hd:=List.drop_eq_getElem_cons hk
 have hc:tx[k]? = some tx[k]:=Kge hk
 generalize tx[k]=c at hd hc
 rw [hd] at h
 by_cases hlo:c.toNat<128
 ·refine⟨c.toNat,1,.inl ⟨rfl,c,hc,hlo,rfl⟩,?_⟩
  have hb:Nat.blt c.toNat 128=true:=by rw [Nat.blt_eq];exact hlo
  simp only [Qql,h,Qk5,hb,Qa3];rfl
 ·refine⟨_,_,dec_hi (s:=⟨⟨tx⟩⟩) hc (by omega),?_⟩
  have hb:Nat.blt c.toNat 128=false:=by
   cases hb:Nat.blt c.toNat 128 with
   |false=>rfl
   |true=>rw [Nat.blt_eq] at hb;omega
  simp only [Qql,h,Qk5,hb,Qa3];rfl
theorem app1s {n0:Nat} {m:Mem} {v:Value} {o:List (List UInt8)} (h:Own n0 m v 9 o.length (Qkw o)) (hn:n0≤m.next) (c:List UInt8) :
  ∃ aw v' m3,v=.slice aw o.length o.length∧Qbq (Qah m (.row ⟨T.setL [.string ⟨⟨c⟩⟩] 0 .lf,1,[.string ⟨⟨[]⟩⟩],9,.none,false⟩)) 9 1 (.slice aw o.length o.length) 1 [.string ⟨⟨c⟩⟩]=some (v',m3)∧Own n0 m3 v' 9 (o++[c]).length (Qkw (o++[c]))∧Old n0 m m3∧(∀ x,x<m.next→blkV v≠some x→m3.objs.get x=m.objs.get x):=by
 obtain⟨aw,rfl⟩:=h.shape
 obtain⟨v',m3,h5,h6,h7,h8,b,hb1,hb2⟩:=h.append (k:=0) (sz:=1) (new:=[.string ⟨⟨c⟩⟩]) ((Old.refl _ m).new (Knr _) (.row ⟨T.setL [.string ⟨⟨c⟩⟩] 0 .lf,1,[.string ⟨⟨[]⟩⟩],9,.none,false⟩)) hn (by simp [Qkw]) (by simp) (by simp)
 have e1:Qkw (o++[c])=Qkw o++[.string ⟨⟨c⟩⟩]:=by simp [Qkw]
 exact⟨aw,v',m3,rfl,h5,by rw [e1,Kla];exact h6,((Old.refl n0 m).new hn _).trans h8,fun x hx hb=>by rw [h7.2 x (by rw [Qaf];omega) hb,Qan,if_neg (by omega)]⟩
def FromR (tx:List UInt8) (k:Nat) (fr:Int) (cur:Option (List UInt8)):Prop:=(fr = -1∧cur=none)∨∃ f:Nat,f≤k∧fr=(f:Int)∧cur=some (Qm6 tx f k)
theorem own_it {n0 n b:Nat} {m:Mem} {v:Value} {e:TypeId} {cells:List Value} {s:ByteArray} {k:Nat} {r:List UInt8} (h:Own n0 m v e n cells) (hb:m.objs.get b=some (.strIter s k r)):blkV v≠some b:=by
 rcases h with ⟨rfl,_⟩|⟨b',rfl,h1,h2,h3⟩
 ·intro h;cases h
 ·intro h
  have:b'=b:=Kai h
  subst this
  unfold vw at h3;rw [hb] at h3;cases h3
structure SpI (m0:Mem) (tx:List UInt8) (it k:Nat) (m:Mem) (acc:List (List UInt8)) (v:Value) (fr:Int) (cur:Option (List UInt8)) (q e:Bool):Prop where
 le:k≤tx.length
 old:Old m0.next m0 m
 iter:m.objs.get it=some (.strIter ⟨⟨tx⟩⟩ k (tx.drop k))
 it0:m0.next≤it
 it1:it<m.next
 own:Own m0.next m v 9 acc.length (Qkw acc)
 al:acc.length≤k
 fr:FromR tx k fr cur
 hq:q=true→cur.isSome=true
 he:e=true→q=true
 sp:Qgj tx=Qar (tx.drop k) acc cur q e
theorem split_ok {m:Mem} {tx:List UInt8} (hlen:tx.length≤2000000) :
  Qaw tb 72 [.string ⟨⟨tx⟩⟩] m (optR (Qgj tx) (fun ws r m'=>Own m.next m' r 9 ws.length (Qkw ws)∧Old m.next m m') (fun m'=>Old m.next m m')):=by
 refine Qa5 Tryz.func72 e72 rfl rfl ?_
 simp only [s72,List.replicate,Klc,Kln,Kca,Kna,Nat.reduceAdd,Nat.reduceSub]
 refine xsr fun Q' hQ=>?_
 simp
 subst hQ
 refine xsr fun Q' hQ=>?_
 simp
 subst hQ
 refine xsr fun Q' hQ=>?_
 simp
 subst hQ
 refine Qek (fun l ds m1=>ds=[]∧∃ v fr q acc cur e it,SpI m tx it tx.length m1 acc v fr cur q e∧Sl [.string ⟨⟨tx⟩⟩,undef,.slice none 0 0,v,.int .i64 fr,.bool q] 94 l) ?_ ?_
 ·rintro l ds m1 ⟨rfl,v,fr,q,acc,cur,e,it,S,ts,hts,rfl⟩
  have hsp:=S.sp
  rw [List.drop_length,Qmv] at hsp
  refine xsr fun Q' hQ=>?_
  cases q with
  |true =>
   rw [if_pos rfl] at hsp
   simp [hts]
   refine Qak (Qad (by decide)) (Qdn _) (fun v m' h=>h.elim) ?_
   rintro ch m4 ⟨rfl,rfl⟩
   subst hQ
   exact⟨rfl,hsp,rfl,S.old⟩
  |false =>
   rw [if_neg (by simp)] at hsp
   simp [hts]
   refine Qak (Qad (by decide)) (Qen _) ?_ (fun ch m' h=>h.elim)
   rintro r m4 ⟨rfl,rfl⟩
   subst hQ
   have hal:acc.length≤2000000:=by have:=S.al;omega
   refine xseq (xseq (Qal fun Q' hQ=>?_))
   rcases S.fr with ⟨rfl,rfl⟩|⟨f,hf,rfl,rfl⟩
   ·simp [hts]
    subst hQ
    refine xno (by simp [hts]) (Qbd ?_)
    refine xsr fun Q' hQ=>?_
    simp [hts]
    subst hQ
    refine xret ⟨rfl,_,Qat _,acc,by simpa using hsp,?_,S.old⟩
    simp [hts]
    exact S.own
   ·have hf1:(0:Int)≤(f:Int):=by omega
    simp [hts,hf1]
    subst hQ
    refine xyes (by simp [hts]) ?_
    obtain⟨aw,v',m5,rfl,g1,g2,g3,g4⟩:=app1s S.own S.old.1 (Qm6 tx f tx.length)
    have hpc:(tx.drop f).take (tx.length-f)=Qm6 tx f tx.length:=rfl
    refine Qal fun Q' hQ=>?_
    simp [hts,hf,hpc,Qce _ acc.length acc.length 1 16 (by omega),g1]
    subst hQ
    refine xsr fun Q' hQ=>?_
    simp [hts]
    subst hQ
    refine xret ⟨rfl,_,Qat _,acc++[Qm6 tx f tx.length],by simpa using hsp,?_,S.old.trans g3⟩
    simp [hts]
    simpa using g2
 refine xsr fun Q' hQ=>?_
 simp
 subst hQ
 refine Qax (Qem (N:=tx.length) (I:=fun n l ds m1=>∃ k v fr q acc cur e it x7 x8 x9,n=tx.length-k∧ds=[]∧SpI m tx it k m1 acc v fr cur q e ∧
   Sl [.string ⟨⟨tx⟩⟩,undef,.slice none 0 0,v,.int .i64 fr,.bool q,.bool e,x7,x8,x9,.string ⟨⟨tx⟩⟩,.pointer (some ⟨it,0,none⟩)] 88 l) ?_ ?_)
 ·refine⟨0,.slice none 0 0,-1,false,[],none,false,m.next,undef,undef,undef,rfl,rfl,⟨by omega,(Old.refl _ _).new (Knr _) _,by rw [Qan,if_pos rfl];rfl,Knr _,by simp,.inl ⟨rfl,rfl,rfl⟩,by simp,.inl ⟨rfl,rfl⟩,by simp,by simp,rfl⟩,Sl.mk rfl rfl⟩
 rintro n l ds m1 ⟨k,v,fr,q,acc,cur,e,it,x7,x8,x9,rfl,rfl,S,ts,hts,rfl⟩
 refine xsr fun Q' hQ=>?_
 by_cases hk:k<tx.length
 rotate_left
 ·obtain rfl:k=tx.length:=by have:=S.le;omega
  have hit:=S.iter
  rw [List.drop_length] at hit
  simp [hts,next_end hit]
  subst hQ
  rw [Qcx]
  refine xseq (xif (v:=false) (by simp [hts]) (fun h=>by cases h) (fun _=>Qdy ?_))
  exact⟨rfl,v,fr,q,acc,cur,e,it,S,Sl.mk rfl (by simp [hts])⟩
 obtain⟨R,w,hR,hnx⟩:=Jag S.iter hk
 simp [hts,hnx]
 subst hQ
 rw [Qcx]
 refine xseq (xif (v:=true) (by simp [hts]) (fun _=>Qbd ?_) (fun h=>by cases h))
 rw [Qcx]
 have hmk:k<tx.length:=hk
 have hnew:(Qas m1 it (.strIter ⟨⟨tx⟩⟩ (k+w) (tx.drop (k+w)))).objs.get it=some (.strIter ⟨⟨tx⟩⟩ (k+w) (tx.drop (k+w))):=by rw [Qbk,if_pos rfl]
 have hw1:1≤w∧k+w≤tx.length:=by
  rcases hR with ⟨rfl,c,hc,_⟩|⟨h1,h2,_⟩
  ·exact⟨Knr _,hk⟩
  ·exact⟨h1,h2⟩
 obtain⟨m2,hm2⟩:∃ m2,m2=Qas m1 it (.strIter ⟨⟨tx⟩⟩ (k+w) (tx.drop (k+w))):=⟨_,rfl⟩
 rw [← hm2] at hnew ⊢
 have hn2:m2.next=m1.next:=by rw [hm2];rfl
 have hO2:Old m.next m m2:=by rw [hm2];exact S.old.put S.it0 _
 have hown2:Own m.next m2 v 9 acc.length (Qkw acc):=by
  have hne:=own_it S.own S.iter
  rcases S.own with h|⟨b,e1,e2,e3,e4⟩
  ·exact .inl h
  ·refine .inr ⟨b,e1,e2,by rw [hn2];exact e3,?_⟩
   rw [hm2,Qyo,if_neg (fun e=>hne (by rw [e1,← e];rfl))];exact e4
 have hsp:=Qww hR acc cur q e S.hq S.he
 rw [← S.sp] at hsp
 have hcur:FromR tx (k+w) fr (cur.map (· ++ (tx.drop k).take w)):=by
  rcases S.fr with ⟨rfl,rfl⟩|⟨f,hf,rfl,rfl⟩
  ·exact .inl ⟨rfl,rfl⟩
  ·exact .inr ⟨f,by omega,rfl,by rw [Option.map_some,Qz6 tx hf]⟩
 have hit1:it<m2.next:=by rw [hn2];exact S.it1
 have same:∀ (q' e':Bool) (cur':Option (List UInt8)) (fr':Int),FromR tx (k+w) fr' cur'→(q'=true→cur'.isSome=true)→(e'=true→q'=true)→Qgj tx=Qar (tx.drop (k+w)) acc cur' q' e'→SpI m tx it (k+w) m2 acc v fr' cur' q' e' :=
  fun q' e' cur' fr' h1 h2 h3 h4=>⟨hw1.2,hO2,hnew,S.it0,hit1,hown2,by have:=S.al;omega,h1,h2,h3,h4⟩
 have again:∀ {l:List Value} {m3:Mem} {acc':List (List UInt8)} {v':Value} {fr':Int} {cur':Option (List UInt8)} {q' e':Bool},SpI m tx it (k+w) m3 acc' v' fr' cur' q' e'→(∃ x7 x8 x9,Sl [.string ⟨⟨tx⟩⟩,undef,.slice none 0 0,v',.int .i64 fr',.bool q',.bool e',x7,x8,x9,.string ⟨⟨tx⟩⟩,.pointer (some ⟨it,0,none⟩)] 88 l) →
   Inv (fun n l ds m1=>∃ k v fr q acc cur e it x7 x8 x9,n=tx.length-k∧ds=[]∧SpI m tx it k m1 acc v fr cur q e∧Sl [.string ⟨⟨tx⟩⟩,undef,.slice none 0 0,v,.int .i64 fr,.bool q,.bool e,x7,x8,x9,.string ⟨⟨tx⟩⟩,.pointer (some ⟨it,0,none⟩)] 88 l) (tx.length-k) l [] m3:=by
  rintro l m3 acc' v' fr' cur' q' e' S' ⟨x7,x8,x9,hl⟩
  exact⟨tx.length-(k+w),by omega,k+w,v',fr',q',acc',cur',e',it,x7,x8,x9,rfl,rfl,S',hl⟩
 have hOp:Old m.next m m2:=hO2
 clear hnx hm2
 refine Qax (xseq (Qal fun Q' hQ=>?_))
 simp [hts]
 subst hQ
 obtain⟨Bl,hBl⟩:∃ Bl:Bool,Bl=decide (R=32∨R=9):=⟨_,rfl⟩
 refine Qek (fun l ds m'=>ds=[]∧m'=m2∧Sl [.string ⟨⟨tx⟩⟩,undef,.slice none 0 0,v,.int .i64 fr,.bool q,.bool e,.int .i64 (k:Int),.int .i32 (R:Int),.bool Bl,.string ⟨⟨tx⟩⟩,.pointer (some ⟨it,0,none⟩)] 88 l) ?_ ?_
 rotate_left
 ·refine Qal fun Q' hQ=>?_
  by_cases h1:R=32
  ·subst h1
   simp [hts]
   subst hQ
   exact⟨rfl,rfl,Sl.mk (by simp [hBl]) (by simp [hts])⟩
  ·have h1':¬ (R:Int)=32:=by omega
   by_cases h2:R=9
   ·subst h2
    simp [hts]
    subst hQ
    exact⟨rfl,rfl,Sl.mk (by simp [hBl]) (by simp [hts])⟩
   ·have h2':¬ (R:Int)=9:=by omega
    simp [hts,h1',h2']
    subst hQ
    exact⟨rfl,rfl,Sl.mk (by simp [hBl,h1,h2]) (by simp [hts])⟩
 clear hts
 rintro l ds m3 ⟨rfl,rfl,ts,hts,rfl⟩
 refine Qax (xseq (Qal fun Q' hQ=>?_))
 simp [hts]
 subst hQ
 refine xif (v:=e) (by simp [hts]) (fun he=>?_) (fun he=>?_)
 ·subst he
  rw [if_pos rfl] at hsp
  refine Qal fun Q' hQ=>?_
  simp [hts]
  subst hQ
  obtain rfl:=S.he rfl
  exact again (same true false _ _ hcur (fun _=>by simp [S.hq rfl]) (by simp) hsp) ⟨_,_,_,Sl.mk rfl (by simp [hts])⟩
 subst he
 rw [if_neg (by simp)] at hsp
 refine xsr fun Q' hQ=>?_
 cases q with
 |true =>
  rw [if_pos rfl] at hsp
  have hcs:=S.hq rfl
  by_cases h92:R=92
  ·subst h92
   rw [if_pos rfl] at hsp
   simp [hts]
   subst hQ
   refine xyes (by simp [hts]) ?_
   refine Qal fun Q' hQ=>?_
   simp [hts]
   subst hQ
   exact again (same true true _ _ hcur (fun _=>by simp [hcs]) (by simp) hsp) ⟨_,_,_,Sl.mk rfl (by simp [hts])⟩
  ·have h92':¬ (R:Int)=92:=by omega
   rw [if_neg h92] at hsp
   simp [hts,h92']
   subst hQ
   refine xno (by simp [hts]) ?_
   refine xsr fun Q' hQ=>?_
   by_cases h34:R=34
   ·subst h34
    rw [if_pos rfl] at hsp
    simp [hts]
    subst hQ
    refine xyes (by simp [hts]) ?_
    refine xsr fun Q' hQ=>?_
    simp [hts]
    subst hQ
    refine Qal fun Q' hQ=>?_
    obtain⟨k1,hk1⟩:∃ k1,k1=k+1:=⟨_,rfl⟩
    have hwk:IntKind.wrap .i64 ((k:Int)+1)=(k1:Int):=by rw [wr64 _ (by omega) (by omega)];omega
    obtain rfl:w=1:=by
     rcases hR with ⟨h,_⟩|⟨_,_,_,h⟩
     ·exact h
     ·omega
    by_cases hend:k1=tx.length
    ·have hbl:atBl (tx.drop (k+1))=true:=by rw [List.drop_eq_nil_of_le (by omega)];rfl
     rw [hbl,if_pos rfl] at hsp
     simp [hts,hwk,hend]
     refine Qak (Qad (by decide)) (Qen _) ?_ (fun ch m' h=>h.elim)
     rintro r m4 ⟨rfl,rfl⟩
     subst hQ
     exact again (same false false _ _ hcur (by simp) (by simp) hsp) ⟨_,_,_,Sl.mk rfl (by simp [hts])⟩
    ·have hk1l:k1<tx.length:=by omega
     have hend':¬ (k1:Int)=(tx.length:Int):=by omega
     obtain⟨c,hc⟩:∃ c,tx[k1]? = some c:=⟨_,Kge hk1l⟩
     have hdr:tx.drop (k+1)=c::tx.drop (k1+1):=by
      rw [← hk1,List.drop_eq_getElem_cons hk1l];congr 1;exact (Kgs.1 hc).2
     have hat:atBl (tx.drop (k+1))=isBl c:=by rw [hdr];rfl
     rw [hat] at hsp
     by_cases c32:c=32
     ·subst c32
      simp [isBl] at hsp
      simp [hts,hwk,hend',hc]
      refine Qak (Qad (by decide)) (Qen _) ?_ (fun ch m' h=>h.elim)
      rintro r m4 ⟨rfl,rfl⟩
      subst hQ
      exact again (same false false _ _ hcur (by simp) (by simp) hsp) ⟨_,_,_,Sl.mk rfl (by simp [hts])⟩
     have c32':¬ (c.toNat:Int)=32:=fun e=>c32 (by apply UInt8.toNat_inj.1;show c.toNat=32;omega)
     by_cases c9:c=9
     ·subst c9
      simp [isBl] at hsp
      simp [hts,hwk,hend',hc]
      refine Qak (Qad (by decide)) (Qen _) ?_ (fun ch m' h=>h.elim)
      rintro r m4 ⟨rfl,rfl⟩
      subst hQ
      exact again (same false false _ _ hcur (by simp) (by simp) hsp) ⟨_,_,_,Sl.mk rfl (by simp [hts])⟩
     have c9':¬ (c.toNat:Int)=9:=fun e=>c9 (by apply UInt8.toNat_inj.1;show c.toNat=9;omega)
     simp [isBl,c32,c9] at hsp
     simp [hts,hwk,hend',hc,c32',c9']
     refine Qak (Qad (by decide)) (Qdn _) (fun v m' h=>h.elim) ?_
     rintro ch m4 ⟨rfl,rfl⟩
     subst hQ
     exact⟨rfl,hsp,rfl,hOp⟩
   ·have h34':¬ (R:Int)=34:=by omega
    rw [if_neg h34] at hsp
    simp [hts,h34']
    subst hQ
    refine xno (by simp [hts]) ?_
    refine xsr fun Q' hQ=>?_
    simp [hts]
    subst hQ
    refine xyes (by simp [hts]) (Qbd ?_)
    exact again (same true false _ _ hcur (fun _=>by simp [hcs]) (by simp) hsp) ⟨_,_,_,Sl.mk rfl (by simp [hts])⟩
 |false =>
  rw [if_neg (by simp)] at hsp
  simp [hts]
  subst hQ
  refine xno (by simp [hts]) ?_
  refine xsr fun Q' hQ=>?_
  simp [hts]
  subst hQ
  refine xno (by simp [hts]) ?_
  refine xsr fun Q' hQ=>?_
  simp [hts]
  subst hQ
  refine xno (by simp [hts]) ?_
  refine xsr fun Q' hQ=>?_
  rcases S.fr with ⟨rfl,rfl⟩|⟨f,hf,rfl,rfl⟩
  ·simp only at hsp
   by_cases hb:R=32∨R=9
   ·rw [if_pos hb] at hsp
    have hb':Bl=true:=by rw [hBl];exact decide_eq_true hb
    simp [hts,hb']
    subst hQ
    refine xno (by simp [hts]) ?_
    refine xsr fun Q' hQ=>?_
    simp [hts]
    subst hQ
    refine xno (by simp [hts]) (Qbd ?_)
    exact again (same false false none _ (.inl ⟨rfl,rfl⟩) (by simp) (by simp) hsp) ⟨_,_,_,Sl.mk rfl (by simp [hts])⟩
   ·rw [if_neg hb] at hsp
    have hb':Bl=false:=by rw [hBl];exact decide_eq_false hb
    simp [hts,hb']
    subst hQ
    refine xyes (by simp [hts]) ?_
    obtain⟨aw,rfl⟩:=hown2.shape
    refine Qek (fun l ds m'=>ds=[]∧m'=m3∧¬ (acc=[]∧R=35)∧Sl [.string ⟨⟨tx⟩⟩,undef,.slice none 0 0,.slice aw acc.length acc.length,.int .i64 (-1),.bool false,.bool false,.int .i64 (k:Int),.int .i32 (R:Int),.bool Bl,.string ⟨⟨tx⟩⟩,.pointer (some ⟨it,0,none⟩)] 88 l) ?_ ?_
    ·rintro l ds m4 ⟨rfl,rfl,h35,us,hus,rfl⟩
     rw [if_neg h35] at hsp
     refine Qal fun Q' hQ=>?_
     have hcur':FromR tx (k+w) (k:Int) (some ((tx.drop k).take w)):=.inr ⟨k,by omega,rfl,by unfold Qm6;rw [show k+w-k=w from by omega]⟩
     by_cases h34:R=34
     ·subst h34
      simp [hus]
      subst hQ
      exact again (same true false _ _ hcur' (fun _=>rfl) (by simp) hsp) ⟨_,_,_,Sl.mk rfl (by simp [hus])⟩
     ·have h34':¬ (R:Int)=34:=by omega
      simp [h34] at hsp
      simp [hus,h34']
      subst hQ
      exact again (same false false _ _ hcur' (by simp) (by simp) hsp) ⟨_,_,_,Sl.mk rfl (by simp [hus])⟩
    ·refine xsr fun Q' hQ=>?_
     by_cases ha:acc=[]
     ·subst ha
      by_cases h35:R=35
      ·subst h35
       rw [if_pos ⟨rfl,rfl⟩] at hsp
       simp [hts]
       subst hQ
       refine xyes (by simp [hts]) ?_
       refine xsr fun Q' hQ=>?_
       simp [hts]
       subst hQ
       refine xret ⟨rfl,_,Qat _,[],hsp,?_,hOp⟩
       simp [hts]
       exact .inl ⟨rfl,rfl,rfl⟩
      ·have h35':¬ (R:Int)=35:=by omega
       simp [hts,h35']
       subst hQ
       refine xno (by simp [hts]) (Qbd ?_)
       exact⟨rfl,rfl,by simp [h35],Sl.mk (by simp [hb']) (by simp [hts])⟩
     ·have hal:¬ acc.length=0:=fun e=>ha (List.length_eq_zero_iff.1 e)
      simp [hts,ha]
      subst hQ
      refine xno (by simp [hts]) (Qbd ?_)
      exact⟨rfl,rfl,by simp [ha],Sl.mk (by simp [hb']) (by simp [hts])⟩
  ·simp only at hsp
   have hf0:¬ (f:Int)<0:=by omega
   have hf1:(0:Int)≤(f:Int):=by omega
   simp [hts,hf0]
   subst hQ
   refine xno (by simp [hts]) ?_
   refine xsr fun Q' hQ=>?_
   by_cases hb:R=32∨R=9
   ·rw [if_pos hb] at hsp
    have hb':Bl=true:=by rw [hBl];exact decide_eq_true hb
    simp [hts,hb',hf1]
    subst hQ
    refine xyes (by simp [hts]) ?_
    obtain⟨aw,v',m4,rfl,g1,g2,g3,g4⟩:=app1s hown2 hO2.1 (Qm6 tx f k)
    have hal:acc.length≤2000000:=by have:=S.al;omega
    have hpc:(tx.drop f).take (k-f)=Qm6 tx f k:=rfl
    refine xsr fun Q' hQ=>?_
    simp [hts,hf,hmk,Nat.le_of_lt hmk,hpc,Qce _ acc.length acc.length 1 16 (by omega),g1]
    subst hQ
    refine Qal fun Q' hQ=>?_
    simp [hts]
    subst hQ
    have hne2:=own_it hown2 hnew
    refine again (acc':=acc++[Qm6 tx f k]) (cur':=none) ⟨hw1.2,hO2.trans g3,by rw [g4 it hit1 hne2];exact hnew,S.it0,Nat.lt_of_lt_of_le hit1 g3.1,g2,by have:=S.al;simp;omega,.inl ⟨rfl,rfl⟩,by simp,by simp,hsp⟩ ⟨_,_,_,Sl.mk rfl (by simp [hts])⟩
   ·rw [if_neg hb] at hsp
    have hb':Bl=false:=by rw [hBl];exact decide_eq_false hb
    simp [hts,hb',hf1]
    subst hQ
    refine xno (by simp [hts]) (Qbd ?_)
    exact again (same false false _ _ hcur (by simp) (by simp) hsp) ⟨_,_,_,Sl.mk rfl (by simp [hts])⟩
end Go.Proofs.YtgmkbdmgifdfeaaGreatDoor

