/- A part of a proof: ScriptBack. -/
import Derived.Test.YtgmkbdmgifdfeaaGreatDoorD14
set_option linter.unusedVariables false
set_option linter.unusedSimpArgs false
set_option maxRecDepth 8000
namespace Go.Proofs.YtgmkbdmgifdfeaaGreatDoor
open Go Go.Ev
def rd1 {α : Type} (f:List UInt8→Option α):List (List UInt8)→Option (α × List (List UInt8))
 | []=>none
 |w::ws=>(f w).map fun a=>(a,ws)
theorem Jac {α β : Type} {x:Option α} {y:Option β} {S : α → Value→Mem→Prop} {S' : β → Value→Mem→Prop} {P P':Mem→Prop} (h1:∀ a v m,x=some a→S a v m→∃ b,y=some b∧S' b v m) (h2:∀ m,x=none→P m→y=none∧P' m):∀ o m,optR x S P o m→optR y S' P' o m
 | .ret v,m,⟨a,h,k⟩=>h1 a v m h k
 | .pan ch,m,⟨h,e,k⟩=>by obtain⟨e1,e2⟩:=h2 m h k;exact⟨e1,e,e2⟩
theorem Qsb {m:Mem} {p b:Nat} {ws:List (List UInt8)} (h:Qa1 m p ws) (hE:Qcv m) (hb:b≤18446744073709551615) :
  Qaw tb 100 [.pointer (some ⟨p,0,none⟩),.int .u64 (b:Int)] m (optR (rd1 (fun w=>Qel w b) ws) (fun a r m'=>r=.int .u64 (a.1:Int)∧Qa1 m' p a.2∧Kp [p] m m') (fun m'=>Kp [p] m m')):=by
 refine Qa5 Tryz.func100 e100 rfl rfl ?_
 simp only [s100,List.replicate,Klc,Kln,Kca,Kna,Nat.reduceAdd,Nat.reduceSub]
 refine xsr fun Q' hQ=>?_
 simp
 subst hQ
 refine xsr fun Q' hQ=>?_
 simp
 refine Qak (Qad (by decide)) (Qkt h) ?_ ?_
 ·rintro r m1 ⟨w,hw,rfl,hL,hK⟩
  cases ws with
  |nil=>cases hw
  |cons w' ws =>
   obtain rfl:=Kai hw
   refine Qak (Qad (by decide)) (Qn1 (hE.kp hK (by simpa using h.1)) (h.2.2.2.1 _ (.head _)) hb) ?_ ?_
   ·rintro r m2 ⟨v,hv,rfl,hK2⟩
    subst hQ
    refine xret ⟨rfl,_,Qat _,(v,ws),by simp [rd1,hv],rfl,hL.kp hK2 (by simp),hK.trans (hK2.mono (by simp))⟩
   ·rintro ch m2 ⟨hv,rfl,hK2⟩
    subst hQ
    exact⟨rfl,by simp [rd1,hv],rfl,hK.trans (hK2.mono (by simp))⟩
 ·rintro ch m1 ⟨hw,rfl,rfl⟩
  subst hQ
  cases ws with
  |nil=>exact⟨rfl,rfl,rfl,Kp.refl _ _⟩
  |cons w' ws=>cases hw
theorem Qme {m:Mem} {p:Nat} {ws:List (List UInt8)} (h:Qa1 m p ws) (hE:Qcv m) :
  Qaw tb 87 [.pointer (some ⟨p,0,none⟩)] m (optR (rd1 Qbt ws) (fun a r m'=>r=.int .u64 a.1∧Qa1 m' p a.2∧Kp [p] m m') (fun m'=>Kp [p] m m')):=by
 refine Qa5 Tryz.func87 e87 rfl rfl ?_
 simp only [s87,List.replicate,Klc,Kln,Kca,Kna,Nat.reduceAdd,Nat.reduceSub]
 refine xsr fun Q' hQ=>?_
 simp
 subst hQ
 refine xsr fun Q' hQ=>?_
 simp
 refine Qak (Qad (by decide)) (Qsb (b:=18446744073709551615) h hE (by omega)) ?_ ?_
 ·rintro r m1 ⟨a,ha,rfl,hL,hK⟩
  subst hQ
  refine xret ⟨rfl,_,Qat _,((a.1:Int),a.2),?_,rfl,hL,hK⟩
  cases ws with
  |nil=>cases ha
  |cons w ws =>
   simp only [rd1,Option.map_eq_some_iff] at ha
   obtain⟨v,hv,rfl⟩:=ha
   simp [rd1,Qbt,hv]
 ·rintro ch m1 ⟨ha,rfl,hK⟩
  subst hQ
  refine⟨rfl,?_,rfl,hK⟩
  cases ws with
  |nil=>rfl
  |cons w ws =>
   simp only [rd1,Option.map_eq_none_iff] at ha
   simp [rd1,Qbt,ha]
theorem way_ok' {m:Mem} {p:Nat} {ws:List (List UInt8)} (h:Qa1 m p ws) :
  Qaw tb 95 [.pointer (some ⟨p,0,none⟩)] m (optR (rd1 Qmq ws) (fun a r m'=>r=.int .i64 a.1∧Qa1 m' p a.2∧Kp [p] m m') (fun m'=>Kp [p] m m')):=by
 refine Qa5 Tryz.func95 e95 rfl rfl ?_
 simp only [s95,List.replicate,Klc,Kln,Kca,Kna,Nat.reduceAdd,Nat.reduceSub]
 refine xsr fun Q' hQ=>?_
 simp
 subst hQ
 refine xseq (xseq (Qal fun Q' hQ=>?_))
 simp
 refine Qak (Qad (by decide)) (Qkt h) ?_ ?_
 ·rintro r m1 ⟨w,hw,rfl,hL,hK⟩
  cases ws with
  |nil=>cases hw
  |cons w' ws =>
   obtain rfl:=Kai hw
   subst hQ
   refine Qax (xseq (Qal fun Q' hQ=>?_))
   simp
   subst hQ
   refine xif (v:=decide (w'=Qqu)) rfl (fun h=>?_) (fun h=>?_)
   ·simp only [decide_eq_true_eq] at h
    subst h
    refine xsr fun Q' hQ=>?_
    simp
    subst hQ
    refine xret ⟨rfl,_,Qat _,(1,ws),by simp [rd1,Qmq],rfl,hL,hK⟩
   ·simp only [decide_eq_false_iff_not] at h
    refine xsr fun Q' hQ=>?_
    simp
    subst hQ
    refine xif (v:=decide (w'=Qqp)) rfl (fun h2=>?_) (fun h2=>?_)
    ·simp only [decide_eq_true_eq] at h2
     refine xsr fun Q' hQ=>?_
     simp
     subst hQ
     refine xret ⟨rfl,_,Qat _,(2,ws),by simp only [rd1,Qmq,if_neg h,if_pos h2];rfl,rfl,hL,hK⟩
    ·simp only [decide_eq_false_iff_not] at h2
     refine Qbd ?_
     simp
     refine Qal fun Q' hQ=>?_
     simp
     subst hQ
     exact⟨rfl,by simp [rd1,Qmq,h,h2],rfl,hK⟩
 ·rintro ch m1 ⟨hw,rfl,rfl⟩
  subst hQ
  cases ws with
  |nil=>exact⟨rfl,rfl,rfl,Kp.refl _ _⟩
  |cons w' ws=>cases hw
theorem cut_pos (r:List UInt8):Lib.hasPrefix (45::r) [45]=true∧Lib.trimPrefix (45::r) [45]=r:=by
 have h:Lib.hasPrefix (45::r) [45]=true:=by simp [Lib.hasPrefix,List.isPrefixOf]
 exact⟨h,by unfold Lib.trimPrefix;rw [if_pos h];rfl⟩
theorem cut_neg {w:List UInt8} (h:w.head? ≠ some 45):Lib.hasPrefix w [45]=false∧Lib.trimPrefix w [45]=w:=by
 have h':Lib.hasPrefix w [45]=false:=by
  cases w with
  |nil=>rfl
  |cons c r =>
   have:¬ (45:UInt8)=c:=fun e=>h (by rw [← e];rfl)
   simp [Lib.hasPrefix,List.isPrefixOf,this]
 exact⟨h',by unfold Lib.trimPrefix;rw [h'];rfl⟩
theorem Qso {w:List UInt8} (h:w.head? ≠ some 45):Qbf w=(Qel w 2147483647).map fun v=>(v:Int):=by
 unfold Qbf
 split
 ·exact absurd rfl h
 ·rfl
theorem Qiw {w:List UInt8} {b v:Nat} (h:Qel w b=some v):v≤b:=by
 unfold Qel at h
 split at h
 ·rename_i hc;cases h;exact hc.2.2.2
 ·cases h
theorem Qez {m:Mem} {p:Nat} {ws:List (List UInt8)} (h:Qa1 m p ws) (hE:Qcv m) :
  Qaw tb 84 [.pointer (some ⟨p,0,none⟩)] m (optR (rd1 Qbf ws) (fun a r m'=>r=.int .i64 a.1∧Qa1 m' p a.2∧Kp [p] m m') (fun m'=>Kp [p] m m')):=by
 refine Qa5 Tryz.func84 e84 rfl rfl ?_
 simp only [s84,List.replicate,Klc,Kln,Kca,Kna,Nat.reduceAdd,Nat.reduceSub]
 refine xsr fun Q' hQ=>?_
 simp
 subst hQ
 refine xsr fun Q' hQ=>?_
 simp
 refine Qak (Qad (by decide)) (Qkt h) ?_ ?_
 rotate_left
 ·rintro ch m1 ⟨hw,rfl,rfl⟩
  subst hQ
  cases ws with
  |nil=>exact⟨rfl,rfl,rfl,Kp.refl _ _⟩
  |cons w' ws=>cases hw
 rintro r m1 ⟨w,hw,rfl,hL,hK⟩
 cases ws with
 |nil=>cases hw
 |cons w' ws =>
  obtain rfl:=Kai hw
  subst hQ
  have hE1:=hE.kp hK (by simpa using h.1)
  have hlen:=h.2.2.2.1 _ (.head _)
  refine xseq (xseq (Qal fun Q' hQ=>?_))
  simp
  by_cases hm:w'.head? = some 45
  ·cases w' with
   |nil=>cases hm
   |cons c r =>
    obtain rfl:=Kai hm
    obtain⟨h1,h2⟩:=cut_pos r
    refine Qwi (m':=m1) (v:=.tuple ⟨[.string ⟨⟨r⟩⟩,.bool true]⟩) ov_cut (by simp [Qx6,h1,h2]) ?_
    simp [Qd0]
    subst hQ
    refine xsr fun Q' hQ=>?_
    simp
    subst hQ
    refine xyes rfl ?_
    refine xsr fun Q' hQ=>?_
    simp
    refine Qak (Qad (by decide)) (Qn1 (b:=2147483648) hE1 (by simp at hlen;omega) (by omega)) ?_ ?_
    ·rintro r' m2 ⟨v,hv,rfl,hK2⟩
     subst hQ
     refine xsr fun Q' hQ=>?_
     have hK3:=hK.trans (hK2.mono (by simp))
     by_cases hv0:0<v
     ·have hv0':(0:Int)<(v:Int):=by omega
      simp [hv0]
      refine Qak (Qad (by decide)) (Qen _) ?_ (fun ch m' h=>h.elim)
      rintro r'' m3 ⟨rfl,rfl⟩
      subst hQ
      refine xsr fun Q' hQ=>?_
      have hle:=Qiw hv
      simp
      rw [wr64 (v:Int) (by omega) (by omega),wr64 (-(v:Int)) (by omega) (by omega)]
      subst hQ
      refine xret ⟨rfl,_,Qat _,(-(v:Int),ws),by simp [rd1,Qbf,hv,hv0],rfl,hL.kp hK2 (by simp),hK3⟩
     ·have hv0':¬ (0:Int)<(v:Int):=by omega
      simp [hv0]
      refine Qak (Qad (by decide)) (Qdn _) (fun v m' h=>h.elim) ?_
      rintro ch m3 ⟨rfl,rfl⟩
      subst hQ
      exact⟨rfl,by simp [rd1,Qbf,hv,hv0],rfl,hK3⟩
    ·rintro ch m2 ⟨hv,rfl,hK2⟩
     subst hQ
     exact⟨rfl,by simp [rd1,Qbf,hv],rfl,hK.trans (hK2.mono (by simp))⟩
  ·obtain⟨h1,h2⟩:=cut_neg hm
   refine Qwi (m':=m1) (v:=.tuple ⟨[.string ⟨⟨w'⟩⟩,.bool false]⟩) ov_cut (by simp [Qx6,h1,h2]) ?_
   simp [Qd0]
   subst hQ
   refine xsr fun Q' hQ=>?_
   simp
   subst hQ
   refine xno rfl (Qbd ?_)
   refine xsr fun Q' hQ=>?_
   simp
   refine Qak (Qad (by decide)) (Qn1 (b:=2147483647) hE1 hlen (by omega)) ?_ ?_
   ·rintro r' m2 ⟨v,hv,rfl,hK2⟩
    have hle:=Qiw hv
    simp
    rw [wr64 (v:Int) (by omega) (by omega)]
    subst hQ
    refine xret ⟨rfl,_,Qat _,((v:Int),ws),by simp [rd1,Qso hm,hv],rfl,hL.kp hK2 (by simp),hK.trans (hK2.mono (by simp))⟩
   ·rintro ch m2 ⟨hv,rfl,hK2⟩
    subst hQ
    exact⟨rfl,by simp [rd1,Qso hm,hv],rfl,hK.trans (hK2.mono (by simp))⟩
end Go.Proofs.YtgmkbdmgifdfeaaGreatDoor

set_option maxRecDepth 8000
namespace Go.Proofs.YtgmkbdmgifdfeaaGreatDoor
open Go Go.Ev
def Qqo:List UInt8:=[48,49,50,51,52,53,54,55,56,57,97,98,99,100,101,102]
theorem hex_at':∀ n:Fin 256,Lib.indexByte Qqo (UInt8.ofNat n.val)=(match Qno (UInt8.ofNat n.val) with|some x=>(x:Int)|none => -1):=by decide +kernel
theorem hex_at (c:UInt8):Lib.indexByte Qqo c=(match Qno c with|some x=>(x:Int)|none => -1):=by
 have:=hex_at' ⟨c.toNat,c.toNat_lt⟩
 simpa using this
theorem Qmi {c:UInt8} {x:Nat} (h:Qno c=some x):x<16:=by
 unfold Qno at h
 split at h
 ·cases h;omega
 ·split at h
  ·cases h;omega
  ·cases h
theorem Qsc (m:Mem) (c:UInt8):Qaw tb 120 [.int .u8 (c.toNat:Int)] m (optR (Qno c) (fun x r m'=>r=.int .u8 (x:Int)∧m'=m) (fun m'=>m'=m)):=by
 refine Qa5 Tryz.func120 e120 rfl rfl ?_
 simp only [s120,List.replicate,Klc,Kln,Kca,Kna,Nat.reduceAdd,Nat.reduceSub]
 refine xsr fun Q' hQ=>?_
 simp
 subst hQ
 refine xsr fun Q' hQ=>?_
 simp
 have hx:=hex_at c
 have hib:ibOv [.string ⟨⟨Qqo⟩⟩,.int .u8 (c.toNat:Int)] m=some (.int .i64 (Lib.indexByte Qqo c),m):=by
  simp [ibOv]
 refine Qwi ov_ib hib ?_
 subst hQ
 refine xsr fun Q' hQ=>?_
 cases hc:Qno c with
 |none =>
  rw [hc] at hx
  simp [hx]
  refine Qak (Qad (by decide)) (Qdn m) (fun v m' h=>h.elim) ?_
  rintro ch m1 ⟨rfl,rfl⟩
  subst hQ
  exact⟨rfl,hc,rfl,rfl⟩
 |some x =>
  have hlt:=Qmi hc
  rw [hc] at hx
  simp only at hx
  have h0:(0:Int)≤(x:Int):=by omega
  simp [hx]
  refine Qak (Qad (by decide)) (Qen m) ?_ (fun ch m' h=>h.elim)
  rintro r m1 ⟨rfl,rfl⟩
  subst hQ
  refine xsr fun Q' hQ=>?_
  simp
  rw [wru8 (x:Int) (by omega) (by omega)]
  subst hQ
  exact xret ⟨rfl,_,Qat _,x,hc,rfl,rfl⟩
theorem app1 {n0:Nat} {m:Mem} {v:Value} {o:List UInt8} (h:Own n0 m v 5 o.length (u8s o)) (hn:n0≤m.next) (c:UInt8) :
  ∃ aw v' m3,v=.slice aw o.length o.length∧Qbq (Qah m (.row ⟨T.setL [.int .u8 (c.toNat:Int)] 0 .lf,1,[.int .u8 0],5,.none,false⟩)) 5 1 (.slice aw o.length o.length) 1 [.int .u8 (c.toNat:Int)]=some (v',m3)∧Own n0 m3 v' 5 (o++[c]).length (u8s (o++[c]))∧Old n0 m m3:=by
 obtain⟨aw,rfl⟩:=h.shape
 obtain⟨v',m3,h5,h6,h7,h8,_⟩:=h.append (k:=0) (sz:=1) (new:=[.int .u8 (c.toNat:Int)]) ((Old.refl _ m).new (Knr _) (.row ⟨T.setL [.int .u8 (c.toNat:Int)] 0 .lf,1,[.int .u8 0],5,.none,false⟩)) hn (by simp) (by simp) (by simp)
 have e1:u8s (o++[c])=u8s o++[.int .u8 (c.toNat:Int)]:=by simp [Qfr]
 exact⟨aw,v',m3,rfl,h5,by rw [e1,Kla];exact h6,((Old.refl n0 m).new hn _).trans h8⟩
theorem _root_.Go.Ev.Own.le {n0 n1 n:Nat} {m:Mem} {v:Value} {e:TypeId} {cells:List Value} (h:Own n1 m v e n cells) (k:n0≤n1):Own n0 m v e n cells:=by
 rcases h with h|⟨b,h1,h2,h3,h4⟩
 ·exact .inl h
 ·exact .inr ⟨b,h1,by omega,h3,h4⟩
theorem shl4 {m:Mem} (X Y:Operand) {x:Nat} (h:x<16):binA tb m .shl 5 X Y (.int .u8 (x:Int)) (.int .u64 4)=some (.int .u8 ((16*x:Nat):Int)):=by
 have:=b_shl (tb:=tb) (m:=m) .u8 .u64 5 X Y x 4
 rw [show ((4:Nat):Int)=4 from rfl] at this
 rw [this]
 have e:x*2 ^ Nat.min 4 (IntKind.bits .u8)=16*x:=by show x*2 ^ 4=_;omega
 rw [e,wru8 _ (by omega) (by omega)]
theorem or4 {m:Mem} (X Y:Operand) {x y:Nat} (h:x<16) (h2:y<16):binA tb m .or 5 X Y (.int .u8 ((16*x:Nat):Int)) (.int .u8 (y:Int))=some (.int .u8 ((UInt8.ofNat (16*x+y)).toNat:Int)):=by
 rw [b_or]
 have e:16*x ||| y=16*x+y:=(Nat.two_pow_add_eq_or_of_lt (i:=4) h2 x).symm
 rw [e,wru8 _ (by omega) (by omega),UInt8.toNat_ofNat_of_lt' (by show 16*x+y<256;omega)]
theorem unq_done {i o:List UInt8} (h:Qcy i=(Qcy []).map (o ++ ·)):Qcy i=some o:=by rw [h];simp [Qcy]
theorem text_ok {m:Mem} {p:Nat} {ws:List (List UInt8)} (h:Qa1 m p ws) :
  Qaw tb 91 [.pointer (some ⟨p,0,none⟩)] m (optR (rd1 Qec ws) (fun a r m'=>Own m.next m' r 5 a.1.length (u8s a.1)∧a.1.length≤2000000∧Qa1 m' p a.2∧Kp [p] m m') (fun m'=>Kp [p] m m')):=by
 refine Qa5 Tryz.func91 e91 rfl rfl ?_
 simp only [s91,List.replicate,Klc,Kln,Kca,Kna,Nat.reduceAdd,Nat.reduceSub]
 refine xsr fun Q' hQ=>?_
 simp
 subst hQ
 refine xsr fun Q' hQ=>?_
 simp
 refine Qak (Qad (by decide)) (Qkt h) ?_ ?_
 rotate_left
 ·rintro ch m1 ⟨hw,rfl,rfl⟩
  subst hQ
  cases ws with
  |nil=>exact⟨rfl,rfl,rfl,Kp.refl _ _⟩
  |cons w' ws=>cases hw
 rintro r m1 ⟨w,hw,rfl,hL,hK⟩
 cases ws with
 |nil=>cases hw
 |cons w' ws =>
  obtain rfl:=Kai hw
  subst hQ
  have hlen:=h.2.2.2.1 _ (.head _)
  have hpn:p<m1.next:=hL.2.1
  have bad:Qec w'=none→∀ {N:List Value→List Deferred→Mem→Prop} {Q':Qda},Q'=Qhx N (endX tb Tryz.f91.results.toList (optR (rd1 Qec (w'::ws)) (fun a r m'=>Own m.next m' r 5 a.1.length (u8s a.1)∧a.1.length≤2000000∧Qa1 m' p a.2∧Kp [p] m m') (fun m'=>Kp [p] m m'))) →
    ∀ {l:List Value} (ch:List PanicEntry) (m2:Mem),panR (fun m'=>m'=m1) (.pan ch) m2→Q' (.pan ch) l [] m2:=by
   rintro hno N Q' rfl l ch m2 ⟨rfl,rfl⟩
   exact⟨rfl,by simp [rd1,hno],rfl,hK⟩
  refine Qek (fun l ds m'=>ds=[]∧m'=m1∧(2≤w'.length∧w'.head? = some 34∧w'.getLast? = some 34)∧Sl [.pointer (some ⟨p,0,none⟩),undef,.slice none 0 0,.string ⟨⟨w'⟩⟩,undef,undef,undef,undef] 107 l) ?_ ?_
  rotate_left
  ·refine Qal fun Q' hQ=>?_
   obtain⟨N,hN⟩:∃ N,w'.length=N:=⟨_,rfl⟩
   by_cases h2:2≤N
   ·have h2':(2:Int)≤(N:Int):=by omega
    obtain⟨n,hn⟩:∃ n,n+1=N:=⟨N-1,by omega⟩
    have hw1:IntKind.wrap .i64 ((N:Int)-1)=(n:Int):=by rw [wr64 _ (by omega) (by omega)];omega
    obtain⟨c,hc⟩:∃ c,w'[0]? = some c:=⟨_,Kge (by omega)⟩
    obtain⟨d,hd⟩:∃ d,w'[n]? = some d:=⟨_,Kge (by omega)⟩
    have hlast:w'.getLast? = some d:=by rw [List.getLast?_eq_getElem?,← hd];congr 1;omega
    have hhead:w'.head? = some c:=by rw [List.head?_eq_getElem?];exact hc
    by_cases hc1:c=34
    ·subst hc1
     by_cases hd1:d=34
     ·subst hd1
      simp [hN,h2',hc,hw1,hd]
      refine Qak (Qad (by decide)) (Qen _) ?_ (fun ch m' h=>h.elim)
      rintro r m2 ⟨rfl,rfl⟩
      subst hQ
      exact⟨rfl,rfl,⟨by omega,hhead,hlast⟩,Sl.mk rfl rfl⟩
     ·have hd2:¬ (d.toNat:Int)=34:=fun e=>hd1 (by apply UInt8.toNat_inj.1;show d.toNat=34;omega)
      simp [hN,h2',hc,hw1,hd,hd2]
      refine Qak (Qad (by decide)) (Qdn _) (fun v m' h=>h.elim) (bad ?_ hQ)
      unfold Qec;rw [if_neg];rintro⟨_,_,h3⟩;rw [hlast] at h3;exact hd1 (Kai h3)
    ·have hc2:¬ (c.toNat:Int)=34:=fun e=>hc1 (by apply UInt8.toNat_inj.1;show c.toNat=34;omega)
     simp [hN,h2',hc,hc2]
     refine Qak (Qad (by decide)) (Qdn _) (fun v m' h=>h.elim) (bad ?_ hQ)
     unfold Qec;rw [if_neg];rintro⟨_,h3,_⟩;rw [hhead] at h3;exact hc1 (Kai h3)
   ·have h2':¬ (2:Int)≤(N:Int):=by omega
    simp [hN,h2']
    refine Qak (Qad (by decide)) (Qdn _) (fun v m' h=>h.elim) (bad ?_ hQ)
    unfold Qec;rw [if_neg];rintro⟨h3,_⟩;omega
  rintro l ds m2 ⟨rfl,rfl,hq,ts,hts,rfl⟩
  refine xsr fun Q' hQ=>?_
  have htx:Qec w'=Qcy ((w'.drop 1).dropLast):=by unfold Qec;rw [if_pos hq]
  obtain⟨N,hN⟩:∃ N,w'.length=N:=⟨_,rfl⟩
  obtain⟨n1,hn1⟩:∃ n1,n1+1=N:=⟨N-1,by omega⟩
  have hw1:IntKind.wrap .i64 ((N:Int)-1)=(n1:Int):=by rw [wr64 _ (by omega) (by omega)];omega
  have hinl:((w'.drop 1).dropLast).length=n1-1:=by simp;omega
  have hcut:(w'.drop 1).take (n1-1)=(w'.drop 1).dropLast:=by rw [List.dropLast_eq_take];congr 1;simp;omega
  generalize hin:(w'.drop 1).dropLast=inn at htx hinl hcut
  rw [List.drop_one] at hcut
  have hx1:1≤n1:=by omega
  have hx2:n1≤N:=by omega
  have hx3:inn.length≤2000000:=by omega
  simp [hts,hN,hw1,hx1,hx2,hcut]
  subst hQ
  refine xsr fun Q' hQ=>?_
  simp [hts]
  subst hQ
  refine xseq (xseq (Qal fun Q' hQ=>?_))
  simp [hts]
  subst hQ
  refine Qax (Qem (N:=inn.length) (I:=fun q l ds m3=>∃ k o v,q=inn.length-k∧k≤inn.length∧ds=[]∧Old m2.next m2 m3∧Own m2.next m3 v 5 o.length (u8s o)∧o.length≤k∧Qcy inn=(Qcy (inn.drop k)).map (o ++ ·) ∧
    Sl [.pointer (some ⟨p,0,none⟩),undef,.slice none 0 0,.string ⟨⟨w'⟩⟩,.string ⟨⟨inn⟩⟩,v,.int .i64 (k:Nat)] 108 l) ?_ ?_)
  ·refine⟨0,[],.slice none 0 0,rfl,by omega,rfl,.refl _ _,.inl ⟨rfl,rfl,rfl⟩,by simp,by simp,?_⟩
   exact Sl.mk rfl (by simp [hts])
  rintro q l ds m3 ⟨k,o,v,rfl,hk,rfl,hO,hown,hok,hun,us,hus,rfl⟩
  have bad3:Qcy inn=none→rd1 Qec (w'::ws)=none:=fun e=>by simp [rd1,htx,e]
  have hK3:Kp [p] m m3:=hK.trans ((Kp.of_old (S:=[]) hO).mono (by simp))
  have hL3:Qa1 m3 p ws:=hL.kp (Kp.of_old (S:=[]) hO) (by simp)
  refine xseq (xseq (Qal fun Q' hQ=>?_))
  simp [hus]
  subst hQ
  refine xif (v:=decide (k<inn.length)) (by simp [hus]) (fun h=>Qbd ?_) (fun h=>Qdy ?_)
  ·simp only [decide_eq_true_eq] at h
   obtain⟨c,hc⟩:∃ c,inn[k]? = some c:=⟨_,Kge h⟩
   have hdr:inn.drop k=c::inn.drop (k+1):=by
    rw [List.drop_eq_getElem_cons h];congr 1;rw [Kge h] at hc;exact Kai hc
   obtain⟨k1,hk1⟩:∃ k1,k1=k+1:=⟨_,rfl⟩
   have hw2:IntKind.wrap .i64 ((k:Int)+1)=(k1:Int):=by rw [wr64 _ (by omega) (by omega)];omega
   rw [hdr] at hun
   refine Qek (fun l ds m4=>ds=[]∧∃ j o v,k≤j∧j+1≤inn.length∧Old m2.next m2 m4∧Own m2.next m4 v 5 o.length (u8s o)∧o.length≤j+1∧Qcy inn=(Qcy (inn.drop (j+1))).map (o ++ ·) ∧
    Sl [.pointer (some ⟨p,0,none⟩),undef,.slice none 0 0,.string ⟨⟨w'⟩⟩,.string ⟨⟨inn⟩⟩,v,.int .i64 (j:Nat)] 108 l) ?_ ?_
   ·rintro l ds m4 ⟨rfl,j,o,v,hj1,hj2,hO,hown,hok,hun,us,hus,rfl⟩
    refine Qal fun Q' hQ=>?_
    obtain⟨j1,hj⟩:∃ j1,j1=j+1:=⟨_,rfl⟩
    have hw2:IntKind.wrap .i64 ((j:Int)+1)=(j1:Int):=by rw [wr64 _ (by omega) (by omega)];omega
    simp [hus,hw2]
    subst hQ
    subst hj
    exact⟨inn.length-(j+1),by omega,j+1,o,v,rfl,hj2,rfl,hO,hown,hok,hun,Sl.mk rfl (by simp [hus])⟩
   refine Qax ?_
   refine xsr fun Q' hQ=>?_
   simp [hus,hc]
   subst hQ
   obtain⟨u7,us',rfl,hus'⟩:=Qe9 (n:=107) hus
   refine Qek (fun l ds m'=>ds=[]∧m'=m3∧(32≤c.toNat∧c.toNat≤126∧c≠34)∧Sl [.pointer (some ⟨p,0,none⟩),undef,.slice none 0 0,.string ⟨⟨w'⟩⟩,.string ⟨⟨inn⟩⟩,v,.int .i64 (k:Nat),.int .u8 (c.toNat:Int)] 107 l) ?_ ?_
   rotate_left
   ·refine Qal fun Q' hQ=>?_
    have hno:¬ (32≤c.toNat∧c.toNat≤126∧c≠34)→Qcy inn=none:=fun e=>by rw [hun,Qys _ e];rfl
    by_cases h1:32≤c.toNat
    ·have h1':(32:Int)≤(c.toNat:Int):=by omega
     by_cases h2:c.toNat≤126
     ·have h2':(c.toNat:Int)≤126:=by omega
      by_cases h3:c=34
      ·subst h3
       simp [hus']
       refine Qak (Qad (by decide)) (Qdn _) (fun v m' h=>h.elim) ?_
       rintro ch m4 ⟨rfl,rfl⟩
       subst hQ
       exact⟨rfl,bad3 (hno (by simp)),rfl,hK3⟩
      ·have h3':¬ (c.toNat:Int)=34:=fun e=>h3 (by apply UInt8.toNat_inj.1;show c.toNat=34;omega)
       simp [hus',h1',h2',h3']
       refine Qak (Qad (by decide)) (Qen _) ?_ (fun ch m' h=>h.elim)
       rintro r m4 ⟨rfl,rfl⟩
       subst hQ
       exact⟨rfl,rfl,⟨h1,h2,h3⟩,Sl.mk rfl (by simp [hus'])⟩
     ·have h2':¬ (c.toNat:Int)≤126:=by omega
      simp [hus',h1',h2']
      refine Qak (Qad (by decide)) (Qdn _) (fun v m' h=>h.elim) ?_
      rintro ch m4 ⟨rfl,rfl⟩
      subst hQ
      exact⟨rfl,bad3 (hno (fun e=>h2 e.2.1)),rfl,hK3⟩
    ·have h1':¬ (32:Int)≤(c.toNat:Int):=by omega
     simp [hus',h1']
     refine Qak (Qad (by decide)) (Qdn _) (fun v m' h=>h.elim) ?_
     rintro ch m4 ⟨rfl,rfl⟩
     subst hQ
     exact⟨rfl,bad3 (hno (fun e=>h1 e.1)),rfl,hK3⟩
   clear us' hus' hus
   rintro l ds m4 ⟨rfl,rfl,hcr,us,hus,rfl⟩
   refine xseq (xseq (Qal fun Q' hQ=>?_))
   by_cases h92:c=92
   rotate_left
   ·have h92':¬ (c.toNat:Int)=92:=fun e=>h92 (by apply UInt8.toNat_inj.1;show c.toNat=92;omega)
    simp [hus,h92']
    subst hQ
    refine xyes (by simp [hus]) ?_
    obtain⟨aw,v',m5,rfl,g1,g2,g3⟩:=app1 hown hO.1 c
    refine xsr fun Q' hQ=>?_
    simp [hus,Qce _ o.length o.length 1 1 (by omega),g1]
    subst hQ
    refine Qdy ?_
    rw [Qmr _ hcr h92] at hun
    simp only [Qoz,Qog,if_true]
    refine⟨rfl,k,o++[c],v',by omega,by omega,hO.trans g3,g2,by simp;omega,?_,Sl.mk rfl (by simp [hus])⟩
    rw [hun,Option.map_map];congr 1;funext x;simp
   ·subst h92
    simp [hus]
    subst hQ
    refine xno (by simp [hus]) (Qbd ?_)
    refine xsr fun Q' hQ=>?_
    simp [hus,hw2]
    subst hQ
    refine Qek (fun l ds m'=>ds=[]∧m'=m4∧k1<inn.length∧Sl [.pointer (some ⟨p,0,none⟩),undef,.slice none 0 0,.string ⟨⟨w'⟩⟩,.string ⟨⟨inn⟩⟩,v,.int .i64 (k1:Nat),.int .u8 92] 107 l) ?_ ?_
    rotate_left
    ·refine Qal fun Q' hQ=>?_
     by_cases h1:k1<inn.length
     ·simp [hus,h1]
      refine Qak (Qad (by decide)) (Qen _) ?_ (fun ch m' h=>h.elim)
      rintro r m4 ⟨rfl,rfl⟩
      subst hQ
      exact⟨rfl,rfl,h1,Sl.mk rfl (by simp [hus])⟩
     ·simp [hus,h1]
      refine Qak (Qad (by decide)) (Qdn _) (fun v m' h=>h.elim) ?_
      rintro ch m4 ⟨rfl,rfl⟩
      subst hQ
      refine⟨rfl,bad3 ?_,rfl,hK3⟩
      rw [hun,List.drop_eq_nil_of_le (by omega),Qvc];rfl
    clear hus
    rintro l ds m5 ⟨rfl,rfl,hk2,us,hus,rfl⟩
    obtain⟨d,hd⟩:∃ d,inn[k1]? = some d:=⟨_,Kge hk2⟩
    have hdr2:inn.drop (k+1)=d::inn.drop (k1+1):=by
     rw [← hk1,List.drop_eq_getElem_cons hk2];congr 1;rw [Kge hk2] at hd;exact Kai hd
    rw [hdr2,Qkv] at hun
    have d1:∀ n:Nat,n<256→¬ d=UInt8.ofNat n→¬ (d.toNat:Int)=(n:Int):=fun n hn e e2=>e (by apply UInt8.toNat_inj.1;rw [UInt8.toNat_ofNat_of_lt' (by simpa using hn)];omega)
    refine xsr fun Q' hQ=>?_
    simp [hus,hd]
    subst hQ
    refine Qax (xseq (Qal fun Q' hQ=>?_))
    have put:∀ (b:UInt8),Qcy inn=((Qcy (inn.drop (k1+1))).map (b :: ·)).map (o ++ ·)→Qcy inn=(Qcy (inn.drop (k1+1))).map ((o++[b]) ++ ·):=fun b e=>by rw [e,Option.map_map];congr 1;funext x;simp
    by_cases hd1:d=110
    ·subst hd1
     simp [hus]
     subst hQ
     refine xyes (by simp [hus]) ?_
     obtain⟨aw,v',m6,rfl,g1,g2,g3⟩:=app1 hown hO.1 10
     refine Qal fun Q' hQ=>?_
     simp at g1
     simp [hus,Qce _ o.length o.length 1 1 (by omega),g1]
     subst hQ
     exact⟨rfl,k1,o++[10],v',by omega,by omega,hO.trans g3,g2,by simp;omega,put 10 (by rw [hun,if_pos rfl]),Sl.mk rfl (by simp [hus])⟩
    have hd1':=d1 110 (by omega) hd1
    simp at hd1'
    simp [hus,hd1']
    subst hQ
    refine xno (by simp [hus]) ?_
    rw [if_neg hd1] at hun
    refine xsr fun Q' hQ=>?_
    by_cases hd2:d=116
    ·subst hd2
     simp [hus]
     subst hQ
     refine xyes (by simp [hus]) ?_
     obtain⟨aw,v',m6,rfl,g1,g2,g3⟩:=app1 hown hO.1 9
     refine Qal fun Q' hQ=>?_
     simp at g1
     simp [hus,Qce _ o.length o.length 1 1 (by omega),g1]
     subst hQ
     exact⟨rfl,k1,o++[9],v',by omega,by omega,hO.trans g3,g2,by simp;omega,put 9 (by rw [hun,if_pos rfl]),Sl.mk rfl (by simp [hus])⟩
    have hd2':=d1 116 (by omega) hd2
    simp at hd2'
    simp [hus,hd2']
    subst hQ
    refine xno (by simp [hus]) ?_
    rw [if_neg hd2] at hun
    refine Qek (fun l ds m'=>ds=[]∧m'=m5∧gx l 80=.bool (decide (d=34∨d=92))∧Sl [.pointer (some ⟨p,0,none⟩),undef,.slice none 0 0,.string ⟨⟨w'⟩⟩,.string ⟨⟨inn⟩⟩,v,.int .i64 (k1:Nat),.int .u8 92] 107 l∧gx l 67=.int .u8 (d.toNat:Int)) ?_ ?_
    rotate_left
    ·refine xsr fun Q' hQ=>?_
     by_cases hd3:d=34
     ·subst hd3
      simp [hus]
      subst hQ
      refine xyes (by simp [hus]) (Qbd ?_)
      refine⟨rfl,rfl,by simp [hus],Sl.mk rfl (by simp [hus]),by simp [hus]⟩
     ·have hd3':=d1 34 (by omega) hd3
      simp at hd3'
      simp [hus,hd3']
      subst hQ
      refine xno (by simp [hus]) ?_
      refine Qal fun Q' hQ=>?_
      by_cases hd4:d=92
      ·subst hd4
       simp [hus]
       subst hQ
       exact⟨rfl,rfl,by simp [hus],Sl.mk rfl (by simp [hus]),by simp [hus]⟩
      ·have hd4':=d1 92 (by omega) hd4
       simp at hd4'
       simp [hus,hd4']
       subst hQ
       exact⟨rfl,rfl,by simp [hus,hd3,hd4],Sl.mk rfl (by simp [hus]),by simp [hus]⟩
    clear hus
    rintro l ds m6 ⟨rfl,rfl,h80,⟨us,hus,rfl⟩,h67⟩
    simp at h80 h67
    by_cases hd5:d=34∨d=92
    ·refine xif (v:=true) (by rw [Qei];simp [h80,hd5]) (fun _=>?_) (fun h=>by cases h)
     obtain⟨aw,v',m7,rfl,g1,g2,g3⟩:=app1 hown hO.1 d
     refine Qal fun Q' hQ=>?_
     simp [hus,hd,Qce _ o.length o.length 1 1 (by omega),g1]
     subst hQ
     exact⟨rfl,k1,o++[d],v',by omega,by omega,hO.trans g3,g2,by simp;omega,put d (by rw [hun,if_pos hd5]),Sl.mk rfl (by simp [hus])⟩
    have hd5':=not_or.1 hd5
    refine xif (v:=false) (by rw [Qei];simp [h80,hd5'.1,hd5'.2]) (fun h=>by cases h) (fun _=>?_)
    rw [if_neg hd5] at hun
    refine xsr fun Q' hQ=>?_
    by_cases hd6:d=120
    rotate_left
    ·have hd6':=d1 120 (by omega) hd6
     simp at hd6'
     rw [if_neg hd6] at hun
     simp [hus,h67,hd6']
     subst hQ
     refine xno (by simp [hus]) ?_
     refine Qal fun Q' hQ=>?_
     simp [hus]
     subst hQ
     exact⟨rfl,bad3 (by rw [hun];rfl),rfl,hK3⟩
    subst hd6
    rw [if_pos rfl] at hun
    simp [hus,h67]
    subst hQ
    refine xyes (by simp [hus]) ?_
    refine xsr fun Q' hQ=>?_
    obtain⟨k2,hk3⟩:∃ k2,k2=k1+1:=⟨_,rfl⟩
    obtain⟨k3,hk4⟩:∃ k3,k3=k1+2:=⟨_,rfl⟩
    have hw3:IntKind.wrap .i64 ((k1:Int)+1)=(k2:Int):=by rw [wr64 _ (by omega) (by omega)];omega
    have hw4:IntKind.wrap .i64 ((k1:Int)+2)=(k3:Int):=by rw [wr64 _ (by omega) (by omega)];omega
    by_cases h3:k3<inn.length
    rotate_left
    ·simp [hus,hw4,h3]
     refine Qak (Qad (by decide)) (Qdn _) (fun v m' h=>h.elim) ?_
     rintro ch m4 ⟨rfl,rfl⟩
     subst hQ
     refine⟨rfl,bad3 ?_,rfl,hK3⟩
     rw [hun]
     have:(inn.drop (k1+1)).length≤1:=by simp;omega
     match hx:inn.drop (k1+1),this with
     | [],_=>rfl
     | [_],_=>rfl
     |_::_::_,h=>simp at h
    simp [hus,hw4,h3]
    refine Qak (Qad (by decide)) (Qen _) ?_ (fun ch m' h=>h.elim)
    rintro r m4 ⟨rfl,rfl⟩
    subst hQ
    obtain⟨a,ha⟩:∃ a,inn[k2]? = some a:=⟨_,Kge (by omega)⟩
    obtain⟨b,hb⟩:∃ b,inn[k3]? = some b:=⟨_,Kge (by omega)⟩
    have hdr3:inn.drop (k1+1)=a::b::inn.drop (k3+1):=by
     rw [List.drop_eq_getElem_cons (by omega),List.drop_eq_getElem_cons (by omega)]
     rw [Kge (by omega)] at ha hb
     have e1:=Kai ha
     have e2:=Kai hb
     subst hk3;subst hk4
     rw [e1];congr 2
    rw [hdr3] at hun
    simp only at hun
    have hx0:∀ (l:List Value),l.length=115→True:=fun _ _=>trivial
    obtain⟨aw0,rfl⟩:=hown.shape
    refine xseq (xdrw 5 fun Q' hQ=>?_)
    simp [hus,hw3,ha,hw4,hb]
    refine Qak (Qad (by decide)) (Qsc _ a) ?_ ?_
    rotate_left
    ·rintro ch m7 ⟨hx,rfl,rfl⟩
     subst hQ
     exact⟨rfl,bad3 (by rw [hun,hx];rfl),rfl,hK3⟩
    rintro r m7 ⟨x,hx,rfl,rfl⟩
    obtain⟨z,hz⟩:∃ z,z=16*x:=⟨_,rfl⟩
    have hshl:∀ (m:Mem) (X Y:Operand),binA tb m .shl 5 X Y (.int .u8 (x:Int)) (.int .u64 4)=some (.int .u8 (z:Int)):=fun _ X Y=>by rw [shl4 X Y (Qmi hx),hz]
    simp [hus,hshl]
    refine Qak (Qad (by decide)) (Qsc _ b) ?_ ?_
    rotate_left
    ·rintro ch m7 ⟨hy,rfl,rfl⟩
     subst hQ
     exact⟨rfl,bad3 (by rw [hun,hx,hy];rfl),rfl,hK3⟩
    rintro r m8 ⟨y,hy,rfl,rfl⟩
    obtain⟨c8,hc8⟩:∃ c8,c8=UInt8.ofNat (16*x+y):=⟨_,rfl⟩
    have hor:∀ (m:Mem) (X Y:Operand),binA tb m .or 5 X Y (.int .u8 (z:Int)) (.int .u8 (y:Int))=some (.int .u8 (c8.toNat:Int)):=fun _ X Y=>by rw [hz,or4 X Y (Qmi hx) (Qmi hy),hc8]
    obtain⟨aw,v',m9,he,g1,g2,g3⟩:=app1 hown hO.1 c8
    cases he
    obtain⟨aw1,hv'⟩:=g2.shape
    subst hv'
    simp [hus,hor,hshl,hw3,hw4,Qce _ o.length o.length 1 1 (by omega),g1]
    subst hQ
    refine Qal fun Q' hQ=>?_
    simp [hus,hw4]
    subst hQ
    refine⟨rfl,k3,o++[c8],_,by omega,by omega,hO.trans g3,g2,by simp;omega,?_,Sl.mk ?_ (by simp [hus])⟩
    ·rw [hun,hx,hy]
     simp only
     rw [Option.map_map,← hc8];congr 1;funext x;simp
    ·simp
  ·simp only [decide_eq_false_iff_not] at h
   obtain rfl:k=inn.length:=by omega
   rw [List.drop_length] at hun
   refine xsr fun Q' hQ=>?_
   simp [hus]
   subst hQ
   refine xret ?_
   refine⟨rfl,_,Qat _,(o,ws),by simp [rd1,htx,unq_done hun],?_,by show o.length≤2000000;omega,hL3,hK3⟩
   simp [hus]
   exact hown.le hK.1
end Go.Proofs.YtgmkbdmgifdfeaaGreatDoor

set_option maxRecDepth 8000
namespace Go.Proofs.YtgmkbdmgifdfeaaGreatDoor
open Go Go.Ev
def Qaa (s:Stp) (d c:Value):List Value :=
 [.int .i64 s.kind,.int .i64 s.node,.int .i64 s.stream,.int .u64 s.time,.int .u64 s.life,d,.int .u64 s.seq,.int .i64 s.qc,.int .i64 s.qb,.int .i64 s.way,.int .i64 s.place,.int .i64 s.pos,.int .u32 s.mask,.int .u64 s.ticks,c,.int .i64 s.cursor,.int .u64 s.to]
def Adr (g o:Nat):Prop:=tb.ov.get g=none∧∀ (m:Mem) (b:Nat),Qaw tb g [.pointer (some ⟨b,0,none⟩)] m (retR fun r m'=>r=.pointer (some ⟨b,o,none⟩)∧m'=m)
theorem adr82:Adr 82 2:=by
 refine⟨Qad (by decide),fun m b=>?_⟩
 refine Qa5 Tryz.func82 e82 rfl rfl ?_
 simp only [s82,List.replicate,Klc,Kln,Kca,Kna,Nat.reduceAdd,Nat.reduceSub]
 refine xsr fun Q' hQ=>?_
 simp
 subst hQ
 refine xsr fun Q' hQ=>?_
 simp
 subst hQ
 refine xret ?_
 exact⟨rfl,_,Qat _,rfl,rfl⟩
theorem adr89:Adr 89 3:=by
 refine⟨Qad (by decide),fun m b=>?_⟩
 refine Qa5 Tryz.func89 e89 rfl rfl ?_
 simp only [s89,List.replicate,Klc,Kln,Kca,Kna,Nat.reduceAdd,Nat.reduceSub]
 refine xsr fun Q' hQ=>?_
 simp
 subst hQ
 refine xsr fun Q' hQ=>?_
 simp
 subst hQ
 refine xret ?_
 exact⟨rfl,_,Qat _,rfl,rfl⟩
theorem adr55:Adr 55 4:=by
 refine⟨Qad (by decide),fun m b=>?_⟩
 refine Qa5 Tryz.func55 e55 rfl rfl ?_
 simp only [s55,List.replicate,Klc,Kln,Kca,Kna,Nat.reduceAdd,Nat.reduceSub]
 refine xsr fun Q' hQ=>?_
 simp
 subst hQ
 refine xsr fun Q' hQ=>?_
 simp
 subst hQ
 refine xret ?_
 exact⟨rfl,_,Qat _,rfl,rfl⟩
theorem adr54:Adr 54 6:=by
 refine⟨Qad (by decide),fun m b=>?_⟩
 refine Qa5 Tryz.func54 e54 rfl rfl ?_
 simp only [s54,List.replicate,Klc,Kln,Kca,Kna,Nat.reduceAdd,Nat.reduceSub]
 refine xsr fun Q' hQ=>?_
 simp
 subst hQ
 refine xsr fun Q' hQ=>?_
 simp
 subst hQ
 refine xret ?_
 exact⟨rfl,_,Qat _,rfl,rfl⟩
theorem adr51:Adr 51 7:=by
 refine⟨Qad (by decide),fun m b=>?_⟩
 refine Qa5 Tryz.func51 e51 rfl rfl ?_
 simp only [s51,List.replicate,Klc,Kln,Kca,Kna,Nat.reduceAdd,Nat.reduceSub]
 refine xsr fun Q' hQ=>?_
 simp
 subst hQ
 refine xsr fun Q' hQ=>?_
 simp
 subst hQ
 refine xret ?_
 exact⟨rfl,_,Qat _,rfl,rfl⟩
theorem adr52:Adr 52 8:=by
 refine⟨Qad (by decide),fun m b=>?_⟩
 refine Qa5 Tryz.func52 e52 rfl rfl ?_
 simp only [s52,List.replicate,Klc,Kln,Kca,Kna,Nat.reduceAdd,Nat.reduceSub]
 refine xsr fun Q' hQ=>?_
 simp
 subst hQ
 refine xsr fun Q' hQ=>?_
 simp
 subst hQ
 refine xret ?_
 exact⟨rfl,_,Qat _,rfl,rfl⟩
theorem adr97:Adr 97 10:=by
 refine⟨Qad (by decide),fun m b=>?_⟩
 refine Qa5 Tryz.func97 e97 rfl rfl ?_
 simp only [s97,List.replicate,Klc,Kln,Kca,Kna,Nat.reduceAdd,Nat.reduceSub]
 refine xsr fun Q' hQ=>?_
 simp
 subst hQ
 refine xsr fun Q' hQ=>?_
 simp
 subst hQ
 refine xret ?_
 exact⟨rfl,_,Qat _,rfl,rfl⟩
theorem adr98:Adr 98 11:=by
 refine⟨Qad (by decide),fun m b=>?_⟩
 refine Qa5 Tryz.func98 e98 rfl rfl ?_
 simp only [s98,List.replicate,Klc,Kln,Kca,Kna,Nat.reduceAdd,Nat.reduceSub]
 refine xsr fun Q' hQ=>?_
 simp
 subst hQ
 refine xsr fun Q' hQ=>?_
 simp
 subst hQ
 refine xret ?_
 exact⟨rfl,_,Qat _,rfl,rfl⟩
theorem adr57:Adr 57 13:=by
 refine⟨Qad (by decide),fun m b=>?_⟩
 refine Qa5 Tryz.func57 e57 rfl rfl ?_
 simp only [s57,List.replicate,Klc,Kln,Kca,Kna,Nat.reduceAdd,Nat.reduceSub]
 refine xsr fun Q' hQ=>?_
 simp
 subst hQ
 refine xsr fun Q' hQ=>?_
 simp
 subst hQ
 refine xret ?_
 exact⟨rfl,_,Qat _,rfl,rfl⟩
theorem adr104:Adr 104 15:=by
 refine⟨Qad (by decide),fun m b=>?_⟩
 refine Qa5 Tryz.func104 e104 rfl rfl ?_
 simp only [s104,List.replicate,Klc,Kln,Kca,Kna,Nat.reduceAdd,Nat.reduceSub]
 refine xsr fun Q' hQ=>?_
 simp
 subst hQ
 refine xsr fun Q' hQ=>?_
 simp
 subst hQ
 refine xret ?_
 exact⟨rfl,_,Qat _,rfl,rfl⟩
theorem adr56:Adr 56 16:=by
 refine⟨Qad (by decide),fun m b=>?_⟩
 refine Qa5 Tryz.func56 e56 rfl rfl ?_
 simp only [s56,List.replicate,Klc,Kln,Kca,Kna,Nat.reduceAdd,Nat.reduceSub]
 refine xsr fun Q' hQ=>?_
 simp
 subst hQ
 refine xsr fun Q' hQ=>?_
 simp
 subst hQ
 refine xret ?_
 exact⟨rfl,_,Qat _,rfl,rfl⟩
theorem Jbp {u:Nat} (h:u<10 ^ 20):(Lib.decDigits u).length≤20:=by
 rw [Lib.decDigits_eq,List.length_map,List.length_range]
 by_cases h0:u<10
 ·rw [Lib.nDigits_small h0];omega
 ·apply Decidable.byContradiction
  intro hn
  have:∀ (k u:Nat),k<Lib.nDigits u→10 ^ k≤u∨k=0:=by
   intro k
   induction k with
   |zero=>intro u _;exact .inr rfl
   |succ k ih =>
    intro u hu
    by_cases h:u<10
    ·rw [Lib.nDigits_small h] at hu;omega
    ·rw [Lib.nDigits_big h] at hu
     refine .inl ?_
     rw [Nat.pow_succ]
     rcases ih (u / 10) (by omega) with h1|h1
     ·omega
     ·subst h1;omega
  rcases this 20 u (by omega) with h1|h1<;>omega
theorem Qfa {z:Int} (h:i64R z):(Lib.itoa z).length≤21:=by
 obtain⟨h1,h2⟩:=h
 unfold Lib.itoa
 split
 ·have:=Jbp (u:=z.natAbs) (by omega)
  simp only [Klc];omega
 ·have:=Jbp (u:=z.toNat) (by omega)
  omega
theorem Qn2 {z:Int} (h:u64R z):(Lib.decDigits z.toNat).length≤20:=Jbp (by obtain⟨h1,h2⟩:=h;omega)
theorem Prn.new {n0 p:Nat} {m:Mem} {v:Value} {out:List UInt8} {g:Bool} (h:Prn n0 m p v out g) (o:AObj):Prn n0 (Qah m o) p v out g:=by
 obtain⟨a,h⟩:=h
 exact⟨a,h.lift (fun x _ hx=>by rw [Qan,if_neg (by omega)]) (by rw [Qaf];omega)⟩
theorem Two.new (m:Mem) (p:Nat) (v:Value) (o:AObj):Two m (Qah m o) p v v:=⟨by rw [Qaf];omega,fun x hx _ h=>⟨by rw [Qan,if_neg (by omega)],h⟩⟩
theorem Prn.keepOld {n0 p:Nat} {m m':Mem} {v:Value} {out:List UInt8} {g:Bool} (h:Prn n0 m p v out g) (k:Old m.next m m'):Prn n0 m' p v out g:=by
 obtain⟨a,h⟩:=h
 exact⟨a,h.lift (fun x _ hx=>k.2 x hx) k.1⟩
theorem Two.ofOld {m m':Mem} {p:Nat} {v:Value} (k:Old m.next m m'):Two m m' p v v:=⟨k.1,fun x hx _ h=>⟨k.2 x hx,h⟩⟩
def PrK (f:Fd) (fn:Nat) (caps:List Value) (n0 p:Nat) (m:Mem):Prop :=
 ∀ (s:Stp) (d c v:Value) (out:List UInt8) (g:Bool),s.R→SlOld n0 m d s.data.length (u8s s.data)→SlOld n0 m c s.choices.length (i64s s.choices)→Prn n0 m p v out g→out.length+25*s.choices.length+10*s.data.length≤800000000 →
   Qaw tb fn ([.pointer (some ⟨p,0,none⟩),.agg ⟨Qaa s d c⟩]++caps) m (retR fun r m'=>∃ v',Prn n0 m' p v' (out++f.text s) (g||f.great s)∧Old n0 m m'∧Two m m' p v v')
theorem Jay {f:Fd} {g0 o n0 p:Nat} {m:Mem} {cb:Nat} (ha:Adr g0 o) (hn:n0≤m.next) (hp:Qb4 m) (hp0:0<n0) (hcb:vw m cb=some ⟨true,118,false,[.func (.func g0) ⟨[]⟩ ⟨[]⟩]⟩) (hcl:cb<m.next)
  (hf:∀ s:Stp,∀ d c,s.R→∃ z,(Qaa s d c)[o]? = some (.int .i64 z)∧i64R z∧f.text s=decI z∧f.great s=Qam z):PrK f 85 [.pointer (some ⟨cb,0,none⟩)] n0 p m:=by
 intro s d c v out g hR hd hc hP hb
 obtain⟨z,hz,hzr,ht,hg⟩:=hf s d c hR
 rw [ht,hg]
 refine Qa5 Tryz.func85 e85 rfl rfl ?_
 simp only [s85,List.replicate,Klc,Kln,Kca,Kna,Nat.reduceAdd,Nat.reduceSub]
 refine xsr fun Q' hQ=>?_
 simp
 subst hQ
 have hP1:=hP.new (Qb1 36 (Qa0 (.agg ⟨Qaa s d c⟩)) .none false)
 have hne:¬ cb=m.next:=by omega
 have hO1:Old n0 m (Qah m (Qb1 36 (Qaa s d c) .none false)):=(Old.refl _ _).new hn _
 refine Qal fun Q' hQ=>?_
 simp [hcb,hne]
 refine Qak ha.1 (ha.2 _ _) ?_ (fun ch m' h=>h.elim)
 rintro r m2 ⟨rfl,rfl⟩
 simp [hz]
 refine Qak (Qad (by decide)) (Qpz hP1 (by rw [Qaf];omega) (hp.old hO1 hp0) hp0 hzr.1 hzr.2 (by have:=Qfa hzr;omega)) ?_ (fun ch m' h=>h.elim)
 rintro r m3 ⟨v3,h3,h4,h5⟩
 subst hQ
 exact⟨rfl,_,rfl,v3,by simpa [decI,Qam,Bool.or_assoc] using h3,hO1.trans h4,(Two.new m p v _).trans h5⟩
theorem Jah {f:Fd} {g0 o n0 p:Nat} {m:Mem} {cb:Nat} (ha:Adr g0 o) (hn:n0≤m.next) (hp:Qb4 m) (hp0:0<n0) (hcb:vw m cb=some ⟨true,121,false,[.func (.func g0) ⟨[]⟩ ⟨[]⟩]⟩) (hcl:cb<m.next)
  (hf:∀ s:Stp,∀ d c,s.R→∃ z,(Qaa s d c)[o]? = some (.int .u64 z)∧u64R z∧f.text s=decU z∧f.great s=false):PrK f 88 [.pointer (some ⟨cb,0,none⟩)] n0 p m:=by
 intro s d c v out g hR hd hc hP hb
 obtain⟨z,hz,hzr,ht,hg⟩:=hf s d c hR
 rw [ht,hg]
 refine Qa5 Tryz.func88 e88 rfl rfl ?_
 simp only [s88,List.replicate,Klc,Kln,Kca,Kna,Nat.reduceAdd,Nat.reduceSub]
 refine xsr fun Q' hQ=>?_
 simp
 subst hQ
 have hP1:=hP.new (Qb1 36 (Qa0 (.agg ⟨Qaa s d c⟩)) .none false)
 have hne:¬ cb=m.next:=by omega
 have hO1:Old n0 m (Qah m (Qb1 36 (Qaa s d c) .none false)):=(Old.refl _ _).new hn _
 refine Qal fun Q' hQ=>?_
 simp [hcb,hne]
 refine Qak ha.1 (ha.2 _ _) ?_ (fun ch m' h=>h.elim)
 rintro r m2 ⟨rfl,rfl⟩
 simp [hz]
 refine Qak (Qad (by decide)) (Qum hP1 (by rw [Qaf];omega) (hp.old hO1 hp0) hzr.1 hzr.2 (by have:=Qn2 hzr;omega)) ?_ (fun ch m' h=>h.elim)
 rintro r m3 ⟨v3,h3,h4,h5⟩
 subst hQ
 exact⟨rfl,_,rfl,v3,by simpa [decU] using h3,hO1.trans h4,(Two.new m p v _).trans h5⟩
theorem Qxl {n0 p:Nat} {m:Mem} (hn:n0≤m.next) (hp:Qb4 m) (hp0:0<n0):PrK .mask 101 [] n0 p m:=by
 intro s d c v out g hR hd hc hP hb
 refine Qa5 Tryz.func101 e101 rfl rfl ?_
 simp only [s101,List.replicate,Klc,Kln,Kca,Kna,List.append_nil,Nat.reduceAdd,Nat.reduceSub]
 refine xsr fun Q' hQ=>?_
 simp
 subst hQ
 have hP1:=hP.new (Qb1 36 (Qa0 (.agg ⟨Qaa s d c⟩)) .none false)
 have hO1:Old n0 m (Qah m (Qb1 36 (Qaa s d c) .none false)):=(Old.refl _ _).new hn _
 have hz:(Qaa s d c)[12]? = some (.int .u32 s.mask):=rfl
 have hzr:=hR.mask
 refine Qal fun Q' hQ=>?_
 simp [hz]
 rw [wru64 _ hzr.1 (by have:=hzr.2;omega)]
 refine Qak (Qad (by decide)) (Qum hP1 (by rw [Qaf];omega) (hp.old hO1 hp0) hzr.1 (by have:=hzr.2;omega) (by have:=Qn2 (z:=s.mask) ⟨hzr.1,by have:=hzr.2;omega⟩;omega)) ?_ (fun ch m' h=>h.elim)
 rintro r m3 ⟨v3,h3,h4,h5⟩
 subst hQ
 exact⟨rfl,_,rfl,v3,by simpa [Fd.text,Fd.great,decU] using h3,hO1.trans h4,(Two.new m p v _).trans h5⟩
theorem Qx2 {n0 p:Nat} {m:Mem} (hn:n0≤m.next):PrK .data 92 [] n0 p m:=by
 intro s d c v out g hR hd hc hP hb
 refine Qa5 Tryz.func92 e92 rfl rfl ?_
 simp only [s92,List.replicate,Klc,Kln,Kca,Kna,List.append_nil,Nat.reduceAdd,Nat.reduceSub]
 refine xsr fun Q' hQ=>?_
 simp
 subst hQ
 have hP1:=hP.new (Qb1 36 (Qa0 (.agg ⟨Qaa s d c⟩)) .none false)
 have hO1:Old n0 m (Qah m (Qb1 36 (Qaa s d c) .none false)):=(Old.refl _ _).new hn _
 have hOm:Old m.next m (Qah m (Qb1 36 (Qaa s d c) .none false)):=(Old.refl _ _).new (Knr _) _
 have hz:(Qaa s d c)[5]? = some d:=rfl
 refine Qal fun Q' hQ=>?_
 simp [hz]
 refine Qak (Qad (by decide)) (quote_ok ((hd.at hn).old hOm) (by omega)) ?_ (fun ch m' h=>h.elim)
 rintro r m2 ⟨rfl,h2⟩
 have hql:(Qde s.data).length≤4*s.data.length+2:=by
  have:∀ l:List UInt8,(l.flatMap Qbj).length≤4*l.length:=by
   intro l
   induction l with
   |nil=>simp
   |cons b l ih =>
    have:(Qbj b).length≤4:=by unfold Qbj;repeat (split<;>try simp)
    simp only [List.flatMap_cons,Kla,Klc];omega
  have:=this s.data
  simp only [Qde,Klc,Kla,Kln];omega
 refine Qak (Qad (by decide)) (Qvl (hP1.keepOld h2) (by have:=h2.1;rw [Qaf] at this;omega) (by omega)) ?_ (fun ch m' h=>h.elim)
 rintro r m3 ⟨v3,h3,h4,h5⟩
 subst hQ
 refine⟨rfl,_,rfl,v3,by simpa [Fd.text,Fd.great] using h3,hO1.trans ((h2.le (by rw [Qaf];omega)).trans h4),?_⟩
 exact (Two.new m p v _).trans ((Two.ofOld h2).trans h5)
theorem Qym {n0 p:Nat} {m:Mem} (hn:n0≤m.next):∀ (s:Stp) (d c v:Value) (out:List UInt8) (g:Bool),s.way=1∨s.way=2→Prn n0 m p v out g→out.length≤800000000 →
  Qaw tb 96 [.pointer (some ⟨p,0,none⟩),.agg ⟨Qaa s d c⟩] m (retR fun r m'=>∃ v',Prn n0 m' p v' (out++Fd.text .way s) g∧Old n0 m m'∧Two m m' p v v'):=by
 intro s d c v out g hR hP hb
 refine Qa5 Tryz.func96 e96 rfl rfl ?_
 simp only [s96,List.replicate,Klc,Kln,Kca,Kna,List.append_nil,Nat.reduceAdd,Nat.reduceSub]
 refine xsr fun Q' hQ=>?_
 simp
 subst hQ
 have hP1:=hP.new (Qb1 36 (Qa0 (.agg ⟨Qaa s d c⟩)) .none false)
 have hO1:Old n0 m (Qah m (Qb1 36 (Qaa s d c) .none false)):=(Old.refl _ _).new hn _
 have hz:(Qaa s d c)[9]? = some (.int .i64 s.way):=rfl
 refine Qal fun Q' hQ=>?_
 rcases hR with hw|hw
 all_goals
  simp [hz,hw,Qia]
  refine Qak (Qad (by decide)) (Qvl hP1 (by rw [Qaf];omega) (by simp only [Klc,Kln];omega)) ?_ (fun ch m' h=>h.elim)
  rintro r m3 ⟨v3,h3,h4,h5⟩
  subst hQ
  exact⟨rfl,_,rfl,v3,by simpa [Fd.text,hw] using h3,hO1.trans h4,(Two.new m p v _).trans h5⟩
theorem Qq1 {n0 p:Nat} {m:Mem} (hn:n0≤m.next) (hp:Qb4 m) (hp0:0<n0):PrK .choices 103 [] n0 p m:=by
 intro s d c v out g hR hd hc hP hb
 obtain⟨ac,cc,rfl⟩:=(hc.at hn).shape
 refine Qa5 Tryz.func103 e103 rfl rfl ?_
 simp only [s103,List.replicate,Klc,Kln,Kca,Kna,List.append_nil,Nat.reduceAdd,Nat.reduceSub]
 refine xsr fun Q' hQ=>?_
 simp
 subst hQ
 have hP1:=hP.new (Qb1 36 (Qaa s d (.slice ac s.choices.length cc)) .none false)
 have hO1:Old n0 m (Qah m (Qb1 36 (Qaa s d (.slice ac s.choices.length cc)) .none false)):=(Old.refl _ _).new hn _
 have hOm:Old m.next m (Qah m (Qb1 36 (Qaa s d (.slice ac s.choices.length cc)) .none false)):=(Old.refl _ _).new (Knr _) _
 have hz:(Qaa s d (.slice ac s.choices.length cc))[14]? = some (.slice ac s.choices.length cc):=rfl
 have hT1:=Two.new m p v (Qb1 36 (Qaa s d (.slice ac s.choices.length cc)) .none false)
 refine xsr fun Q' hQ=>?_
 simp [hz]
 subst hQ
 generalize hm1:Qah m (Qb1 36 (Qaa s d (.slice ac s.choices.length cc)) .none false)=m1 at *
 refine (Qax (Qem (N:=s.choices.length) (I:=fun n l ds m2=>∃ k v2 y5,n=s.choices.length-k∧k≤s.choices.length∧ds=[] ∧
  Sl [.pointer (some ⟨p,0,none⟩),.agg ⟨Qaa s d (.slice ac s.choices.length cc)⟩,undef,.pointer (some ⟨m.next,0,none⟩),undef,y5,.pointer (some ⟨m.next,14,none⟩),.slice ac s.choices.length cc,.int .i64 (s.choices.length:Nat),.int .i64 (k:Nat)] 7 l ∧
  Prn n0 m2 p v2 (out++(s.choices.take k).flatMap decI) (g||(s.choices.take k).any Qam)∧Old n0 m m2∧Two m m2 p v v2) ?_ ?_))
 ·exact⟨0,v,_,by simp,by omega,rfl,Sl.mk rfl rfl,by simpa using hP1,hO1,hT1⟩
 rintro n l ds m2 ⟨k,v2,y5,rfl,hk,rfl,⟨ts,hts,rfl⟩,hB,hO,hT⟩
 match ts,hts with
 | [x10,x11,x12,x13,x14,x15,x16],_ =>
 refine xsr fun Q' hQ=>?_
 simp
 subst hQ
 have hlen:((s.choices.take k).flatMap decI).length≤22*k:=by
  have:∀ l:List Int,(∀ x∈l,i64R x)→(l.flatMap decI).length≤22*l.length:=by
   intro l hl
   induction l with
   |nil=>simp
   |cons b l ih =>
    have h1:=Qfa (hl b (by simp))
    have h2:=ih fun x hx=>hl x (by simp [hx])
    simp only [List.flatMap_cons,Kla,Klc,decI] at h2 ⊢;omega
  have:=this (s.choices.take k) fun x hx=>hR.choices x (List.mem_of_mem_take hx)
  simp only [List.length_take] at this
  omega
 refine xseq (xif (v:=decide (k<s.choices.length)) rfl (fun h=>Qbd ?_) (fun h=>Qdy ?_))
 ·simp only [decide_eq_true_eq] at h
  have q:(i64s s.choices)[k]? = some (.int .i64 s.choices[k]):=by rw [Qv3,Kge h];rfl
  obtain⟨b2,o,c2,h1,h5,h6,h2,h3⟩:=((hc.old hO).at (Knt hn hO.1)).load q
  simp only [Value.slice.injEq] at h1
  obtain⟨rfl,-,rfl⟩:=h1
  have ql:=h3 (t:=3) (s:=none) Ty.ti3 Ty.g3
  have htk:s.choices.take (k+1)=s.choices.take k++[s.choices[k]]:=by rw [List.take_add_one,Kge h];rfl
  have hzr:=hR.choices _ (List.getElem_mem h)
  generalize hz0:s.choices[k]=z at ql htk hzr
  refine xseq (Qax (xseq (Qal fun Q' hQ=>?_)))
  simp [ql,h]
  subst hQ
  refine Qal fun Q' hQ=>?_
  simp
  refine Qak (Qad (by decide)) (Qpz hB (Knt hn hO.1) (hp.old hO hp0) hp0 hzr.1 hzr.2 (by have:=Qfa hzr;simp only [Kla];omega)) ?_ (fun ch m' h=>h.elim)
  rintro r m3 ⟨v3,g3,g4,g5⟩
  subst hQ
  refine Qal fun Q' hQ=>?_
  simp
  rw [wr64 _ (by omega) (by omega)]
  subst hQ
  refine⟨s.choices.length-(k+1),by omega,k+1,v3,_,rfl,by omega,rfl,Sl.mk rfl rfl,?_,hO.trans g4,hT.trans g5⟩
  rw [htk]
  simpa [decI,Qam,Bool.or_assoc] using g3
 ·simp only [decide_eq_false_iff_not] at h
  obtain rfl:k=s.choices.length:=by omega
  rw [List.take_length] at hB
  exact⟨rfl,_,rfl,v2,hB,hO,hT⟩
end Go.Proofs.YtgmkbdmgifdfeaaGreatDoor

set_option maxRecDepth 8000
namespace Go.Proofs.YtgmkbdmgifdfeaaGreatDoor
open Go Go.Ev
theorem Qr3 {m:Mem} {s:Stp} {d c:Value}:Qaw tb 25 [.agg ⟨Qaa s d c⟩] m (retR fun r m'=>r=.bool (Qbr s)∧Old m.next m m'):=by
 refine Qa5 Tryz.func25 e25 rfl rfl ?_
 simp only [s25,List.replicate,Klc,Kln,Kca,Kna,List.append_nil,Nat.reduceAdd,Nat.reduceSub]
 refine xsr fun Q' hQ=>?_
 simp
 subst hQ
 have hO1:Old m.next m (Qah m (Qb1 36 (Qaa s d c) .none false)):=(Old.refl _ _).new (Knr _) _
 have z0:(Qaa s d c)[0]? = some (.int .i64 s.kind):=rfl
 have z1:(Qaa s d c)[1]? = some (.int .i64 s.node):=rfl
 have z9:(Qaa s d c)[9]? = some (.int .i64 s.way):=rfl
 refine xseq (xseq (Qal fun Q' hQ=>?_))
 by_cases h1:s.kind<1
 ·simp [z0,h1]
  subst hQ
  refine xyes rfl ?_
  refine xsr fun Q' hQ=>?_
  simp
  subst hQ
  exact xret ⟨rfl,_,Qat _,by simp [gx,Qbr];omega,hO1⟩
 by_cases h2:22<s.kind
 ·simp [z0,h1,h2]
  subst hQ
  refine xyes rfl ?_
  refine xsr fun Q' hQ=>?_
  simp
  subst hQ
  exact xret ⟨rfl,_,Qat _,by simp [gx,Qbr];omega,hO1⟩
 simp [z0,h1,h2]
 subst hQ
 refine xno rfl (Qbd ?_)
 refine xseq (xseq (Qal fun Q' hQ=>?_))
 have hgo:∀ l':List Value,(∃ ts:List Value,ts.length=14∧∃ us:List Value,us.length=22∧l'=.agg ⟨Qaa s d c⟩::.pointer (some ⟨m.next,0,none⟩)::us++ts)→True:=fun _ _=>trivial
 have hk:(1≤s.kind∧s.kind≤22):=by omega
 by_cases h3:s.kind=1
 ·simp [z0,h3]
  subst hQ
  refine xno rfl (Qbd ?_)
  refine xsr fun Q' hQ=>?_
  simp [z0,h3]
  refine Qak (Qad (by decide)) Qyl ?_ (fun ch m' h=>h.elim)
  rintro r m2 ⟨rfl,rfl⟩
  simp
  subst hQ
  exact xret ⟨rfl,_,Qat _,by simp [gx,Qbr,h3],hO1⟩
 have key:(s.node=1∨s.node=2)∨¬ (s.node=1∨s.node=2):=Decidable.em _
 rcases key with key|key
 ·have hn:∃ b:Bool,(!decide (s.node=1))=b∧(b=true→(s.node=2)):=⟨_,rfl,fun h=>by simp at h;omega⟩
  rcases key with hx|hx
  all_goals
   simp [z0,z1,h3,hx]
   subst hQ
   refine xno rfl (Qbd ?_)
   refine xsr fun Q' hQ=>?_
   simp [z0]
   refine Qak (Qad (by decide)) Qyl ?_ (fun ch m' h=>h.elim)
   rintro r m2 ⟨rfl,rfl⟩
   by_cases hw:9≤s.kind∧s.kind≤12
   ·by_cases hw1:s.way=1
    ·simp [z9,hw,hw1]
     subst hQ
     exact xret ⟨rfl,_,Qat _,by simp [gx,Qbr,hw,hw1,hx,h3,hk],hO1⟩
    ·simp [z9,hw,hw1]
     subst hQ
     exact xret ⟨rfl,_,Qat _,by simp [gx,Qbr,hw,hw1,hx,h3,hk],hO1⟩
   ·simp [z9,hw]
    subst hQ
    exact xret ⟨rfl,_,Qat _,by simp [gx,Qbr,hw,hx,h3,hk],hO1⟩
 ·have hn1:¬ s.node=1:=fun h=>key (.inl h)
  have hn2:¬ s.node=2:=fun h=>key (.inr h)
  simp [z0,z1,h3,hn1,hn2]
  subst hQ
  refine xyes rfl ?_
  refine xsr fun Q' hQ=>?_
  simp
  subst hQ
  exact xret ⟨rfl,_,Qat _,by simp [gx,Qbr,hn1,hn2,h3],hO1⟩
def adrOf:Fd→Nat
 | .stream=>82 | .qc=>51 | .qb=>52 | .place=>97 | .pos=>98 | .cursor=>104 | .time=>89 | .life=>55 | .seq=>54 | .to=>56 | .ticks=>57
 |_=>0
def IsFd (m:Mem) (k0:Nat) (rv pv:Value):Fd→Prop
 | .data=>rv=.func (.func 90) ⟨[]⟩ ⟨[]⟩∧pv=.func (.func 92) ⟨[]⟩ ⟨[]⟩
 | .way=>rv=.func (.func 94) ⟨[]⟩ ⟨[]⟩∧pv=.func (.func 96) ⟨[]⟩ ⟨[]⟩
 | .mask=>rv=.func (.func 99) ⟨[]⟩ ⟨[]⟩∧pv=.func (.func 101) ⟨[]⟩ ⟨[]⟩
 | .choices=>rv=.func (.func 102) ⟨[]⟩ ⟨[]⟩∧pv=.func (.func 103) ⟨[]⟩ ⟨[]⟩
 | .time=>∃ cb,k0≤cb∧cb<k0+109∧rv=.func (.func 86) ⟨[]⟩ ⟨[.pointer (some ⟨cb,0,none⟩)]⟩∧pv=.func (.func 88) ⟨[]⟩ ⟨[.pointer (some ⟨cb,0,none⟩)]⟩∧vw m cb=some ⟨true,121,false,[.func (.func 89) ⟨[]⟩ ⟨[]⟩]⟩
 | .life=>∃ cb,k0≤cb∧cb<k0+109∧rv=.func (.func 86) ⟨[]⟩ ⟨[.pointer (some ⟨cb,0,none⟩)]⟩∧pv=.func (.func 88) ⟨[]⟩ ⟨[.pointer (some ⟨cb,0,none⟩)]⟩∧vw m cb=some ⟨true,121,false,[.func (.func 55) ⟨[]⟩ ⟨[]⟩]⟩
 | .seq=>∃ cb,k0≤cb∧cb<k0+109∧rv=.func (.func 86) ⟨[]⟩ ⟨[.pointer (some ⟨cb,0,none⟩)]⟩∧pv=.func (.func 88) ⟨[]⟩ ⟨[.pointer (some ⟨cb,0,none⟩)]⟩∧vw m cb=some ⟨true,121,false,[.func (.func 54) ⟨[]⟩ ⟨[]⟩]⟩
 | .to=>∃ cb,k0≤cb∧cb<k0+109∧rv=.func (.func 86) ⟨[]⟩ ⟨[.pointer (some ⟨cb,0,none⟩)]⟩∧pv=.func (.func 88) ⟨[]⟩ ⟨[.pointer (some ⟨cb,0,none⟩)]⟩∧vw m cb=some ⟨true,121,false,[.func (.func 56) ⟨[]⟩ ⟨[]⟩]⟩
 | .ticks=>∃ cb,k0≤cb∧cb<k0+109∧rv=.func (.func 86) ⟨[]⟩ ⟨[.pointer (some ⟨cb,0,none⟩)]⟩∧pv=.func (.func 88) ⟨[]⟩ ⟨[.pointer (some ⟨cb,0,none⟩)]⟩∧vw m cb=some ⟨true,121,false,[.func (.func 57) ⟨[]⟩ ⟨[]⟩]⟩
 |f=>∃ cb,k0≤cb∧cb<k0+109∧rv=.func (.func 83) ⟨[]⟩ ⟨[.pointer (some ⟨cb,0,none⟩)]⟩∧pv=.func (.func 85) ⟨[]⟩ ⟨[.pointer (some ⟨cb,0,none⟩)]⟩∧vw m cb=some ⟨true,118,false,[.func (.func (adrOf f)) ⟨[]⟩ ⟨[]⟩]⟩
def Qdt (m:Mem) (k0:Nat) (kind:Nat):Prop :=
 ∃ tab,vw m (k0+108)=some ⟨true,80,false,tab⟩∧tab[2*kind]? = some (.string ⟨⟨Qay kind⟩⟩)∧∃ fs,tab[2*kind+1]? = some fs ∧
   ((fs=.slice none 0 0∧fieldsOf kind=[])∨∃ b n cells,fs=.slice (some ⟨b,0,none⟩) n n∧(fieldsOf kind).length=n∧k0≤b∧b<k0+109∧vw m b=some ⟨true,84,false,cells⟩∧cells.length=2*n ∧
     ∀ j f,(fieldsOf kind)[j]? = some f→∃ rv pv,cells[2*j]? = some rv∧cells[2*j+1]? = some pv∧IsFd m k0 rv pv f)
theorem form1 {m:Mem} {k0:Nat} (h:Qbl Qaq m k0):Qdt m k0 1:=by
 refine⟨_,h 108 _ rfl,rfl,_,rfl,.inr ⟨k0+19,1,_,rfl,rfl,by omega,by omega,h 19 _ rfl,rfl,fun j f hj=>?_⟩⟩
 exact match j,hj with
  |0,hj=>by cases hj;exact⟨_,_,rfl,rfl,k0+17,by omega,by omega,rfl,rfl,h 17 _ rfl⟩
  |j+1,hj=>absurd hj (by simp [fieldsOf])
theorem form2 {m:Mem} {k0:Nat} (h:Qbl Qaq m k0):Qdt m k0 2:=by
 refine⟨_,h 108 _ rfl,rfl,_,rfl,.inr ⟨k0+7,3,_,rfl,rfl,by omega,by omega,h 7 _ rfl,rfl,fun j f hj=>?_⟩⟩
 exact match j,hj with
  |0,hj=>by cases hj;exact⟨_,_,rfl,rfl,k0+1,by omega,by omega,rfl,rfl,h 1 _ rfl⟩
  |1,hj=>by cases hj;exact⟨_,_,rfl,rfl,k0+3,by omega,by omega,rfl,rfl,h 3 _ rfl⟩
  |2,hj=>by cases hj;exact⟨_,_,rfl,rfl,k0+5,by omega,by omega,rfl,rfl,h 5 _ rfl⟩
  |j+3,hj=>absurd hj (by simp [fieldsOf])
theorem form3 {m:Mem} {k0:Nat} (h:Qbl Qaq m k0):Qdt m k0 3:=by
 refine⟨_,h 108 _ rfl,rfl,_,rfl,.inr ⟨k0+23,1,_,rfl,rfl,by omega,by omega,h 23 _ rfl,rfl,fun j f hj=>?_⟩⟩
 exact match j,hj with
  |0,hj=>by cases hj;exact⟨_,_,rfl,rfl,k0+21,by omega,by omega,rfl,rfl,h 21 _ rfl⟩
  |j+1,hj=>absurd hj (by simp [fieldsOf])
theorem form4 {m:Mem} {k0:Nat} (h:Qbl Qaq m k0):Qdt m k0 4:=by
 refine⟨_,h 108 _ rfl,rfl,_,rfl,.inr ⟨k0+27,1,_,rfl,rfl,by omega,by omega,h 27 _ rfl,rfl,fun j f hj=>?_⟩⟩
 exact match j,hj with
  |0,hj=>by cases hj;exact⟨_,_,rfl,rfl,k0+25,by omega,by omega,rfl,rfl,h 25 _ rfl⟩
  |j+1,hj=>absurd hj (by simp [fieldsOf])
theorem form5 {m:Mem} {k0:Nat} (h:Qbl Qaq m k0):Qdt m k0 5:=by
 refine⟨_,h 108 _ rfl,rfl,_,rfl,.inr ⟨k0+31,1,_,rfl,rfl,by omega,by omega,h 31 _ rfl,rfl,fun j f hj=>?_⟩⟩
 exact match j,hj with
  |0,hj=>by cases hj;exact⟨_,_,rfl,rfl,k0+29,by omega,by omega,rfl,rfl,h 29 _ rfl⟩
  |j+1,hj=>absurd hj (by simp [fieldsOf])
theorem form6 {m:Mem} {k0:Nat} (h:Qbl Qaq m k0):Qdt m k0 6:=by
 refine⟨_,h 108 _ rfl,rfl,_,rfl,.inr ⟨k0+39,4,_,rfl,rfl,by omega,by omega,h 39 _ rfl,rfl,fun j f hj=>?_⟩⟩
 exact match j,hj with
  |0,hj=>by cases hj;exact⟨_,_,rfl,rfl,k0+33,by omega,by omega,rfl,rfl,h 33 _ rfl⟩
  |1,hj=>by cases hj;exact⟨_,_,rfl,rfl,k0+36,by omega,by omega,rfl,rfl,h 36 _ rfl⟩
  |2,hj=>by cases hj;exact⟨_,_,rfl,rfl,k0+11,by omega,by omega,rfl,rfl,h 11 _ rfl⟩
  |3,hj=>by cases hj;exact⟨_,_,rfl,rfl,rfl,rfl⟩
  |j+4,hj=>absurd hj (by simp [fieldsOf])
theorem form7 {m:Mem} {k0:Nat} (h:Qbl Qaq m k0):Qdt m k0 7:=by
 refine⟨_,h 108 _ rfl,rfl,_,rfl,.inr ⟨k0+43,2,_,rfl,rfl,by omega,by omega,h 43 _ rfl,rfl,fun j f hj=>?_⟩⟩
 exact match j,hj with
  |0,hj=>by cases hj;exact⟨_,_,rfl,rfl,k0+41,by omega,by omega,rfl,rfl,h 41 _ rfl⟩
  |1,hj=>by cases hj;exact⟨_,_,rfl,rfl,k0+8,by omega,by omega,rfl,rfl,h 8 _ rfl⟩
  |j+2,hj=>absurd hj (by simp [fieldsOf])
theorem form8 {m:Mem} {k0:Nat} (h:Qbl Qaq m k0):Qdt m k0 8 :=
 ⟨_,h 108 _ rfl,rfl,_,rfl,.inl ⟨rfl,rfl⟩⟩
theorem form9 {m:Mem} {k0:Nat} (h:Qbl Qaq m k0):Qdt m k0 9:=by
 refine⟨_,h 108 _ rfl,rfl,_,rfl,.inr ⟨k0+48,2,_,rfl,rfl,by omega,by omega,h 48 _ rfl,rfl,fun j f hj=>?_⟩⟩
 exact match j,hj with
  |0,hj=>by cases hj;exact⟨_,_,rfl,rfl,rfl,rfl⟩
  |1,hj=>by cases hj;exact⟨_,_,rfl,rfl,k0+46,by omega,by omega,rfl,rfl,h 46 _ rfl⟩
  |j+2,hj=>absurd hj (by simp [fieldsOf])
theorem form10 {m:Mem} {k0:Nat} (h:Qbl Qaq m k0):Qdt m k0 10:=by
 refine⟨_,h 108 _ rfl,rfl,_,rfl,.inr ⟨k0+53,2,_,rfl,rfl,by omega,by omega,h 53 _ rfl,rfl,fun j f hj=>?_⟩⟩
 exact match j,hj with
  |0,hj=>by cases hj;exact⟨_,_,rfl,rfl,rfl,rfl⟩
  |1,hj=>by cases hj;exact⟨_,_,rfl,rfl,k0+51,by omega,by omega,rfl,rfl,h 51 _ rfl⟩
  |j+2,hj=>absurd hj (by simp [fieldsOf])
theorem form11 {m:Mem} {k0:Nat} (h:Qbl Qaq m k0):Qdt m k0 11:=by
 refine⟨_,h 108 _ rfl,rfl,_,rfl,.inr ⟨k0+58,2,_,rfl,rfl,by omega,by omega,h 58 _ rfl,rfl,fun j f hj=>?_⟩⟩
 exact match j,hj with
  |0,hj=>by cases hj;exact⟨_,_,rfl,rfl,rfl,rfl⟩
  |1,hj=>by cases hj;exact⟨_,_,rfl,rfl,k0+56,by omega,by omega,rfl,rfl,h 56 _ rfl⟩
  |j+2,hj=>absurd hj (by simp [fieldsOf])
theorem form12 {m:Mem} {k0:Nat} (h:Qbl Qaq m k0):Qdt m k0 12:=by
 refine⟨_,h 108 _ rfl,rfl,_,rfl,.inr ⟨k0+67,4,_,rfl,rfl,by omega,by omega,h 67 _ rfl,rfl,fun j f hj=>?_⟩⟩
 exact match j,hj with
  |0,hj=>by cases hj;exact⟨_,_,rfl,rfl,rfl,rfl⟩
  |1,hj=>by cases hj;exact⟨_,_,rfl,rfl,k0+61,by omega,by omega,rfl,rfl,h 61 _ rfl⟩
  |2,hj=>by cases hj;exact⟨_,_,rfl,rfl,k0+64,by omega,by omega,rfl,rfl,h 64 _ rfl⟩
  |3,hj=>by cases hj;exact⟨_,_,rfl,rfl,rfl,rfl⟩
  |j+4,hj=>absurd hj (by simp [fieldsOf])
theorem form13 {m:Mem} {k0:Nat} (h:Qbl Qaq m k0):Qdt m k0 13:=by
 refine⟨_,h 108 _ rfl,rfl,_,rfl,.inr ⟨k0+71,1,_,rfl,rfl,by omega,by omega,h 71 _ rfl,rfl,fun j f hj=>?_⟩⟩
 exact match j,hj with
  |0,hj=>by cases hj;exact⟨_,_,rfl,rfl,k0+69,by omega,by omega,rfl,rfl,h 69 _ rfl⟩
  |j+1,hj=>absurd hj (by simp [fieldsOf])
theorem form14 {m:Mem} {k0:Nat} (h:Qbl Qaq m k0):Qdt m k0 14:=by
 refine⟨_,h 108 _ rfl,rfl,_,rfl,.inr ⟨k0+73,1,_,rfl,rfl,by omega,by omega,h 73 _ rfl,rfl,fun j f hj=>?_⟩⟩
 exact match j,hj with
  |0,hj=>by cases hj;exact⟨_,_,rfl,rfl,rfl,rfl⟩
  |j+1,hj=>absurd hj (by simp [fieldsOf])
theorem form15 {m:Mem} {k0:Nat} (h:Qbl Qaq m k0):Qdt m k0 15 :=
 ⟨_,h 108 _ rfl,rfl,_,rfl,.inl ⟨rfl,rfl⟩⟩
theorem form16 {m:Mem} {k0:Nat} (h:Qbl Qaq m k0):Qdt m k0 16:=by
 refine⟨_,h 108 _ rfl,rfl,_,rfl,.inr ⟨k0+77,1,_,rfl,rfl,by omega,by omega,h 77 _ rfl,rfl,fun j f hj=>?_⟩⟩
 exact match j,hj with
  |0,hj=>by cases hj;exact⟨_,_,rfl,rfl,k0+75,by omega,by omega,rfl,rfl,h 75 _ rfl⟩
  |j+1,hj=>absurd hj (by simp [fieldsOf])
theorem form17 {m:Mem} {k0:Nat} (h:Qbl Qaq m k0):Qdt m k0 17:=by
 refine⟨_,h 108 _ rfl,rfl,_,rfl,.inr ⟨k0+81,1,_,rfl,rfl,by omega,by omega,h 81 _ rfl,rfl,fun j f hj=>?_⟩⟩
 exact match j,hj with
  |0,hj=>by cases hj;exact⟨_,_,rfl,rfl,k0+79,by omega,by omega,rfl,rfl,h 79 _ rfl⟩
  |j+1,hj=>absurd hj (by simp [fieldsOf])
theorem form18 {m:Mem} {k0:Nat} (h:Qbl Qaq m k0):Qdt m k0 18:=by
 refine⟨_,h 108 _ rfl,rfl,_,rfl,.inr ⟨k0+88,2,_,rfl,rfl,by omega,by omega,h 88 _ rfl,rfl,fun j f hj=>?_⟩⟩
 exact match j,hj with
  |0,hj=>by cases hj;exact⟨_,_,rfl,rfl,k0+83,by omega,by omega,rfl,rfl,h 83 _ rfl⟩
  |1,hj=>by cases hj;exact⟨_,_,rfl,rfl,k0+86,by omega,by omega,rfl,rfl,h 86 _ rfl⟩
  |j+2,hj=>absurd hj (by simp [fieldsOf])
theorem form19 {m:Mem} {k0:Nat} (h:Qbl Qaq m k0):Qdt m k0 19:=by
 refine⟨_,h 108 _ rfl,rfl,_,rfl,.inr ⟨k0+92,1,_,rfl,rfl,by omega,by omega,h 92 _ rfl,rfl,fun j f hj=>?_⟩⟩
 exact match j,hj with
  |0,hj=>by cases hj;exact⟨_,_,rfl,rfl,k0+90,by omega,by omega,rfl,rfl,h 90 _ rfl⟩
  |j+1,hj=>absurd hj (by simp [fieldsOf])
theorem form20 {m:Mem} {k0:Nat} (h:Qbl Qaq m k0):Qdt m k0 20:=by
 refine⟨_,h 108 _ rfl,rfl,_,rfl,.inr ⟨k0+96,1,_,rfl,rfl,by omega,by omega,h 96 _ rfl,rfl,fun j f hj=>?_⟩⟩
 exact match j,hj with
  |0,hj=>by cases hj;exact⟨_,_,rfl,rfl,k0+94,by omega,by omega,rfl,rfl,h 94 _ rfl⟩
  |j+1,hj=>absurd hj (by simp [fieldsOf])
theorem form21 {m:Mem} {k0:Nat} (h:Qbl Qaq m k0):Qdt m k0 21:=by
 refine⟨_,h 108 _ rfl,rfl,_,rfl,.inr ⟨k0+100,1,_,rfl,rfl,by omega,by omega,h 100 _ rfl,rfl,fun j f hj=>?_⟩⟩
 exact match j,hj with
  |0,hj=>by cases hj;exact⟨_,_,rfl,rfl,k0+98,by omega,by omega,rfl,rfl,h 98 _ rfl⟩
  |j+1,hj=>absurd hj (by simp [fieldsOf])
theorem form22 {m:Mem} {k0:Nat} (h:Qbl Qaq m k0):Qdt m k0 22:=by
 refine⟨_,h 108 _ rfl,rfl,_,rfl,.inr ⟨k0+107,3,_,rfl,rfl,by omega,by omega,h 107 _ rfl,rfl,fun j f hj=>?_⟩⟩
 exact match j,hj with
  |0,hj=>by cases hj;exact⟨_,_,rfl,rfl,k0+102,by omega,by omega,rfl,rfl,h 102 _ rfl⟩
  |1,hj=>by cases hj;exact⟨_,_,rfl,rfl,k0+105,by omega,by omega,rfl,rfl,h 105 _ rfl⟩
  |2,hj=>by cases hj;exact⟨_,_,rfl,rfl,k0+14,by omega,by omega,rfl,rfl,h 14 _ rfl⟩
  |j+3,hj=>absurd hj (by simp [fieldsOf])
theorem Ja8 {m:Mem} {k0:Nat} (h:Qbl Qaq m k0) {kind:Nat} (h1:1≤kind) (h2:kind≤22):Qdt m k0 kind :=
 match kind,h1,h2 with
 |1,_,_=>form1 h|2,_,_=>form2 h|3,_,_=>form3 h|4,_,_=>form4 h|5,_,_=>form5 h|6,_,_=>form6 h|7,_,_=>form7 h|8,_,_=>form8 h
 |9,_,_=>form9 h|10,_,_=>form10 h|11,_,_=>form11 h|12,_,_=>form12 h|13,_,_=>form13 h|14,_,_=>form14 h|15,_,_=>form15 h|16,_,_=>form16 h
 |17,_,_=>form17 h|18,_,_=>form18 h|19,_,_=>form19 h|20,_,_=>form20 h|21,_,_=>form21 h|22,_,_=>form22 h
 |0,h1,_=>absurd h1 (by omega)
 |k+23,_,h2=>absurd h2 (by omega)
end Go.Proofs.YtgmkbdmgifdfeaaGreatDoor

