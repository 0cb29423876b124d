/- A part of a proof: ScriptOnce. -/
import Derived.BigCall
import Derived.BigGuard
import Derived.Ground.MpProg
import Derived.Lib.AppendIntMem
import Derived.Lib.ItoaMem
import Derived.Lib.Walk
import Derived.Shelf.LaysM
import Derived.Shelf.Pu.ParseUintPublic10
import Derived.Shelf.Small.Strs
import Derived.Shelf.Strconv.Itoa0
import Derived.Shelf.Strconv.Itoa1
import Derived.Shelf.Strconv.Itoa2
import Derived.Shelf.Strconv.Itoa3
import Derived.WalkKit
import Derived.Test.YtgmkbdmgifdfeaaGreatDoorB26
set_option linter.unusedVariables false
set_option linter.unusedSimpArgs false
set_option maxRecDepth 8000
namespace Go.Proofs.YtgmkbdmgifdfeaaGreatDoor
open Go Go.Ev
theorem num_ok (m:Mem) (z:Int):CallsA tb 15 [.int .i64 z] m (retR fun r m'=>r=.int .i64 z∧m'=m):=by
 refine callsS Tryz.func15 e15 rfl rfl ?_
 simp only [s15,List.replicate,List.length_cons,List.length_nil,List.cons_append,List.nil_append,Nat.reduceAdd,Nat.reduceSub]
 refine xsr fun Q' hQ=>?_
 simp
 subst hQ
 refine xsr fun Q' hQ=>?_
 simp
 subst hQ
 exact xret ⟨rfl,_,resX_one _,rfl,rfl⟩
theorem guard32:(tv 32).guard=false:=by kernel_rfl
theorem held32:(tv 32).held=false:=by kernel_rfl
theorem b_neq32 (m:Mem) (x y:Operand) (a b:Int):binA tb m .neq 32 x y (.agg ⟨[.int .i64 a,.int .i64 b]⟩) (.agg ⟨[.int .i64 a,.int .i64 b]⟩)=some (.bool false):=by
 have h3:∀ z:Int,eqA tb m 63 3 (.int .i64 z) (.int .i64 z)=some true:=by
  intro z
  unfold eqA
  simp only [Ty.ti3,oB,Ty.d3,eqInt,kEq_self,intEq_eq,beq_self_eq_true]
 have e:eqA tb m 64 32 (.agg ⟨[.int .i64 a,.int .i64 b]⟩) (.agg ⟨[.int .i64 a,.int .i64 b]⟩)=some true:=by
  rw [eqA]
  simp only [Ty.ti32,oB,Ty.d32,eqSt,held32,Ty.f32]
  have p0:partA tb 3 [Value.int IntKind.i64 a,Value.int IntKind.i64 b] 0=some (.int .i64 a):=by
   unfold partA;simp only [Ty.ti3,Ty.g3,oB];rfl
  have p1:partA tb 3 [Value.int IntKind.i64 a,Value.int IntKind.i64 b] 1=some (.int .i64 b):=by
   unfold partA;simp only [Ty.ti3,Ty.g3,oB];rfl
  simp only [eqFields,p0,p1,oB,h3]
 unfold binA
 simp only [eqOp,guardOk,Ty.ti32,guard32,Bool.not_false,e,oB,Bool.not_true]
theorem sameStep_ok {m:Mem} {s:Stp} {ad ac ad' ac':Option Addr} {dc cc dc' cc':Nat} (hd:SlAt m (.slice ad s.data.length dc) s.data.length (u8s s.data)) (hd':SlAt m (.slice ad' s.data.length dc') s.data.length (u8s s.data))
  (hc:SlAt m (.slice ac s.choices.length cc) s.choices.length (i64s s.choices)) (hc':SlAt m (.slice ac' s.choices.length cc') s.choices.length (i64s s.choices)) (hb:s.choices.length≤1000000000) :
  CallsA tb 38 [.agg ⟨stpCells s (.slice ad s.data.length dc) (.slice ac s.choices.length cc)⟩,.agg ⟨stpCells s (.slice ad' s.data.length dc') (.slice ac' s.choices.length cc')⟩] m (retR fun r m'=>r=.bool true∧Old m.next m m'):=by
 refine callsS Tryz.func38 e38 rfl rfl ?_
 simp only [s38,List.replicate,List.length_cons,List.length_nil,List.cons_append,List.nil_append,Nat.reduceAdd,Nat.reduceSub]
 refine xseqP (PS:=fun l' ds' m1=>ds'=[]∧m1.next=m.next+2∧Old m.next m m1∧vw m1 m.next=some ⟨true,36,false,stpCells s (.slice ad s.data.length dc) (.slice ac s.choices.length cc)⟩∧vw m1 (m.next+1)=some ⟨true,36,false,stpCells s (.slice ad' s.data.length dc') (.slice ac' s.choices.length cc')⟩ ∧
   Sl [.agg ⟨stpCells s (.slice ad s.data.length dc) (.slice ac s.choices.length cc)⟩,.agg ⟨stpCells s (.slice ad' s.data.length dc') (.slice ac' s.choices.length cc')⟩,.pointer (some ⟨m.next,0,none⟩),.pointer (some ⟨m.next+1,0,none⟩),.bool false] 131 l') ?_ ?_
 ·refine xregQ fun Q' hQ=>?_
  simp
  subst hQ
  refine⟨rfl,rfl,by simp,?_,?_,?_,Sl.mk rfl rfl⟩
  ·exact ((Old.refl _ _).new (Nat.le_refl _) _).new (by simp) _
  ·simp [vw_new]
  ·simp [vw_new]
 rintro l ds m1 ⟨rfl,hnx,hO,hv1,hv2,⟨ts,hts,rfl⟩⟩
 have hr1:=hv1
 have hr2:=hv2
 have zs:∀ d c:Value,(stpCells s d c)[0]? = some (.int .i64 s.kind)∧(stpCells s d c)[1]? = some (.int .i64 s.node)∧(stpCells s d c)[2]? = some (.int .i64 s.stream)∧(stpCells s d c)[3]? = some (.int .u64 s.time)∧(stpCells s d c)[4]? = some (.int .u64 s.life)∧(stpCells s d c)[5]? = some d∧(stpCells s d c)[6]? = some (.int .u64 s.seq)∧takeN (stpCells s d c) 7 2=[.int .i64 s.qc,.int .i64 s.qb]∧9≤(stpCells s d c).length:=fun _ _=>⟨rfl,rfl,rfl,rfl,rfl,rfl,rfl,rfl,by rw [stp_len];omega⟩
 have zt:∀ d c:Value,(stpCells s d c)[9]? = some (.int .i64 s.way)∧(stpCells s d c)[10]? = some (.int .i64 s.place)∧(stpCells s d c)[11]? = some (.int .i64 s.pos)∧(stpCells s d c)[12]? = some (.int .u32 s.mask)∧(stpCells s d c)[13]? = some (.int .u64 s.ticks)∧(stpCells s d c)[14]? = some c∧(stpCells s d c)[15]? = some (.int .i64 s.cursor)∧(stpCells s d c)[16]? = some (.int .u64 s.to):=fun _ _=>⟨rfl,rfl,rfl,rfl,rfl,rfl,rfl,rfl⟩
 have hd1:=SlAt.old hd hO
 have hd2:=SlAt.old hd' hO
 have hc1:=SlAt.old hc hO
 have hc2:=SlAt.old hc' hO
 refine xseqP (PS:=fun l' ds' m'=>ds'=[]∧m'=m1∧Sl [.agg ⟨stpCells s (.slice ad s.data.length dc) (.slice ac s.choices.length cc)⟩,.agg ⟨stpCells s (.slice ad' s.data.length dc') (.slice ac' s.choices.length cc')⟩,.pointer (some ⟨m.next,0,none⟩),.pointer (some ⟨m.next+1,0,none⟩),.bool false] 131 l') ?_ ?_
 ·refine xsr fun Q' hQ=>?_
  simp [hts,hv1,hv2,zs,c29_9 hd1,c29_9 hd2,b_neq32]
  subst hQ
  rw [thenA_normal]
  refine xif (v:=false) ?_ (fun h=>by cases h) (fun h=>xskip ?_)
  ·rw [evL_tmp']
   simp [hts]
  exact⟨rfl,rfl,rfl,Sl.mk rfl (by simp [hts])⟩
 rintro l ds m2 ⟨rfl,rfl,⟨ts,hts,rfl⟩⟩
 refine xseqP (PS:=fun l' ds' m'=>ds'=[]∧m'=m2∧Sl [.agg ⟨stpCells s (.slice ad s.data.length dc) (.slice ac s.choices.length cc)⟩,.agg ⟨stpCells s (.slice ad' s.data.length dc') (.slice ac' s.choices.length cc')⟩,.pointer (some ⟨m.next,0,none⟩),.pointer (some ⟨m.next+1,0,none⟩),.bool false] 131 l') ?_ ?_
 ·refine xsr fun Q' hQ=>?_
  simp [hts,hv1,hv2,zt]
  subst hQ
  rw [thenA_normal]
  refine xif (v:=false) ?_ (fun h=>by cases h) (fun h=>xskip ?_)
  ·rw [evL_tmp']
   simp [hts]
  exact⟨rfl,rfl,rfl,Sl.mk rfl (by simp [hts])⟩
 rintro l ds m3 ⟨rfl,rfl,⟨ts,hts,rfl⟩⟩
 refine xseq (xseq (xregQ fun Q' hQ=>?_))
 simp [hts]
 subst hQ
 obtain⟨x5,ts',rfl,hts'⟩:=len_succ (n:=130) hts
 refine xblock (xwhile (N:=s.choices.length) (I:=fun n l ds m2=>∃ k,n=s.choices.length-k∧k≤s.choices.length∧ds=[]∧m2=m3∧Sl [.agg ⟨stpCells s (.slice ad s.data.length dc) (.slice ac s.choices.length cc)⟩,.agg ⟨stpCells s (.slice ad' s.data.length dc') (.slice ac' s.choices.length cc')⟩,.pointer (some ⟨m.next,0,none⟩),.pointer (some ⟨m.next+1,0,none⟩),.bool false,.int .i64 (k:Nat)] 130 l) ?_ ?_)
 ·exact⟨0,rfl,by omega,rfl,rfl,ts',hts',rfl⟩
 rintro n l ds m4 ⟨k,rfl,hk,rfl,rfl,⟨us,hus,rfl⟩⟩
 refine xseq (xseq (xregQ fun Q' hQ=>?_))
 simp [hus,hv1,zt]
 subst hQ
 refine xif (v:=decide ((k:Int)<(s.choices.length:Int))) (by first|rfl|simp [hus]) (fun h=>xskip ?_) (fun h=>xexit ?_)
 ·simp only [decide_eq_true_eq] at h
  have hk2:k<s.choices.length:=by omega
  have q:(i64s s.choices)[k]? = some (.int .i64 (s.choices[k])):=by rw [i64s_get,List.getElem?_eq_getElem hk2];rfl
  obtain⟨b1,o1,c1,h1,h2,h3,-,h4⟩:=hc1.load q
  obtain⟨b2,o2,c2,g1,g2,g3,-,g4⟩:=hc2.load q
  simp only [Value.slice.injEq] at h1 g1
  obtain⟨rfl,-,rfl⟩:=h1
  obtain⟨rfl,-,rfl⟩:=g1
  have ql:=h4 (t:=3) (s:=none) Ty.ti3 Ty.g3
  have qg:=g4 (t:=3) (s:=none) Ty.ti3 Ty.g3
  refine xseq (xblock (xseq (xdrw 1 fun Q' hQ=>?_)))
  simp [hus,hv1,hv2,zt,ql,qg,hk2,h]
  subst hQ
  refine xif (v:=false) (by first|rfl|simp [hus]) (fun h=>by cases h) (fun h=>xskip ?_)
  refine xregQ fun Q' hQ=>?_
  simp [hus]
  rw [wr64 _ (by omega) (by omega)]
  subst hQ
  exact⟨s.choices.length-(k+1),by omega,k+1,rfl,by omega,rfl,rfl,Sl.mk (by simp) (by simp [hus])⟩
 ·refine xsr fun Q' hQ=>?_
  simp [hus]
  subst hQ
  refine xret ?_
  exact⟨rfl,_,resX_one _,by simp [hus],hO⟩
end Go.Proofs.YtgmkbdmgifdfeaaGreatDoor

set_option maxRecDepth 8000
namespace Go.Proofs.YtgmkbdmgifdfeaaGreatDoor
open Go Go.Ev
theorem intOf_R {w:List UInt8} {v:Int} (h:intOf w=some v):i64R v:=by
 unfold intOf at h
 split at h
 ·split at h
  ·rename_i z hz
   have:=numOf_le hz
   split at h
   ·obtain rfl:=Option.some.inj h;unfold i64R;omega
   ·cases h
  ·cases h
 ·cases hz:numOf w 2147483647 with
  |none=>rw [hz] at h;cases h
  |some z =>
   rw [hz] at h
   have e:(z:Int)=v:=Option.some.inj h
   have:=numOf_le hz
   unfold i64R;omega
theorem longOf_R {w:List UInt8} {v:Int} (h:longOf w=some v):u64R v:=by
 unfold longOf at h
 cases hz:numOf w 18446744073709551615 with
 |none=>rw [hz] at h;cases h
 |some z =>
  rw [hz] at h
  have e:(z:Int)=v:=Option.some.inj h
  have:=numOf_le hz
  unfold u64R;omega
theorem maskOf_R {w:List UInt8} {v:Int} (h:maskOf w=some v):u32R v:=mask_range h
theorem wayOf_R {w:List UInt8} {v:Int} (h:wayOf w=some v):i64R v:=by
 unfold wayOf at h
 split at h
 ·obtain rfl:=Option.some.inj h;unfold i64R;omega
 ·split at h
  ·obtain rfl:=Option.some.inj h;unfold i64R;omega
  ·cases h
theorem allInts_R:∀ (ws:List (List UInt8)) (l:List Int),allInts ws=some l→l.length=ws.length∧∀ c∈l,i64R c
 | [],l,h=>by obtain rfl:=Option.some.inj h;simp
 |w::ws,l,h=>by
  rw [allInts] at h
  cases hw:intOf w with
  |none=>rw [hw] at h;cases h
  |some v =>
   rw [hw] at h
   cases hr:allInts ws with
   |none=>rw [hr] at h;cases h
   |some r =>
    rw [hr] at h
    obtain rfl:=Option.some.inj h
    obtain⟨h1,h2⟩:=allInts_R ws r hr
    refine⟨by simp [h1],fun c hc=>?_⟩
    rcases List.mem_cons.1 hc with rfl|hc
    ·exact intOf_R hw
    ·exact h2 c hc
def RB (B:Nat) (s:Stp) (ws:List (List UInt8)):Prop:=s.R∧s.choices.length+ws.length≤B
theorem one_R {α : Type} {P:Int→Prop} {g:List UInt8→Option Int} (hg:∀ {w v},g w=some v→P v) {w:List UInt8} {f:Int → α} {a : α} (h:(g w).map f=some a):∃ v,a=f v∧P v:=by
 cases hv:g w with
 |none=>rw [hv] at h;cases h
 |some v=>rw [hv] at h;obtain rfl:=Option.some.inj h;exact⟨v,rfl,hg hv⟩
theorem read_R {B:Nat} (f:Fd) {s s':Stp} {ws ws':List (List UInt8)} (h:f.read s ws=some (s',ws')) (hs:RB B s ws):RB B s' ws':=by
 obtain⟨hR,hl⟩:=hs
 by_cases hc:f=.choices
 ·subst hc
  have h':(allInts ws).map (fun l=>(({ s with choices:=s.choices++l }:Stp),([]:List (List UInt8))))=some (s',ws'):=by
   cases ws<;>exact h
  cases ha:allInts ws with
  |none=>rw [ha] at h';cases h'
  |some l =>
   rw [ha] at h'
   obtain⟨h1,h2⟩:=allInts_R ws l ha
   obtain⟨rfl,rfl⟩:=Prod.mk.inj (Option.some.inj h')
   refine⟨{ hR with choices:=fun c hc=>?_ },by simp [h1];omega⟩
   rcases List.mem_append.1 hc with hc|hc
   ·exact hR.choices c hc
   ·exact h2 c hc
 cases ws with
 |nil=>cases f<;>first|(cases h;done)|exact absurd rfl hc
 |cons w ws =>
  simp only [List.length_cons] at hl
  cases f with
  |choices=>exact absurd rfl hc
  |stream=>obtain⟨v,e,hv⟩:=one_R (P:=i64R) (g:=intOf) (w:=w) intOf_R h;obtain⟨rfl,rfl⟩:=Prod.mk.inj e;exact⟨{ hR with stream:=hv },by simp only;omega⟩
  |qc=>obtain⟨v,e,hv⟩:=one_R (P:=i64R) (g:=intOf) (w:=w) intOf_R h;obtain⟨rfl,rfl⟩:=Prod.mk.inj e;exact⟨{ hR with qc:=hv },by simp only;omega⟩
  |qb=>obtain⟨v,e,hv⟩:=one_R (P:=i64R) (g:=intOf) (w:=w) intOf_R h;obtain⟨rfl,rfl⟩:=Prod.mk.inj e;exact⟨{ hR with qb:=hv },by simp only;omega⟩
  |place=>obtain⟨v,e,hv⟩:=one_R (P:=i64R) (g:=intOf) (w:=w) intOf_R h;obtain⟨rfl,rfl⟩:=Prod.mk.inj e;exact⟨{ hR with place:=hv },by simp only;omega⟩
  |pos=>obtain⟨v,e,hv⟩:=one_R (P:=i64R) (g:=intOf) (w:=w) intOf_R h;obtain⟨rfl,rfl⟩:=Prod.mk.inj e;exact⟨{ hR with pos:=hv },by simp only;omega⟩
  |cursor=>obtain⟨v,e,hv⟩:=one_R (P:=i64R) (g:=intOf) (w:=w) intOf_R h;obtain⟨rfl,rfl⟩:=Prod.mk.inj e;exact⟨{ hR with cursor:=hv },by simp only;omega⟩
  |time=>obtain⟨v,e,hv⟩:=one_R (P:=u64R) (g:=longOf) (w:=w) longOf_R h;obtain⟨rfl,rfl⟩:=Prod.mk.inj e;exact⟨{ hR with time:=hv },by simp only;omega⟩
  |life=>obtain⟨v,e,hv⟩:=one_R (P:=u64R) (g:=longOf) (w:=w) longOf_R h;obtain⟨rfl,rfl⟩:=Prod.mk.inj e;exact⟨{ hR with life:=hv },by simp only;omega⟩
  |seq=>obtain⟨v,e,hv⟩:=one_R (P:=u64R) (g:=longOf) (w:=w) longOf_R h;obtain⟨rfl,rfl⟩:=Prod.mk.inj e;exact⟨{ hR with seq:=hv },by simp only;omega⟩
  |to=>obtain⟨v,e,hv⟩:=one_R (P:=u64R) (g:=longOf) (w:=w) longOf_R h;obtain⟨rfl,rfl⟩:=Prod.mk.inj e;exact⟨{ hR with to:=hv },by simp only;omega⟩
  |ticks=>obtain⟨v,e,hv⟩:=one_R (P:=u64R) (g:=longOf) (w:=w) longOf_R h;obtain⟨rfl,rfl⟩:=Prod.mk.inj e;exact⟨{ hR with ticks:=hv },by simp only;omega⟩
  |mask=>obtain⟨v,e,hv⟩:=one_R (P:=u32R) (g:=maskOf) (w:=w) maskOf_R h;obtain⟨rfl,rfl⟩:=Prod.mk.inj e;exact⟨{ hR with mask:=hv },by simp only;omega⟩
  |way=>obtain⟨v,e,hv⟩:=one_R (P:=i64R) (g:=wayOf) (w:=w) wayOf_R h;obtain⟨rfl,rfl⟩:=Prod.mk.inj e;exact⟨{ hR with way:=hv },by simp only;omega⟩
  |data =>
   have h':(textOf w).map (fun v=>(({ s with data:=v }:Stp),ws))=some (s',ws'):=h
   cases hv:textOf w with
   |none=>rw [hv] at h';cases h'
   |some v=>rw [hv] at h';obtain⟨rfl,rfl⟩:=Prod.mk.inj (Option.some.inj h');exact⟨{ hR with },by simp only;omega⟩
theorem reads_R {B:Nat}:∀ (fs:List Fd) {s s':Stp} {ws ws':List (List UInt8)},readFds fs s ws=some (s',ws')→RB B s ws→RB B s' ws'
 | [],s,s',ws,ws',h,hs=>by obtain⟨rfl,rfl⟩:=Prod.mk.inj (Option.some.inj h);exact hs
 |f::fs,s,s',ws,ws',h,hs=>by
  rw [readFds] at h
  cases hf:f.read s ws with
  |none=>rw [hf] at h;cases h
  |some a=>obtain⟨s1,ws1⟩:=a;rw [hf] at h;exact reads_R fs h (read_R f hf hs)
theorem stepOf_R {ws:List (List UInt8)} {s:Stp} (h:stepOf ws=some s):s.R∧s.choices.length≤ws.length:=by
 unfold stepOf at h
 cases hn:nodeOf ws with
 |none=>rw [hn] at h;cases h
 |some a =>
  obtain⟨n,w,vs⟩:=a
  rw [hn] at h
  simp only at h
  have hnr:(n=0∨n=1∨n=2)∧vs.length≤ws.length:=by
   unfold nodeOf at hn
   split at hn
   ·cases hn
   ·split at hn
    ·split at hn
     ·cases hn
     ·obtain⟨rfl,rfl,rfl⟩:=Option.some.inj hn
      refine⟨?_,by simp;omega⟩
      split<;>simp
    ·obtain⟨rfl,rfl,rfl⟩:=Option.some.inj hn
     exact⟨.inl rfl,by simp⟩
  cases hk:kindOf w with
  |none=>rw [hk] at h;cases h
  |some k =>
   rw [hk] at h
   simp only at h
   obtain⟨k1,k2,-⟩:=kind_some hk
   split at h
   ·split at h
    ·rename_i s1 hr
     obtain rfl:=Option.some.inj h
     have h0:RB vs.length ({ stp0 with kind:=k,node:=n }:Stp) vs:=by
      refine⟨⟨?_,?_,?_,?_,?_,?_,?_,?_,?_,?_,?_,?_,?_,?_,?_,?_⟩,by simp [stp0]⟩<;>simp only [stp0,i64R,u64R,u32R,List.not_mem_nil,false_imp_iff,implies_true]<;>omega
     have:=reads_R _ hr h0
     exact⟨this.1,by have:=this.2;simp at this;omega⟩
    ·cases h
   ·cases h
end Go.Proofs.YtgmkbdmgifdfeaaGreatDoor

set_option maxRecDepth 8000
namespace Go.Proofs.YtgmkbdmgifdfeaaGreatDoor
open Go Go.Ev
theorem line_R {l:List UInt8} {s:Stp} (h:lineOf l=some (.step s)):s.R∧s.choices.length≤l.length+1:=by
 unfold lineOf at h
 cases hs:splitOf l with
 |none=>rw [hs] at h;cases h
 |some ws =>
  have hl:=(split_len l [] none false false ws l.length hs (by simp) (by simp) (by simp)).1
  rw [hs] at h
  cases ws with
  |nil=>cases h
  |cons w ws =>
   simp only at h
   split at h
   ·cases hh:headOf ws with
    |none=>rw [hh] at h;cases h
    |some x=>rw [hh] at h;cases h
   ·cases hh:stepOf (w::ws) with
    |none=>rw [hh] at h;cases h
    |some t =>
     rw [hh] at h
     cases h
     obtain⟨h1,h2⟩:=stepOf_R hh
     exact⟨h1,by simp at hl h2;omega⟩
theorem go_R {B:Nat}:∀ (ls:List (List UInt8)) (s:Scr) (n:Int),(∀ l∈ls,l.length≤B)→(∀ t∈s.steps,t.R∧t.choices.length≤B+1)→(∀ t∈(parseGo s n ls).2.1,t.R∧t.choices.length≤B+1)∧(parseGo s n ls).2.1.length≤s.steps.length+ls.length
 | [],s,n,_,hs=>by
   unfold parseGo
   split
   ·exact⟨hs,by simp⟩
   ·exact⟨by simp,by simp⟩
 |l::ls,s,n,hl,hs=>by
  rw [parseGo]
  cases ht:takeLn s l with
  |none=>exact⟨by simp,by simp⟩
  |some s' =>
   simp only
   have h':(∀ t∈s'.steps,t.R∧t.choices.length≤B+1)∧s'.steps.length≤s.steps.length+1:=by
    unfold takeLn at ht
    cases hln:lineOf l with
    |none=>rw [hln] at ht;cases ht
    |some x =>
     rw [hln] at ht
     cases x with
     |nothing=>cases ht;exact⟨hs,by omega⟩
     |head x =>
      simp only at ht
      split at ht
      ·cases ht
      ·cases ht;exact⟨hs,by simp⟩
     |step t =>
      simp only at ht
      split at ht
      ·cases ht
       refine⟨fun t' ht'=>?_,by simp⟩
       rcases List.mem_append.1 ht' with h|h
       ·exact hs t' h
       ·obtain rfl:=List.mem_singleton.1 h
        obtain⟨g1,g2⟩:=line_R hln
        have:=hl l (.head _)
        exact⟨g1,by omega⟩
      ·cases ht
   obtain⟨g1,g2⟩:=go_R ls s' (n+1) (fun l hl'=>hl l (.tail _ hl')) h'.1
   exact⟨g1,by have:=h'.2;simp;omega⟩
theorem parse_R (tx:List UInt8):(∀ t∈(parseOut tx).2.1,t.R∧t.choices.length≤1048577)∧(parseOut tx).2.1.length≤1048577:=by
 unfold parseOut
 split
 ·exact⟨by simp,by simp⟩
 ·obtain⟨c1,c2⟩:=cut_len tx
  obtain⟨g1,g2⟩:=go_R (B:=1048576) (cutLines tx) ⟨stu0,[],false⟩ 0 (fun l hl=>by have:=c2 l hl;omega) (by simp)
  exact⟨g1,by simp at g2;omega⟩
theorem own_old {n0 n:Nat} {m:Mem} {v:Value} {e:TypeId} {cells:List Value} (h:Own n0 m v e n cells):SlOld m.next m v n cells:=by
 rcases h with h|⟨b,rfl,h1,h2,h3⟩
 ·exact .inl h
 ·refine .inr ⟨b,0,n,rfl,Nat.le_refl _,.inr ⟨?_,h2⟩⟩
  have:=rd_vw h3 (o:=0) (k:=cells.length) (by simp)
  rw [this];simp [takeN]
theorem steps_old {n0:Nat} {m:Mem} {v:Value} {ss:List Stp} (h:StepsAt n0 m v ss) (hR:∀ s∈ss,s.R):StepsOld m.next m v ss:=by
 obtain⟨cells,h1,h2,h3⟩:=h
 refine⟨cells,own_old h1,h2,fun k s hs=>?_⟩
 obtain⟨d,c,g1,g2,g3⟩:=h3 k s hs
 exact⟨hR s (List.mem_of_getElem? hs),d,c,g1,own_old g2,own_old g3⟩
theorem sameSteps2 {m:Mem} {v w:Value} {ss:List Stp} (hv:StepsOld m.next m v ss) (hw:StepsOld m.next m w ss) (hlen:ss.length≤1048577) (hch:∀ s∈ss,s.choices.length≤1048577) :
  CallsA tb 16 [v,w] m (retR fun r m'=>r=.bool true∧Old m.next m m'):=by
 obtain⟨av,cv,rfl⟩:=hv.shape
 obtain⟨aw,cw,rfl⟩:=hw.shape
 refine callsS Tryz.func16 e16 rfl rfl ?_
 simp only [s16,List.replicate,List.length_cons,List.length_nil,List.cons_append,List.nil_append,Nat.reduceAdd,Nat.reduceSub]
 refine xsr fun Q' hQ=>?_
 simp
 subst hQ
 refine xseq (xseq (xregQ fun Q' hQ=>?_))
 simp
 subst hQ
 refine xno rfl (xskip ?_)
 refine xseq (xseq (xregQ fun Q' hQ=>?_))
 simp
 subst hQ
 refine xblock (xwhile (N:=ss.length) (I:=fun n l ds m2=>∃ k,n=ss.length-k∧k≤ss.length∧ds=[]∧Old m.next m m2∧Sl [.slice av ss.length cv,.slice aw ss.length cw,undef,undef,.bool false,.int .i64 (k:Nat)] 21 l) ?_ ?_)
 ·exact⟨0,rfl,by omega,rfl,.refl _ _,Sl.mk rfl rfl⟩
 rintro n l ds m2 ⟨k,rfl,hk,rfl,hO,⟨us,hus,rfl⟩⟩
 refine xseq (xseq (xregQ fun Q' hQ=>?_))
 simp [hus]
 subst hQ
 refine xif (v:=decide ((k:Int)<(ss.length:Int))) (by simp [hus]) (fun h=>xskip ?_) (fun h=>xexit ?_)
 ·simp only [decide_eq_true_eq] at h
  have hk2:k<ss.length:=by omega
  have hks:ss[k]? = some ss[k]:=List.getElem?_eq_getElem hk2
  generalize ss[k]=s at hks
  obtain⟨b1,o1,c1,h1,hR,ad,dc,ac,cc,h2,h3,h4,-,-,-⟩:=(hv.old hO).load hO.1 hks
  obtain⟨b2,o2,c2,g1,-,ad',dc',ac',cc',g2,g3,g4,-,-,-⟩:=(hw.old hO).load hO.1 hks
  simp only [Value.slice.injEq] at h1 g1
  obtain⟨rfl,-,rfl⟩:=h1
  obtain⟨rfl,-,rfl⟩:=g1
  have hcl:s.choices.length≤1000000000:=by have:=hch s (List.mem_of_getElem? hks);omega
  refine xseq (xblock (xseq (xdrw 2 fun Q' hQ=>?_)))
  simp [hus,h2,g2,hk2,h]
  refine xcall (ov_none (by decide)) (sameStep_ok (h3.at hO.1) (g3.at hO.1) (h4.at hO.1) (g4.at hO.1) hcl) ?_ (fun ch m' h=>h.elim)
  rintro r m3 ⟨rfl,hO3⟩
  simp [hus]
  subst hQ
  refine xif (v:=false) (by simp [hus]) (fun h=>by cases h) (fun h=>xskip ?_)
  refine xregQ fun Q' hQ=>?_
  simp [hus]
  rw [wr64 _ (by omega) (by omega)]
  subst hQ
  exact⟨ss.length-(k+1),by omega,k+1,rfl,by omega,rfl,hO.trans (hO3.le hO.1),Sl.mk rfl (by simp [hus])⟩
 ·refine xsr fun Q' hQ=>?_
  simp [hus]
  subst hQ
  refine xret ?_
  exact⟨rfl,_,resX_one _,by simp [hus],hO⟩
end Go.Proofs.YtgmkbdmgifdfeaaGreatDoor

set_option maxRecDepth 8000
namespace Go.Proofs.YtgmkbdmgifdfeaaGreatDoor
open Go Go.Ev
theorem guard26:(tv 26).guard=false:=by kernel_rfl
theorem held26:(tv 26).held=false:=by kernel_rfl
theorem held24:(tv 24).held=false:=by kernel_rfl
theorem b_eql26 (m:Mem) (x y:Operand) (s:Stu):binA tb m .eql 26 x y (.agg ⟨[.int .i64 s.mtu,.int .u64 s.ack,.int .u64 s.retry,.int .i64 s.retries,.int .i64 s.window,.int .i64 s.inbox,.int .i64 s.sectors,.int .i64 s.room,.int .u64 s.start]⟩) (.agg ⟨[.int .i64 s.mtu,.int .u64 s.ack,.int .u64 s.retry,.int .i64 s.retries,.int .i64 s.window,.int .i64 s.inbox,.int .i64 s.sectors,.int .i64 s.room,.int .u64 s.start]⟩)=some (.bool true):=by
 obtain⟨a,b,c,d,e,f,g,h,i⟩:=s
 simp only
 have h3:∀ (n:Nat) (z:Int),eqA tb m (n+1) 3 (.int .i64 z) (.int .i64 z)=some true:=by
  intro n z
  unfold eqA
  simp only [Ty.ti3,oB,Ty.d3,eqInt,kEq_self,intEq_eq,beq_self_eq_true]
 have h22:∀ (n:Nat) (z:Int),eqA tb m (n+1) 22 (.int .u64 z) (.int .u64 z)=some true:=by
  intro n z
  unfold eqA
  simp only [Ty.ti22,oB,Ty.d22,eqInt,kEq_self,intEq_eq,beq_self_eq_true]
 have p3:∀ (cs:List Value) (o:Nat) (z:Int),cs[o]? = some (.int .i64 z)→partA tb 3 cs o=some (.int .i64 z):=by
  intro cs o z ho
  unfold partA;simp only [Ty.ti3,Ty.g3,oB,ho]
 have p22:∀ (cs:List Value) (o:Nat) (z:Int),cs[o]? = some (.int .u64 z)→partA tb 22 cs o=some (.int .u64 z):=by
  intro cs o z ho
  unfold partA;simp only [Ty.ti22,Ty.g22,oB,ho]
 have e24:eqA tb m 63 24 (.agg ⟨[.int .i64 a,.int .u64 b,.int .u64 c,.int .i64 d,.int .i64 e,.int .i64 f]⟩) (.agg ⟨[.int .i64 a,.int .u64 b,.int .u64 c,.int .i64 d,.int .i64 e,.int .i64 f]⟩)=some true:=by
  rw [eqA]
  simp only [Ty.ti24,oB,Ty.d24,eqSt,held24,Ty.f24]
  simp only [eqFields,p3 [.int .i64 a,.int .u64 b,.int .u64 c,.int .i64 d,.int .i64 e,.int .i64 f] 0 a rfl,p22 [.int .i64 a,.int .u64 b,.int .u64 c,.int .i64 d,.int .i64 e,.int .i64 f] 1 b rfl,p22 [.int .i64 a,.int .u64 b,.int .u64 c,.int .i64 d,.int .i64 e,.int .i64 f] 2 c rfl,p3 [.int .i64 a,.int .u64 b,.int .u64 c,.int .i64 d,.int .i64 e,.int .i64 f] 3 d rfl,p3 [.int .i64 a,.int .u64 b,.int .u64 c,.int .i64 d,.int .i64 e,.int .i64 f] 4 e rfl,p3 [.int .i64 a,.int .u64 b,.int .u64 c,.int .i64 d,.int .i64 e,.int .i64 f] 5 f rfl,oB,h3,h22]
 have p24:partA tb 24 [.int .i64 a,.int .u64 b,.int .u64 c,.int .i64 d,.int .i64 e,.int .i64 f,.int .i64 g,.int .i64 h,.int .u64 i] 0=some (.agg ⟨[.int .i64 a,.int .u64 b,.int .u64 c,.int .i64 d,.int .i64 e,.int .i64 f]⟩):=by
  unfold partA;simp only [Ty.ti24,Ty.g24,oB,Ty.s24];rfl
 have e26:eqA tb m 64 26 (.agg ⟨[.int .i64 a,.int .u64 b,.int .u64 c,.int .i64 d,.int .i64 e,.int .i64 f,.int .i64 g,.int .i64 h,.int .u64 i]⟩) (.agg ⟨[.int .i64 a,.int .u64 b,.int .u64 c,.int .i64 d,.int .i64 e,.int .i64 f,.int .i64 g,.int .i64 h,.int .u64 i]⟩)=some true:=by
  rw [eqA]
  simp only [Ty.ti26,oB,Ty.d26,eqSt,held26,Ty.f26]
  simp only [eqFields,p24,e24,p3 [.int .i64 a,.int .u64 b,.int .u64 c,.int .i64 d,.int .i64 e,.int .i64 f,.int .i64 g,.int .i64 h,.int .u64 i] 6 g rfl,p3 [.int .i64 a,.int .u64 b,.int .u64 c,.int .i64 d,.int .i64 e,.int .i64 f,.int .i64 g,.int .i64 h,.int .u64 i] 7 h rfl,p22 [.int .i64 a,.int .u64 b,.int .u64 c,.int .i64 d,.int .i64 e,.int .i64 f,.int .i64 g,.int .i64 h,.int .u64 i] 8 i rfl,oB,h3,h22]
 unfold binA
 simp only [eqOp,guardOk,Ty.ti26,guard26,Bool.not_false,e26,oB]
end Go.Proofs.YtgmkbdmgifdfeaaGreatDoor

set_option maxRecDepth 1000000
namespace Go.Proofs.YtgmkbdmgifdfeaaGreatDoor
open Go Go.Ev
noncomputable def tb0:Tabs:=mkTabs Tryz.prog 8 .lf
theorem good:Tryz.prog.funcs.toList.all (goodFn 8)=true:=by kernel_rfl
noncomputable def formsRun:Option (Value × Mem):=runF tb0 600 30 [] ⟨.lf,8⟩
noncomputable def rrowsRun:Option (Value × Mem):=runF tb0 60 67 [] ⟨.lf,8⟩
theorem forms_ran:ranTo 8 formsRun formsV formsRows:=ranTo_of (by kernel_rfl) (by kernel_rfl) (by kernel_rfl) (by kernel_rfl)
theorem rrows_ran:ranTo 8 rrowsRun rrowsV rrowsRows:=ranTo_of (by kernel_rfl) (by kernel_rfl) (by kernel_rfl) (by kernel_rfl)
end Go.Proofs.YtgmkbdmgifdfeaaGreatDoor

namespace Go.Proofs
open Go.Shelf
def Tryz.lays283_ren:Go.Shelf.Ren:=⟨fun|283=>114|n=>n,fun|3=>3|9=>9|4=>4|n=>n,fun|n=>n⟩
theorem Tryz.lays283:Go.Proofs.Lays.n283 Tryz.prog Tryz.lays283_ren := {
 mixed:=by kernel_rfl
 f283:=Tryz.func114.trans (congrArg some (by kernel_rfl))
 t3:=Tryz.underlying3
 a3:=Tryz.isAgg3
 z3:=Tryz.sizeOf3
 v3:=Tryz.zeroValue3
 t4:=Tryz.underlying4
 a4:=Tryz.isAgg4
 z4:=Tryz.sizeOf4
 v4:=Tryz.zeroValue4
 t9:=Tryz.underlying9
 a9:=Tryz.isAgg9
 z9:=Tryz.sizeOf9
 v9:=Tryz.zeroValue9 }
open Go.Lib in
theorem Tryz.internal_strconv_small (i:Nat) (h:i<100) (w:World) :
  Calls Tryz.prog 114 #[.int .i64 i] w fun e w'=>e=.returned (.string ⟨(Lib.decDigits i).toArray⟩)∧w'=w:=Any.internal_strconv_small Tryz.lays283 i h w
def Tryz.laysM284_ren:Go.Shelf.Ren:=⟨fun|284=>115|129=>125|317=>124|318=>126|n=>n,fun|53=>22|3=>3|212=>177|0=>0|4=>4|46=>174|5=>5|9=>9|n=>n,fun|17=>0|n=>n⟩
theorem Tryz.laysM284:Go.Proofs.LaysM.n284 Tryz.prog Tryz.laysM284_ren := {
 mixed:=by kernel_rfl
 f129:=Tryz.func125.trans (congrArg some (by kernel_rfl))
 f284:=Tryz.func115.trans (congrArg some (by kernel_rfl))
 f317:=Tryz.func124.trans (congrArg some (by kernel_rfl))
 f318:=Tryz.func126.trans (congrArg some (by kernel_rfl))
 t0:=Tryz.underlying0
 a0:=Tryz.isAgg0
 z0:=Tryz.sizeOf0
 v0:=Tryz.zeroValue0
 t3:=Tryz.underlying3
 a3:=Tryz.isAgg3
 z3:=Tryz.sizeOf3
 v3:=Tryz.zeroValue3
 t4:=Tryz.underlying4
 a4:=Tryz.isAgg4
 z4:=Tryz.sizeOf4
 v4:=Tryz.zeroValue4
 t5:=Tryz.underlying5
 a5:=Tryz.isAgg5
 z5:=Tryz.sizeOf5
 v5:=Tryz.zeroValue5
 t9:=Tryz.underlying9
 a9:=Tryz.isAgg9
 z9:=Tryz.sizeOf9
 v9:=Tryz.zeroValue9
 t46:=Tryz.underlying174
 a46:=Tryz.isAgg174
 z46:=Tryz.sizeOf174
 v46:=Tryz.zeroValue174
 t53:=Tryz.underlying22
 a53:=Tryz.isAgg22
 z53:=Tryz.sizeOf22
 v53:=Tryz.zeroValue22
 t212:=Tryz.underlying177
 a212:=Tryz.isAgg177
 z212:=Tryz.sizeOf177
 v212:=Tryz.zeroValue177
 g17:=by kernel_rfl
 i0:=by kernel_rfl
 i3:=by kernel_rfl
 i4:=by kernel_rfl
 i5:=by kernel_rfl
 i9:=by kernel_rfl
 i46:=by kernel_rfl
 i53:=by kernel_rfl
 i212:=by kernel_rfl
 m17:=by kernel_rfl }
open Go.Lib in
theorem Tryz.internal_strconv_numDigits (u:Nat) (h1:1≤u) (h2:u<18446744073709551616) (w:World) (htab:Lib.TabIs Tryz.prog w "internal/strconv.uint64pow10" .u64 Lib.pow10Tab) :
  Calls Tryz.prog 115 #[.int .u64 u] w fun e w'=>e=.returned (.int .i64 (Lib.nDigits u))∧w'=w:=Any.internal_strconv_numDigits Tryz.laysM284 u h1 h2 w htab
def Tryz.lays285_ren:Go.Shelf.Ren:=⟨fun|285=>116|n=>n,fun|37=>29|53=>22|3=>3|4=>4|51=>33|9=>9|5=>5|0=>0|n=>n,fun|n=>n⟩
theorem Tryz.lays285:Go.Proofs.Lays.n285 Tryz.prog Tryz.lays285_ren := {
 mixed:=by kernel_rfl
 f285:=Tryz.func116.trans (congrArg some (by kernel_rfl))
 t0:=Tryz.underlying0
 a0:=Tryz.isAgg0
 z0:=Tryz.sizeOf0
 v0:=Tryz.zeroValue0
 t3:=Tryz.underlying3
 a3:=Tryz.isAgg3
 z3:=Tryz.sizeOf3
 v3:=Tryz.zeroValue3
 t4:=Tryz.underlying4
 a4:=Tryz.isAgg4
 z4:=Tryz.sizeOf4
 v4:=Tryz.zeroValue4
 t5:=Tryz.underlying5
 a5:=Tryz.isAgg5
 z5:=Tryz.sizeOf5
 v5:=Tryz.zeroValue5
 t9:=Tryz.underlying9
 a9:=Tryz.isAgg9
 z9:=Tryz.sizeOf9
 v9:=Tryz.zeroValue9
 t37:=Tryz.underlying29
 a37:=Tryz.isAgg29
 z37:=Tryz.sizeOf29
 v37:=Tryz.zeroValue29
 t51:=Tryz.underlying33
 a51:=Tryz.isAgg33
 z51:=Tryz.sizeOf33
 v51:=Tryz.zeroValue33
 t53:=Tryz.underlying22
 a53:=Tryz.isAgg22
 z53:=Tryz.sizeOf22
 v53:=Tryz.zeroValue22 }
open Go.RowKit Go.Sort Go.Lib in
theorem Tryz.internal_strconv_formatBase10 (blk off cap:Nat) (u:Nat) (d:Array UInt8) (w:World) (hH:Holds (fun (b:UInt8)=>Value.int .u8 (b.toNat:Int)) w blk off d) (hu:u<10 ^ d.size) (hu64:u<18446744073709551616) (hsz:d.size<4611686018427387904) :
  Calls Tryz.prog 116 #[.slice (some ⟨blk,off,none⟩) d.size cap,.int .u64 u] w fun e w' =>
   e=.returned (.tuple #[])∧∃ (n v':Nat) (dk:Array UInt8),w'=(putRow (fun (b:UInt8)=>Value.int .u8 (b.toNat:Int)) w blk off dk).drewN n∧FmtInv d.size u 0 v' dk:=Any.internal_strconv_formatBase10 Tryz.lays285 blk off cap u d w hH hu hu64 hsz
def Tryz.laysM171_ren:Go.Shelf.Ren:=⟨fun|171=>31|243=>66|246=>105|283=>114|284=>115|285=>116|286=>117|129=>125|317=>124|318=>126|319=>127|320=>128|337=>136|338=>137|n=>n,fun|3=>3|9=>9|2=>2|4=>4|171=>165|0=>0|53=>22|37=>29|5=>5|173=>168|212=>177|51=>33|20=>20|213=>178|46=>174|232=>192|233=>193|n=>n,fun|17=>0|18=>4|19=>5|n=>n⟩
theorem Tryz.laysM171:Go.Proofs.LaysM.n171 Tryz.prog Tryz.laysM171_ren := {
 mixed:=by kernel_rfl
 f129:=Tryz.func125.trans (congrArg some (by kernel_rfl))
 f171:=Tryz.func31.trans (congrArg some (by kernel_rfl))
 f243:=Tryz.func66.trans (congrArg some (by kernel_rfl))
 f246:=Tryz.func105.trans (congrArg some (by kernel_rfl))
 f283:=Tryz.func114.trans (congrArg some (by kernel_rfl))
 f284:=Tryz.func115.trans (congrArg some (by kernel_rfl))
 f285:=Tryz.func116.trans (congrArg some (by kernel_rfl))
 f286:=Tryz.func117.trans (congrArg some (by kernel_rfl))
 f317:=Tryz.func124.trans (congrArg some (by kernel_rfl))
 f318:=Tryz.func126.trans (congrArg some (by kernel_rfl))
 f319:=Tryz.func127.trans (congrArg some (by kernel_rfl))
 f320:=Tryz.func128.trans (congrArg some (by kernel_rfl))
 f337:=Tryz.func136.trans (congrArg some (by kernel_rfl))
 f338:=Tryz.func137.trans (congrArg some (by kernel_rfl))
 t0:=Tryz.underlying0
 a0:=Tryz.isAgg0
 z0:=Tryz.sizeOf0
 v0:=Tryz.zeroValue0
 t2:=Tryz.underlying2
 a2:=Tryz.isAgg2
 z2:=Tryz.sizeOf2
 v2:=Tryz.zeroValue2
 t3:=Tryz.underlying3
 a3:=Tryz.isAgg3
 z3:=Tryz.sizeOf3
 v3:=Tryz.zeroValue3
 t4:=Tryz.underlying4
 a4:=Tryz.isAgg4
 z4:=Tryz.sizeOf4
 v4:=Tryz.zeroValue4
 t5:=Tryz.underlying5
 a5:=Tryz.isAgg5
 z5:=Tryz.sizeOf5
 v5:=Tryz.zeroValue5
 t9:=Tryz.underlying9
 a9:=Tryz.isAgg9
 z9:=Tryz.sizeOf9
 v9:=Tryz.zeroValue9
 t20:=Tryz.underlying20
 a20:=Tryz.isAgg20
 z20:=Tryz.sizeOf20
 v20:=Tryz.zeroValue20
 t37:=Tryz.underlying29
 a37:=Tryz.isAgg29
 z37:=Tryz.sizeOf29
 v37:=Tryz.zeroValue29
 t46:=Tryz.underlying174
 a46:=Tryz.isAgg174
 z46:=Tryz.sizeOf174
 v46:=Tryz.zeroValue174
 t51:=Tryz.underlying33
 a51:=Tryz.isAgg33
 z51:=Tryz.sizeOf33
 v51:=Tryz.zeroValue33
 t53:=Tryz.underlying22
 a53:=Tryz.isAgg22
 z53:=Tryz.sizeOf22
 v53:=Tryz.zeroValue22
 t171:=Tryz.underlying165
 a171:=Tryz.isAgg165
 z171:=Tryz.sizeOf165
 v171:=Tryz.zeroValue165
 t173:=Tryz.underlying168
 a173:=Tryz.isAgg168
 z173:=Tryz.sizeOf168
 v173:=Tryz.zeroValue168
 t212:=Tryz.underlying177
 a212:=Tryz.isAgg177
 z212:=Tryz.sizeOf177
 v212:=Tryz.zeroValue177
 t213:=Tryz.underlying178
 a213:=Tryz.isAgg178
 z213:=Tryz.sizeOf178
 t232:=Tryz.underlying192
 a232:=Tryz.isAgg192
 z232:=Tryz.sizeOf192
 v232:=Tryz.zeroValue192
 t233:=Tryz.underlying193
 a233:=Tryz.isAgg193
 z233:=Tryz.sizeOf193
 v233:=Tryz.zeroValue193
 g17:=by kernel_rfl
 g18:=by kernel_rfl
 g19:=by kernel_rfl
 i0:=by kernel_rfl
 i2:=by kernel_rfl
 i3:=by kernel_rfl
 i4:=by kernel_rfl
 i5:=by kernel_rfl
 i9:=by kernel_rfl
 i20:=by kernel_rfl
 i37:=by kernel_rfl
 i46:=by kernel_rfl
 i51:=by kernel_rfl
 i53:=by kernel_rfl
 i171:=by kernel_rfl
 i173:=by kernel_rfl
 i212:=by kernel_rfl
 i232:=by kernel_rfl
 i233:=by kernel_rfl
 m17:=by kernel_rfl
 m18:=by kernel_rfl
 m19:=by kernel_rfl }
open Go.RowKit Go.Sort Go.Lib in
theorem Tryz.strconv_Itoa (n:Int) (h0 : -9223372036854775808≤n) (h1:n≤9223372036854775807) (w:World) (htab:Lib.TabIs Tryz.prog w "internal/strconv.uint64pow10" .u64 Lib.pow10Tab) :
  Calls Tryz.prog 31 #[.int .i64 n] w fun e w'=>e=.returned (.string ⟨(Lib.itoa n).toArray⟩)∧∃ k os,w'=grow (w.drewN k) os:=Any.strconv_Itoa Tryz.laysM171 n h0 h1 w htab
end Go.Proofs

namespace Go.Proofs
open Go.Shelf Go.RowKit Go.Sort Go.Lib
set_option maxHeartbeats 6400000 in
set_option maxRecDepth 100000 in
theorem Tryz.formatUint81 (u:Nat) (hu64:u<18446744073709551616) (w:World)
  (htab:Lib.TabIs Tryz.prog w "internal/strconv.uint64pow10" .u64 Lib.pow10Tab) :
  Calls Tryz.prog 81 #[.int .u64 u,.int .i64 10] w fun e w'=>e=.returned (.string ⟨(Lib.decDigits u).toArray⟩)∧∃ k os,w'=grow (w.drewN k) os:=by
 by_cases hi:u<100
 ·go_enter Tryz.func81,Tryz.ntmps81
  go_wp2_with (go_at_call 114;refine (Tryz.internal_strconv_small u hi _).mono ?_;rintro e w' ⟨rfl,rfl⟩)
  go_ret
  exact⟨rfl,0,#[],by simp [World.drewN_zero]⟩
 ·have hu1:1≤u:=by omega
  have hnd20:Lib.nDigits u≤20:=by have:=Lib.numDigits_eq u hu1 hu64;split at this<;>omega
  have hal:Tryz.prog.arrayLen 165=24:=by simp [Program.arrayLen,Tryz.underlying165]
  have hsl1:∀ W,(Instr.sliceAt 165 (.pointer (some ⟨w.heap.size,0,none⟩)) none (some (.int .i64 (Lib.nDigits u:Int))) none).run Tryz.prog W=.ok (.slice (some ⟨w.heap.size,0,none⟩) (Lib.nDigits u) 24) W:=fun W=>by
   rw [run_sliceAt_array_h W 165 ⟨w.heap.size,0,none⟩ (by simp [Program.arrayLen,Program.elem,Tryz.underlying165]) .i64 (Lib.nDigits u:Int) (by omega) (by rw [hal];omega)]
   go_simp
  have hH0:=Lib.holds_zero0 w 165 (Lib.nDigits u) (by omega)
  have hfmt:=Tryz.internal_strconv_formatBase10 w.heap.size 0 24 u (Array.replicate (Lib.nDigits u) 0) (w.alloc (.cells Lib.zeros24 165)) hH0 (by rw [Array.size_replicate];exact Lib.lt_pow_nDigits u) hu64 (by rw [Array.size_replicate];omega)
  rw [Array.size_replicate] at hfmt
  have HH0:=Lib.hid hH0
  clear hH0
  go_enter Tryz.func81,Tryz.ntmps81
  go_wp2_with (first
   | (go_at_call 115;refine (Tryz.internal_strconv_numDigits u hu1 hu64 _ (Lib.tabIs_alloc htab _)).mono ?_;rintro e w' ⟨rfl,rfl⟩))
  refine hfmt.mono ?_
  rintro e w' ⟨rfl,k,v',dk,rfl,hF⟩
  have hcv:(convert 29 9 (.slice (some ⟨w.heap.size,0,none⟩) (Lib.nDigits u) 24)).run Tryz.prog ((putRow (fun (b:UInt8)=>Value.int .u8 (b.toNat:Int)) (w.alloc (.cells Lib.zeros24 165)) w.heap.size 0 dk).drewN k)=.ok (.string ⟨(Lib.decDigits u).toArray⟩) ((putRow (fun (b:UInt8)=>Value.int .u8 (b.toNat:Int)) (w.alloc (.cells Lib.zeros24 165)) w.heap.size 0 dk).drewN k):=by
   have h:=run_convert_bytes_back (P:=Tryz.prog) ((putRow (fun (b:UInt8)=>Value.int .u8 (b.toNat:Int)) (w.alloc (.cells Lib.zeros24 165)) w.heap.size 0 dk).drewN k) 29 9 5 ⟨w.heap.size,0,none⟩ 24 (Lib.decDigits u) Tryz.underlying29 Tryz.underlying5 Tryz.underlying9 (fun j hj=>by
    rw [Lib.row_is_numeral hF j hj,Lib.add_plain,World.cell?_drewN]
    exact cell?_putRow (fun (b:UInt8)=>Value.int .u8 (b.toNat:Int)) _ w.heap.size 0 _ dk HH0.out (by rw [hF.size,Array.size_replicate]) j (by rw [hF.size];rw [Lib.decDigits_length] at hj;exact hj))
   rw [Lib.decDigits_length] at h
   exact h
  go_wp2
  go_ret
  obtain⟨os,eo⟩:=Lib.fin_at w (.cells Lib.zeros24 165) dk k 0
  exact⟨rfl,k,os,eo⟩
set_option maxRecDepth 100000 in
theorem Tryz.formatUint48 (u:Nat) (hu64:u<18446744073709551616) (w:World)
  (htab:Lib.TabIs Tryz.prog w "internal/strconv.uint64pow10" .u64 Lib.pow10Tab) :
  Calls Tryz.prog 48 #[.int .u64 u,.int .i64 10] w fun e w'=>e=.returned (.string ⟨(Lib.decDigits u).toArray⟩)∧∃ k os,w'=grow (w.drewN k) os:=by
 go_enter Tryz.func48,Tryz.ntmps48
 go_wp2_with (go_at_call 81;refine (Tryz.formatUint81 u hu64 _ htab).mono ?_;rintro e w' ⟨rfl,k,os,rfl⟩)
 go_ret
 exact⟨rfl,k,os,rfl⟩
end Go.Proofs

namespace Go.Proofs
open Go.Shelf
def Tryz.lays137_ren:Go.Shelf.Ren:=⟨fun|137=>131|217=>132|266=>141|n=>n,fun|9=>9|5=>5|3=>3|n=>n,fun|n=>n⟩
theorem Tryz.lays137:Go.Proofs.Lays.n137 Tryz.prog Tryz.lays137_ren := {
 mixed:=by kernel_rfl
 f137:=Tryz.func131.trans (congrArg some (by kernel_rfl))
 f217:=Tryz.func132.trans (congrArg some (by kernel_rfl))
 f266:=Tryz.func141.trans (congrArg some (by kernel_rfl))
 t3:=Tryz.underlying3
 a3:=Tryz.isAgg3
 z3:=Tryz.sizeOf3
 v3:=Tryz.zeroValue3
 t5:=Tryz.underlying5
 a5:=Tryz.isAgg5
 z5:=Tryz.sizeOf5
 v5:=Tryz.zeroValue5
 t9:=Tryz.underlying9
 a9:=Tryz.isAgg9
 z9:=Tryz.sizeOf9
 v9:=Tryz.zeroValue9 }
open Go.RowKit in
theorem Tryz.strings_IndexByte (s:ByteArray) (c:Int) (w:World) :
  Calls Tryz.prog 131 #[.string s,.int .u8 c] w fun e w'=>e=.returned (.int .i64 (Lib.indexByte s.data.toList c.toNat.toUInt8))∧w'=w:=Any.strings_IndexByte Tryz.lays137 s c w
def Tryz.lays103_ren:Go.Shelf.Ren:=⟨fun|103=>118|210=>129|206=>138|n=>n,fun|9=>9|4=>4|24=>170|3=>3|n=>n,fun|n=>n⟩
theorem Tryz.lays103:Go.Proofs.Lays.n103 Tryz.prog Tryz.lays103_ren := {
 mixed:=by kernel_rfl
 f103:=Tryz.func118.trans (congrArg some (by kernel_rfl))
 f206:=Tryz.func138.trans (congrArg some (by kernel_rfl))
 f210:=Tryz.func129.trans (congrArg some (by kernel_rfl))
 t3:=Tryz.underlying3
 a3:=Tryz.isAgg3
 z3:=Tryz.sizeOf3
 v3:=Tryz.zeroValue3
 t4:=Tryz.underlying4
 a4:=Tryz.isAgg4
 z4:=Tryz.sizeOf4
 v4:=Tryz.zeroValue4
 t9:=Tryz.underlying9
 a9:=Tryz.isAgg9
 z9:=Tryz.sizeOf9
 v9:=Tryz.zeroValue9
 t24:=Tryz.underlying170
 a24:=Tryz.isAgg170
 z24:=Tryz.sizeOf170
 v24:=Tryz.zeroValue170 }
open Go.RowKit in
theorem Tryz.strings_CutPrefix (s p:ByteArray) (w:World) :
  Calls Tryz.prog 118 #[.string s,.string p] w fun e w'=>e=.returned (.tuple #[.string ⟨(Lib.trimPrefix s.data.toList p.data.toList).toArray⟩,.bool (Lib.hasPrefix s.data.toList p.data.toList)])∧w'=w:=Any.strings_CutPrefix Tryz.lays103 s p w
def Tryz.laysPu14_ren:Go.Shelf.Ren:=⟨fun|14=>130|16=>139|17=>140|19=>143|20=>144|21=>145|22=>146|23=>147|24=>148|25=>149|27=>31|26=>150|28=>66|29=>105|30=>114|31=>115|32=>116|33=>117|35=>125|34=>124|36=>126|37=>127|38=>128|39=>136|40=>137|n=>n,fun|9=>9|3=>3|22=>22|24=>69|25=>180|4=>4|34=>194|5=>5|36=>174|37=>29|0=>0|39=>195|21=>21|44=>200|47=>122|50=>204|48=>202|2=>2|52=>165|55=>168|59=>177|60=>33|20=>20|61=>178|65=>192|66=>193|67=>86|n=>n,fun|0=>6|1=>7|2=>0|3=>4|4=>5|n=>n⟩
theorem Tryz.laysPu14:Go.Proofs.LaysPu.n14 Tryz.prog Tryz.laysPu14_ren := {
 mixed:=by kernel_rfl
 f14:=Tryz.func130.trans (congrArg some (by kernel_rfl))
 f16:=Tryz.func139.trans (congrArg some (by kernel_rfl))
 f17:=Tryz.func140.trans (congrArg some (by kernel_rfl))
 f19:=Tryz.func143.trans (congrArg some (by kernel_rfl))
 f20:=Tryz.func144.trans (congrArg some (by kernel_rfl))
 f21:=Tryz.func145.trans (congrArg some (by kernel_rfl))
 f22:=Tryz.func146.trans (congrArg some (by kernel_rfl))
 f23:=Tryz.func147.trans (congrArg some (by kernel_rfl))
 f24:=Tryz.func148.trans (congrArg some (by kernel_rfl))
 f25:=Tryz.func149.trans (congrArg some (by kernel_rfl))
 f26:=Tryz.func150.trans (congrArg some (by kernel_rfl))
 f27:=Tryz.func31.trans (congrArg some (by kernel_rfl))
 f28:=Tryz.func66.trans (congrArg some (by kernel_rfl))
 f29:=Tryz.func105.trans (congrArg some (by kernel_rfl))
 f30:=Tryz.func114.trans (congrArg some (by kernel_rfl))
 f31:=Tryz.func115.trans (congrArg some (by kernel_rfl))
 f32:=Tryz.func116.trans (congrArg some (by kernel_rfl))
 f33:=Tryz.func117.trans (congrArg some (by kernel_rfl))
 f34:=Tryz.func124.trans (congrArg some (by kernel_rfl))
 f35:=Tryz.func125.trans (congrArg some (by kernel_rfl))
 f36:=Tryz.func126.trans (congrArg some (by kernel_rfl))
 f37:=Tryz.func127.trans (congrArg some (by kernel_rfl))
 f38:=Tryz.func128.trans (congrArg some (by kernel_rfl))
 f39:=Tryz.func136.trans (congrArg some (by kernel_rfl))
 f40:=Tryz.func137.trans (congrArg some (by kernel_rfl))
 t0:=Tryz.underlying0
 a0:=Tryz.isAgg0
 z0:=Tryz.sizeOf0
 v0:=Tryz.zeroValue0
 i0:=by kernel_rfl
 t2:=Tryz.underlying2
 a2:=Tryz.isAgg2
 z2:=Tryz.sizeOf2
 v2:=Tryz.zeroValue2
 i2:=by kernel_rfl
 t3:=Tryz.underlying3
 a3:=Tryz.isAgg3
 z3:=Tryz.sizeOf3
 v3:=Tryz.zeroValue3
 i3:=by kernel_rfl
 t4:=Tryz.underlying4
 a4:=Tryz.isAgg4
 z4:=Tryz.sizeOf4
 v4:=Tryz.zeroValue4
 i4:=by kernel_rfl
 t5:=Tryz.underlying5
 a5:=Tryz.isAgg5
 z5:=Tryz.sizeOf5
 v5:=Tryz.zeroValue5
 i5:=by kernel_rfl
 t9:=Tryz.underlying9
 a9:=Tryz.isAgg9
 z9:=Tryz.sizeOf9
 v9:=Tryz.zeroValue9
 i9:=by kernel_rfl
 t20:=Tryz.underlying20
 a20:=Tryz.isAgg20
 z20:=Tryz.sizeOf20
 v20:=Tryz.zeroValue20
 i20:=by kernel_rfl
 t21:=Tryz.underlying21
 a21:=Tryz.isAgg21
 z21:=Tryz.sizeOf21
 v21:=Tryz.zeroValue21
 i21:=by kernel_rfl
 t22:=Tryz.underlying22
 a22:=Tryz.isAgg22
 z22:=Tryz.sizeOf22
 v22:=Tryz.zeroValue22
 i22:=by kernel_rfl
 t24:=Tryz.underlying69
 a24:=Tryz.isAgg69
 z24:=Tryz.sizeOf69
 v24:=Tryz.zeroValue69
 i24:=by kernel_rfl
 t25:=Tryz.underlying180
 a25:=Tryz.isAgg180
 z25:=Tryz.sizeOf180
 v25:=Tryz.zeroValue180
 i25:=by kernel_rfl
 t34:=Tryz.underlying194
 a34:=Tryz.isAgg194
 z34:=Tryz.sizeOf194
 v34:=Tryz.zeroValue194
 i34:=by kernel_rfl
 c34:=by kernel_rfl
 t36:=Tryz.underlying174
 a36:=Tryz.isAgg174
 z36:=Tryz.sizeOf174
 v36:=Tryz.zeroValue174
 i36:=by kernel_rfl
 t37:=Tryz.underlying29
 a37:=Tryz.isAgg29
 z37:=Tryz.sizeOf29
 v37:=Tryz.zeroValue29
 i37:=by kernel_rfl
 t39:=Tryz.underlying195
 a39:=Tryz.isAgg195
 z39:=Tryz.sizeOf195
 v39:=Tryz.zeroValue195
 i39:=by kernel_rfl
 t44:=Tryz.underlying200
 a44:=Tryz.isAgg200
 z44:=Tryz.sizeOf200
 v44:=Tryz.zeroValue200
 i44:=by kernel_rfl
 t47:=Tryz.underlying122
 a47:=Tryz.isAgg122
 z47:=Tryz.sizeOf122
 v47:=Tryz.zeroValue122
 i47:=by kernel_rfl
 t48:=Tryz.underlying202
 a48:=Tryz.isAgg202
 z48:=Tryz.sizeOf202
 v48:=Tryz.zeroValue202
 i48:=by kernel_rfl
 t50:=Tryz.underlying204
 a50:=Tryz.isAgg204
 z50:=Tryz.sizeOf204
 v50:=Tryz.zeroValue204
 i50:=by kernel_rfl
 t52:=Tryz.underlying165
 a52:=Tryz.isAgg165
 z52:=Tryz.sizeOf165
 v52:=Tryz.zeroValue165
 i52:=by kernel_rfl
 t55:=Tryz.underlying168
 a55:=Tryz.isAgg168
 z55:=Tryz.sizeOf168
 v55:=Tryz.zeroValue168
 i55:=by kernel_rfl
 t59:=Tryz.underlying177
 a59:=Tryz.isAgg177
 z59:=Tryz.sizeOf177
 v59:=Tryz.zeroValue177
 i59:=by kernel_rfl
 t60:=Tryz.underlying33
 a60:=Tryz.isAgg33
 z60:=Tryz.sizeOf33
 v60:=Tryz.zeroValue33
 i60:=by kernel_rfl
 t61:=Tryz.underlying178
 a61:=Tryz.isAgg178
 z61:=Tryz.sizeOf178
 t65:=Tryz.underlying192
 a65:=Tryz.isAgg192
 z65:=Tryz.sizeOf192
 v65:=Tryz.zeroValue192
 i65:=by kernel_rfl
 t66:=Tryz.underlying193
 a66:=Tryz.isAgg193
 z66:=Tryz.sizeOf193
 v66:=Tryz.zeroValue193
 i66:=by kernel_rfl
 t67:=Tryz.underlying86
 a67:=Tryz.isAgg86
 z67:=Tryz.sizeOf86
 v67:=Tryz.zeroValue86
 i67:=by kernel_rfl
 g0:=by kernel_rfl
 m0:=by kernel_rfl
 g1:=by kernel_rfl
 m1:=by kernel_rfl
 g2:=by kernel_rfl
 m2:=by kernel_rfl
 g3:=by kernel_rfl
 m3:=by kernel_rfl
 g4:=by kernel_rfl
 m4:=by kernel_rfl }
open Go.RowKit in
theorem Tryz.strconv_ParseUint_10_at64_ok (s:ByteArray) (hmax:s.size≤9223372036854775806) (u:Nat) (h:Lib.parseUintB 64 s.data.toList=.ok u) (w:World) :
  Calls Tryz.prog 130 #[.string s,.int .i64 10,.int .i64 64] w fun e w'=>e=.returned (.tuple #[.int .u64 u,.nilIface])∧(w'=w∨w'=Lib.bytesWorld w 5 s):=Any.strconv_ParseUint_10_at64_ok Tryz.laysPu14 s hmax u h w
open Go.RowKit in
theorem Tryz.strconv_ParseUint_10_at64_syntax (s:ByteArray) (hlim:s.size≤281474976710656) (h:Lib.parseUintB 64 s.data.toList=Lib.parseUintB 64 []) (ev:Value) (w:World) (hv:w.cell? ⟨6,0,none⟩=some ev) (hev:ev=.nilIface∨∃ te pe,ev=.iface te pe) :
  Calls Tryz.prog 130 #[.string s,.int .i64 10,.int .i64 64] w fun e w'=>∃ N,e=.returned (.tuple #[.int .u64 0,.iface 195 (.pointer (some ⟨N,0,none⟩))])∧w.heap.size≤N∧w'.heap[N]? = some (.cells #[.string ⟨#[80,97,114,115,101,85,105,110,116]⟩,.string s,ev] 200 (0,0))∧Below w.heap.size w w':=Any.strconv_ParseUint_10_at64_syntax Tryz.laysPu14 s hlim (h.trans rfl) ev w hv hev
open Go.RowKit in
theorem Tryz.strconv_ParseUint_10_at64_range (s:ByteArray) (hlim:s.size≤281474976710656) (h:Lib.parseUintB 64 s.data.toList=.range) (ev:Value) (w:World) (hv:w.cell? ⟨7,0,none⟩=some ev) (hev:ev=.nilIface∨∃ te pe,ev=.iface te pe) :
  Calls Tryz.prog 130 #[.string s,.int .i64 10,.int .i64 64] w fun e w'=>∃ N,e=.returned (.tuple #[.int .u64 18446744073709551615,.iface 195 (.pointer (some ⟨N,0,none⟩))])∧w.heap.size≤N∧w'.heap[N]? = some (.cells #[.string ⟨#[80,97,114,115,101,85,105,110,116]⟩,.string s,ev] 200 (0,0))∧Below w.heap.size w w':=Any.strconv_ParseUint_10_at64_range Tryz.laysPu14 s hlim h ev w hv hev
def Tryz.lays143_ren:Go.Shelf.Ren:=⟨fun|143=>108|219=>122|217=>132|225=>133|224=>134|267=>135|266=>141|314=>142|n=>n,fun|9=>9|3=>3|4=>4|5=>5|46=>174|146=>190|51=>33|n=>n,fun|1=>3|n=>n⟩
theorem Tryz.lays143:Go.Proofs.Lays.n143 Tryz.prog Tryz.lays143_ren := {
 mixed:=by kernel_rfl
 f143:=Tryz.func108.trans (congrArg some (by kernel_rfl))
 f217:=Tryz.func132.trans (congrArg some (by kernel_rfl))
 f219:=Tryz.func122.trans (congrArg some (by kernel_rfl))
 f224:=Tryz.func134.trans (congrArg some (by kernel_rfl))
 f225:=Tryz.func133.trans (congrArg some (by kernel_rfl))
 f266:=Tryz.func141.trans (congrArg some (by kernel_rfl))
 f267:=Tryz.func135.trans (congrArg some (by kernel_rfl))
 f314:=Tryz.func142.trans (congrArg some (by kernel_rfl))
 t3:=Tryz.underlying3
 a3:=Tryz.isAgg3
 z3:=Tryz.sizeOf3
 v3:=Tryz.zeroValue3
 t4:=Tryz.underlying4
 a4:=Tryz.isAgg4
 z4:=Tryz.sizeOf4
 v4:=Tryz.zeroValue4
 t5:=Tryz.underlying5
 a5:=Tryz.isAgg5
 z5:=Tryz.sizeOf5
 v5:=Tryz.zeroValue5
 t9:=Tryz.underlying9
 a9:=Tryz.isAgg9
 z9:=Tryz.sizeOf9
 v9:=Tryz.zeroValue9
 t46:=Tryz.underlying174
 a46:=Tryz.isAgg174
 z46:=Tryz.sizeOf174
 v46:=Tryz.zeroValue174
 t51:=Tryz.underlying33
 a51:=Tryz.isAgg33
 z51:=Tryz.sizeOf33
 v51:=Tryz.zeroValue33
 t146:=Tryz.underlying190
 a146:=Tryz.isAgg190
 z146:=Tryz.sizeOf190
 v146:=Tryz.zeroValue190
 g1:=by kernel_rfl }
open Go.RowKit Go.Lib in
theorem Tryz.strings_Index_one (s:ByteArray) (c:UInt8) (w:World) :
  Calls Tryz.prog 108 #[.string s,.string ⟨#[c]⟩] w fun e w'=>e=.returned (.int .i64 (Lib.indexByte s.data.toList c))∧w'=w:=Any.strings_Index_one Tryz.lays143 s c w
end Go.Proofs

