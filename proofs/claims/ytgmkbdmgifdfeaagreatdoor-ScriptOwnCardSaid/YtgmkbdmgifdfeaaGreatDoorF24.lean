/- A part of a proof: ScriptOwn. -/
import Derived.Ground.MpProg
import Derived.Shelf.Pu.ParseUintPublic10
import Derived.Shelf.Small.Strs
import Derived.Test.YtgmkbdmgifdfeaaGreatDoorF23
set_option linter.unusedVariables false
set_option linter.unusedSimpArgs false
set_option maxRecDepth 8000
namespace Go.Proofs.YtgmkbdmgifdfeaaGreatDoor
open Go Go.Ev
theorem intOf_R {w:List UInt8} {v:Int} (h:intOf w=some v):i64R v:=by
 unfold intOf at h
 split at h
 ·split at h
  ·rename_i z hz
   have:=numOf_le hz
   split at h
   ·obtain rfl:=Option.some.inj h;unfold i64R;omega
   ·cases h
  ·cases h
 ·cases hz:numOf w 2147483647 with
  |none=>rw [hz] at h;cases h
  |some z =>
   rw [hz] at h
   have e:(z:Int)=v:=Option.some.inj h
   have:=numOf_le hz
   unfold i64R;omega
theorem longOf_R {w:List UInt8} {v:Int} (h:longOf w=some v):u64R v:=by
 unfold longOf at h
 cases hz:numOf w 18446744073709551615 with
 |none=>rw [hz] at h;cases h
 |some z =>
  rw [hz] at h
  have e:(z:Int)=v:=Option.some.inj h
  have:=numOf_le hz
  unfold u64R;omega
theorem maskOf_R {w:List UInt8} {v:Int} (h:maskOf w=some v):u32R v:=mask_range h
theorem wayOf_R {w:List UInt8} {v:Int} (h:wayOf w=some v):i64R v:=by
 unfold wayOf at h
 split at h
 ·obtain rfl:=Option.some.inj h;unfold i64R;omega
 ·split at h
  ·obtain rfl:=Option.some.inj h;unfold i64R;omega
  ·cases h
theorem allInts_R:∀ (ws:List (List UInt8)) (l:List Int),allInts ws=some l→l.length=ws.length∧∀ c∈l,i64R c
 | [],l,h=>by obtain rfl:=Option.some.inj h;simp
 |w::ws,l,h=>by
  rw [allInts] at h
  cases hw:intOf w with
  |none=>rw [hw] at h;cases h
  |some v =>
   rw [hw] at h
   cases hr:allInts ws with
   |none=>rw [hr] at h;cases h
   |some r =>
    rw [hr] at h
    obtain rfl:=Option.some.inj h
    obtain⟨h1,h2⟩:=allInts_R ws r hr
    refine⟨by simp [h1],fun c hc=>?_⟩
    rcases List.mem_cons.1 hc with rfl|hc
    ·exact intOf_R hw
    ·exact h2 c hc
def RB (B:Nat) (s:Stp) (ws:List (List UInt8)):Prop:=s.R∧s.choices.length+ws.length≤B
theorem one_R {α : Type} {P:Int→Prop} {g:List UInt8→Option Int} (hg:∀ {w v},g w=some v→P v) {w:List UInt8} {f:Int → α} {a : α} (h:(g w).map f=some a):∃ v,a=f v∧P v:=by
 cases hv:g w with
 |none=>rw [hv] at h;cases h
 |some v=>rw [hv] at h;obtain rfl:=Option.some.inj h;exact⟨v,rfl,hg hv⟩
theorem read_R {B:Nat} (f:Fd) {s s':Stp} {ws ws':List (List UInt8)} (h:f.read s ws=some (s',ws')) (hs:RB B s ws):RB B s' ws':=by
 obtain⟨hR,hl⟩:=hs
 by_cases hc:f=.choices
 ·subst hc
  have h':(allInts ws).map (fun l=>(({ s with choices:=s.choices++l }:Stp),([]:List (List UInt8))))=some (s',ws'):=by
   cases ws<;>exact h
  cases ha:allInts ws with
  |none=>rw [ha] at h';cases h'
  |some l =>
   rw [ha] at h'
   obtain⟨h1,h2⟩:=allInts_R ws l ha
   obtain⟨rfl,rfl⟩:=Prod.mk.inj (Option.some.inj h')
   refine⟨{ hR with choices:=fun c hc=>?_ },by simp [h1];omega⟩
   rcases List.mem_append.1 hc with hc|hc
   ·exact hR.choices c hc
   ·exact h2 c hc
 cases ws with
 |nil=>cases f<;>first|(cases h;done)|exact absurd rfl hc
 |cons w ws =>
  simp only [List.length_cons] at hl
  cases f with
  |choices=>exact absurd rfl hc
  |stream=>obtain⟨v,e,hv⟩:=one_R (P:=i64R) (g:=intOf) (w:=w) intOf_R h;obtain⟨rfl,rfl⟩:=Prod.mk.inj e;exact⟨{ hR with stream:=hv },by simp only;omega⟩
  |qc=>obtain⟨v,e,hv⟩:=one_R (P:=i64R) (g:=intOf) (w:=w) intOf_R h;obtain⟨rfl,rfl⟩:=Prod.mk.inj e;exact⟨{ hR with qc:=hv },by simp only;omega⟩
  |qb=>obtain⟨v,e,hv⟩:=one_R (P:=i64R) (g:=intOf) (w:=w) intOf_R h;obtain⟨rfl,rfl⟩:=Prod.mk.inj e;exact⟨{ hR with qb:=hv },by simp only;omega⟩
  |place=>obtain⟨v,e,hv⟩:=one_R (P:=i64R) (g:=intOf) (w:=w) intOf_R h;obtain⟨rfl,rfl⟩:=Prod.mk.inj e;exact⟨{ hR with place:=hv },by simp only;omega⟩
  |pos=>obtain⟨v,e,hv⟩:=one_R (P:=i64R) (g:=intOf) (w:=w) intOf_R h;obtain⟨rfl,rfl⟩:=Prod.mk.inj e;exact⟨{ hR with pos:=hv },by simp only;omega⟩
  |cursor=>obtain⟨v,e,hv⟩:=one_R (P:=i64R) (g:=intOf) (w:=w) intOf_R h;obtain⟨rfl,rfl⟩:=Prod.mk.inj e;exact⟨{ hR with cursor:=hv },by simp only;omega⟩
  |time=>obtain⟨v,e,hv⟩:=one_R (P:=u64R) (g:=longOf) (w:=w) longOf_R h;obtain⟨rfl,rfl⟩:=Prod.mk.inj e;exact⟨{ hR with time:=hv },by simp only;omega⟩
  |life=>obtain⟨v,e,hv⟩:=one_R (P:=u64R) (g:=longOf) (w:=w) longOf_R h;obtain⟨rfl,rfl⟩:=Prod.mk.inj e;exact⟨{ hR with life:=hv },by simp only;omega⟩
  |seq=>obtain⟨v,e,hv⟩:=one_R (P:=u64R) (g:=longOf) (w:=w) longOf_R h;obtain⟨rfl,rfl⟩:=Prod.mk.inj e;exact⟨{ hR with seq:=hv },by simp only;omega⟩
  |to=>obtain⟨v,e,hv⟩:=one_R (P:=u64R) (g:=longOf) (w:=w) longOf_R h;obtain⟨rfl,rfl⟩:=Prod.mk.inj e;exact⟨{ hR with to:=hv },by simp only;omega⟩
  |ticks=>obtain⟨v,e,hv⟩:=one_R (P:=u64R) (g:=longOf) (w:=w) longOf_R h;obtain⟨rfl,rfl⟩:=Prod.mk.inj e;exact⟨{ hR with ticks:=hv },by simp only;omega⟩
  |mask=>obtain⟨v,e,hv⟩:=one_R (P:=u32R) (g:=maskOf) (w:=w) maskOf_R h;obtain⟨rfl,rfl⟩:=Prod.mk.inj e;exact⟨{ hR with mask:=hv },by simp only;omega⟩
  |way=>obtain⟨v,e,hv⟩:=one_R (P:=i64R) (g:=wayOf) (w:=w) wayOf_R h;obtain⟨rfl,rfl⟩:=Prod.mk.inj e;exact⟨{ hR with way:=hv },by simp only;omega⟩
  |data =>
   have h':(textOf w).map (fun v=>(({ s with data:=v }:Stp),ws))=some (s',ws'):=h
   cases hv:textOf w with
   |none=>rw [hv] at h';cases h'
   |some v=>rw [hv] at h';obtain⟨rfl,rfl⟩:=Prod.mk.inj (Option.some.inj h');exact⟨{ hR with },by simp only;omega⟩
theorem reads_R {B:Nat}:∀ (fs:List Fd) {s s':Stp} {ws ws':List (List UInt8)},readFds fs s ws=some (s',ws')→RB B s ws→RB B s' ws'
 | [],s,s',ws,ws',h,hs=>by obtain⟨rfl,rfl⟩:=Prod.mk.inj (Option.some.inj h);exact hs
 |f::fs,s,s',ws,ws',h,hs=>by
  rw [readFds] at h
  cases hf:f.read s ws with
  |none=>rw [hf] at h;cases h
  |some a=>obtain⟨s1,ws1⟩:=a;rw [hf] at h;exact reads_R fs h (read_R f hf hs)
theorem stepOf_R {ws:List (List UInt8)} {s:Stp} (h:stepOf ws=some s):s.R∧s.choices.length≤ws.length:=by
 unfold stepOf at h
 cases hn:nodeOf ws with
 |none=>rw [hn] at h;cases h
 |some a =>
  obtain⟨n,w,vs⟩:=a
  rw [hn] at h
  simp only at h
  have hnr:(n=0∨n=1∨n=2)∧vs.length≤ws.length:=by
   unfold nodeOf at hn
   split at hn
   ·cases hn
   ·split at hn
    ·split at hn
     ·cases hn
     ·obtain⟨rfl,rfl,rfl⟩:=Option.some.inj hn
      refine⟨?_,by simp;omega⟩
      split<;>simp
    ·obtain⟨rfl,rfl,rfl⟩:=Option.some.inj hn
     exact⟨.inl rfl,by simp⟩
  cases hk:kindOf w with
  |none=>rw [hk] at h;cases h
  |some k =>
   rw [hk] at h
   simp only at h
   obtain⟨k1,k2,-⟩:=kind_some hk
   split at h
   ·split at h
    ·rename_i s1 hr
     obtain rfl:=Option.some.inj h
     have h0:RB vs.length ({ stp0 with kind:=k,node:=n }:Stp) vs:=by
      refine⟨⟨?_,?_,?_,?_,?_,?_,?_,?_,?_,?_,?_,?_,?_,?_,?_,?_⟩,by simp [stp0]⟩<;>simp only [stp0,i64R,u64R,u32R,List.not_mem_nil,false_imp_iff,implies_true]<;>omega
     have:=reads_R _ hr h0
     exact⟨this.1,by have:=this.2;simp at this;omega⟩
    ·cases h
   ·cases h
end Go.Proofs.YtgmkbdmgifdfeaaGreatDoor

set_option maxRecDepth 8000
namespace Go.Proofs.YtgmkbdmgifdfeaaGreatDoor
open Go Go.Ev
theorem line_R {l:List UInt8} {s:Stp} (h:lineOf l=some (.step s)):s.R∧s.choices.length≤l.length+1:=by
 unfold lineOf at h
 cases hs:splitOf l with
 |none=>rw [hs] at h;cases h
 |some ws =>
  have hl:=(split_len l [] none false false ws l.length hs (by simp) (by simp) (by simp)).1
  rw [hs] at h
  cases ws with
  |nil=>cases h
  |cons w ws =>
   simp only at h
   split at h
   ·cases hh:headOf ws with
    |none=>rw [hh] at h;cases h
    |some x=>rw [hh] at h;cases h
   ·cases hh:stepOf (w::ws) with
    |none=>rw [hh] at h;cases h
    |some t =>
     rw [hh] at h
     cases h
     obtain⟨h1,h2⟩:=stepOf_R hh
     exact⟨h1,by simp at hl h2;omega⟩
theorem go_R {B:Nat}:∀ (ls:List (List UInt8)) (s:Scr) (n:Int),(∀ l∈ls,l.length≤B)→(∀ t∈s.steps,t.R∧t.choices.length≤B+1)→(∀ t∈(parseGo s n ls).2.1,t.R∧t.choices.length≤B+1)∧(parseGo s n ls).2.1.length≤s.steps.length+ls.length
 | [],s,n,_,hs=>by
   unfold parseGo
   split
   ·exact⟨hs,by simp⟩
   ·exact⟨by simp,by simp⟩
 |l::ls,s,n,hl,hs=>by
  rw [parseGo]
  cases ht:takeLn s l with
  |none=>exact⟨by simp,by simp⟩
  |some s' =>
   simp only
   have h':(∀ t∈s'.steps,t.R∧t.choices.length≤B+1)∧s'.steps.length≤s.steps.length+1:=by
    unfold takeLn at ht
    cases hln:lineOf l with
    |none=>rw [hln] at ht;cases ht
    |some x =>
     rw [hln] at ht
     cases x with
     |nothing=>cases ht;exact⟨hs,by omega⟩
     |head x =>
      simp only at ht
      split at ht
      ·cases ht
      ·cases ht;exact⟨hs,by simp⟩
     |step t =>
      simp only at ht
      split at ht
      ·cases ht
       refine⟨fun t' ht'=>?_,by simp⟩
       rcases List.mem_append.1 ht' with h|h
       ·exact hs t' h
       ·obtain rfl:=List.mem_singleton.1 h
        obtain⟨g1,g2⟩:=line_R hln
        have:=hl l (.head _)
        exact⟨g1,by omega⟩
      ·cases ht
   obtain⟨g1,g2⟩:=go_R ls s' (n+1) (fun l hl'=>hl l (.tail _ hl')) h'.1
   exact⟨g1,by have:=h'.2;simp;omega⟩
theorem parse_R (tx:List UInt8):(∀ t∈(parseOut tx).2.1,t.R∧t.choices.length≤1048577)∧(parseOut tx).2.1.length≤1048577:=by
 unfold parseOut
 split
 ·exact⟨by simp,by simp⟩
 ·obtain⟨c1,c2⟩:=cut_len tx
  obtain⟨g1,g2⟩:=go_R (B:=1048576) (cutLines tx) ⟨stu0,[],false⟩ 0 (fun l hl=>by have:=c2 l hl;omega) (by simp)
  exact⟨g1,by simp at g2;omega⟩
theorem own_old {n0 n:Nat} {m:Mem} {v:Value} {e:TypeId} {cells:List Value} (h:Own n0 m v e n cells):SlOld m.next m v n cells:=by
 rcases h with h|⟨b,rfl,h1,h2,h3⟩
 ·exact .inl h
 ·refine .inr ⟨b,0,n,rfl,Nat.le_refl _,.inr ⟨?_,h2⟩⟩
  have:=rd_vw h3 (o:=0) (k:=cells.length) (by simp)
  rw [this];simp [takeN]
theorem steps_old {n0:Nat} {m:Mem} {v:Value} {ss:List Stp} (h:StepsAt n0 m v ss) (hR:∀ s∈ss,s.R):StepsOld m.next m v ss:=by
 obtain⟨cells,h1,h2,h3⟩:=h
 refine⟨cells,own_old h1,h2,fun k s hs=>?_⟩
 obtain⟨d,c,g1,g2,g3⟩:=h3 k s hs
 exact⟨hR s (List.mem_of_getElem? hs),d,c,g1,own_old g2,own_old g3⟩
theorem sameSteps2 {m:Mem} {v w:Value} {ss:List Stp} (hv:StepsOld m.next m v ss) (hw:StepsOld m.next m w ss) (hlen:ss.length≤1048577) (hch:∀ s∈ss,s.choices.length≤1048577) :
  CallsA tb 16 [v,w] m (retR fun r m'=>r=.bool true∧Old m.next m m'):=by
 obtain⟨av,cv,rfl⟩:=hv.shape
 obtain⟨aw,cw,rfl⟩:=hw.shape
 refine callsS Tryz.func16 e16 rfl rfl ?_
 simp only [s16,List.replicate,List.length_cons,List.length_nil,List.cons_append,List.nil_append,Nat.reduceAdd,Nat.reduceSub]
 refine xsr fun Q' hQ=>?_
 simp
 subst hQ
 refine xseq (xseq (xregQ fun Q' hQ=>?_))
 simp
 subst hQ
 refine xno rfl (xskip ?_)
 refine xseq (xseq (xregQ fun Q' hQ=>?_))
 simp
 subst hQ
 refine xblock (xwhile (N:=ss.length) (I:=fun n l ds m2=>∃ k,n=ss.length-k∧k≤ss.length∧ds=[]∧Old m.next m m2∧Sl [.slice av ss.length cv,.slice aw ss.length cw,undef,undef,.bool false,.int .i64 (k:Nat)] 21 l) ?_ ?_)
 ·exact⟨0,rfl,by omega,rfl,.refl _ _,Sl.mk rfl rfl⟩
 rintro n l ds m2 ⟨k,rfl,hk,rfl,hO,⟨us,hus,rfl⟩⟩
 refine xseq (xseq (xregQ fun Q' hQ=>?_))
 simp [hus]
 subst hQ
 refine xif (v:=decide ((k:Int)<(ss.length:Int))) (by simp [hus]) (fun h=>xskip ?_) (fun h=>xexit ?_)
 ·simp only [decide_eq_true_eq] at h
  have hk2:k<ss.length:=by omega
  have hks:ss[k]? = some ss[k]:=List.getElem?_eq_getElem hk2
  generalize ss[k]=s at hks
  obtain⟨b1,o1,c1,h1,hR,ad,dc,ac,cc,h2,h3,h4,-,-,-⟩:=(hv.old hO).load hO.1 hks
  obtain⟨b2,o2,c2,g1,-,ad',dc',ac',cc',g2,g3,g4,-,-,-⟩:=(hw.old hO).load hO.1 hks
  simp only [Value.slice.injEq] at h1 g1
  obtain⟨rfl,-,rfl⟩:=h1
  obtain⟨rfl,-,rfl⟩:=g1
  have hcl:s.choices.length≤1000000000:=by have:=hch s (List.mem_of_getElem? hks);omega
  refine xseq (xblock (xseq (xdrw 2 fun Q' hQ=>?_)))
  simp [hus,h2,g2,hk2,h]
  refine xcall (ov_none (by decide)) (sameStep_ok (h3.at hO.1) (g3.at hO.1) (h4.at hO.1) (g4.at hO.1) hcl) ?_ (fun ch m' h=>h.elim)
  rintro r m3 ⟨rfl,hO3⟩
  simp [hus]
  subst hQ
  refine xif (v:=false) (by simp [hus]) (fun h=>by cases h) (fun h=>xskip ?_)
  refine xregQ fun Q' hQ=>?_
  simp [hus]
  rw [wr64 _ (by omega) (by omega)]
  subst hQ
  exact⟨ss.length-(k+1),by omega,k+1,rfl,by omega,rfl,hO.trans (hO3.le hO.1),Sl.mk rfl (by simp [hus])⟩
 ·refine xsr fun Q' hQ=>?_
  simp [hus]
  subst hQ
  refine xret ?_
  exact⟨rfl,_,resX_one _,by simp [hus],hO⟩
end Go.Proofs.YtgmkbdmgifdfeaaGreatDoor

set_option maxRecDepth 1000000
namespace Go.Proofs.YtgmkbdmgifdfeaaGreatDoor
open Go Go.Ev
noncomputable def tb0:Tabs:=mkTabs Tryz.prog 8 .lf
theorem good:Tryz.prog.funcs.toList.all (goodFn 8)=true:=by kernel_rfl
noncomputable def formsRun:Option (Value × Mem):=runF tb0 600 30 [] ⟨.lf,8⟩
noncomputable def rrowsRun:Option (Value × Mem):=runF tb0 60 67 [] ⟨.lf,8⟩
theorem forms_ran:ranTo 8 formsRun formsV formsRows:=ranTo_of (by kernel_rfl) (by kernel_rfl) (by kernel_rfl) (by kernel_rfl)
theorem rrows_ran:ranTo 8 rrowsRun rrowsV rrowsRows:=ranTo_of (by kernel_rfl) (by kernel_rfl) (by kernel_rfl) (by kernel_rfl)
end Go.Proofs.YtgmkbdmgifdfeaaGreatDoor

namespace Go.Proofs
open Go.Shelf
def Tryz.lays137_ren:Go.Shelf.Ren:=⟨fun|137=>131|217=>132|266=>141|n=>n,fun|9=>9|5=>5|3=>3|n=>n,fun|n=>n⟩
theorem Tryz.lays137:Go.Proofs.Lays.n137 Tryz.prog Tryz.lays137_ren := {
 mixed:=by kernel_rfl
 f137:=Tryz.func131.trans (congrArg some (by kernel_rfl))
 f217:=Tryz.func132.trans (congrArg some (by kernel_rfl))
 f266:=Tryz.func141.trans (congrArg some (by kernel_rfl))
 t3:=Tryz.underlying3
 a3:=Tryz.isAgg3
 z3:=Tryz.sizeOf3
 v3:=Tryz.zeroValue3
 t5:=Tryz.underlying5
 a5:=Tryz.isAgg5
 z5:=Tryz.sizeOf5
 v5:=Tryz.zeroValue5
 t9:=Tryz.underlying9
 a9:=Tryz.isAgg9
 z9:=Tryz.sizeOf9
 v9:=Tryz.zeroValue9 }
open Go.RowKit in
theorem Tryz.strings_IndexByte (s:ByteArray) (c:Int) (w:World) :
  Calls Tryz.prog 131 #[.string s,.int .u8 c] w fun e w'=>e=.returned (.int .i64 (Lib.indexByte s.data.toList c.toNat.toUInt8))∧w'=w:=Any.strings_IndexByte Tryz.lays137 s c w
def Tryz.lays103_ren:Go.Shelf.Ren:=⟨fun|103=>118|210=>129|206=>138|n=>n,fun|9=>9|4=>4|24=>170|3=>3|n=>n,fun|n=>n⟩
theorem Tryz.lays103:Go.Proofs.Lays.n103 Tryz.prog Tryz.lays103_ren := {
 mixed:=by kernel_rfl
 f103:=Tryz.func118.trans (congrArg some (by kernel_rfl))
 f206:=Tryz.func138.trans (congrArg some (by kernel_rfl))
 f210:=Tryz.func129.trans (congrArg some (by kernel_rfl))
 t3:=Tryz.underlying3
 a3:=Tryz.isAgg3
 z3:=Tryz.sizeOf3
 v3:=Tryz.zeroValue3
 t4:=Tryz.underlying4
 a4:=Tryz.isAgg4
 z4:=Tryz.sizeOf4
 v4:=Tryz.zeroValue4
 t9:=Tryz.underlying9
 a9:=Tryz.isAgg9
 z9:=Tryz.sizeOf9
 v9:=Tryz.zeroValue9
 t24:=Tryz.underlying170
 a24:=Tryz.isAgg170
 z24:=Tryz.sizeOf170
 v24:=Tryz.zeroValue170 }
open Go.RowKit in
theorem Tryz.strings_CutPrefix (s p:ByteArray) (w:World) :
  Calls Tryz.prog 118 #[.string s,.string p] w fun e w'=>e=.returned (.tuple #[.string ⟨(Lib.trimPrefix s.data.toList p.data.toList).toArray⟩,.bool (Lib.hasPrefix s.data.toList p.data.toList)])∧w'=w:=Any.strings_CutPrefix Tryz.lays103 s p w
def Tryz.laysPu14_ren:Go.Shelf.Ren:=⟨fun|14=>130|16=>139|17=>140|19=>143|20=>144|21=>145|22=>146|23=>147|24=>148|25=>149|27=>31|26=>150|28=>66|29=>105|30=>114|31=>115|32=>116|33=>117|35=>125|34=>124|36=>126|37=>127|38=>128|39=>136|40=>137|n=>n,fun|9=>9|3=>3|22=>22|24=>69|25=>180|4=>4|34=>194|5=>5|36=>174|37=>29|0=>0|39=>195|21=>21|44=>200|47=>122|50=>204|48=>202|2=>2|52=>165|55=>168|59=>177|60=>33|20=>20|61=>178|65=>192|66=>193|67=>86|n=>n,fun|0=>6|1=>7|2=>0|3=>4|4=>5|n=>n⟩
theorem Tryz.laysPu14:Go.Proofs.LaysPu.n14 Tryz.prog Tryz.laysPu14_ren := {
 mixed:=by kernel_rfl
 f14:=Tryz.func130.trans (congrArg some (by kernel_rfl))
 f16:=Tryz.func139.trans (congrArg some (by kernel_rfl))
 f17:=Tryz.func140.trans (congrArg some (by kernel_rfl))
 f19:=Tryz.func143.trans (congrArg some (by kernel_rfl))
 f20:=Tryz.func144.trans (congrArg some (by kernel_rfl))
 f21:=Tryz.func145.trans (congrArg some (by kernel_rfl))
 f22:=Tryz.func146.trans (congrArg some (by kernel_rfl))
 f23:=Tryz.func147.trans (congrArg some (by kernel_rfl))
 f24:=Tryz.func148.trans (congrArg some (by kernel_rfl))
 f25:=Tryz.func149.trans (congrArg some (by kernel_rfl))
 f26:=Tryz.func150.trans (congrArg some (by kernel_rfl))
 f27:=Tryz.func31.trans (congrArg some (by kernel_rfl))
 f28:=Tryz.func66.trans (congrArg some (by kernel_rfl))
 f29:=Tryz.func105.trans (congrArg some (by kernel_rfl))
 f30:=Tryz.func114.trans (congrArg some (by kernel_rfl))
 f31:=Tryz.func115.trans (congrArg some (by kernel_rfl))
 f32:=Tryz.func116.trans (congrArg some (by kernel_rfl))
 f33:=Tryz.func117.trans (congrArg some (by kernel_rfl))
 f34:=Tryz.func124.trans (congrArg some (by kernel_rfl))
 f35:=Tryz.func125.trans (congrArg some (by kernel_rfl))
 f36:=Tryz.func126.trans (congrArg some (by kernel_rfl))
 f37:=Tryz.func127.trans (congrArg some (by kernel_rfl))
 f38:=Tryz.func128.trans (congrArg some (by kernel_rfl))
 f39:=Tryz.func136.trans (congrArg some (by kernel_rfl))
 f40:=Tryz.func137.trans (congrArg some (by kernel_rfl))
 t0:=Tryz.underlying0
 a0:=Tryz.isAgg0
 z0:=Tryz.sizeOf0
 v0:=Tryz.zeroValue0
 i0:=by kernel_rfl
 t2:=Tryz.underlying2
 a2:=Tryz.isAgg2
 z2:=Tryz.sizeOf2
 v2:=Tryz.zeroValue2
 i2:=by kernel_rfl
 t3:=Tryz.underlying3
 a3:=Tryz.isAgg3
 z3:=Tryz.sizeOf3
 v3:=Tryz.zeroValue3
 i3:=by kernel_rfl
 t4:=Tryz.underlying4
 a4:=Tryz.isAgg4
 z4:=Tryz.sizeOf4
 v4:=Tryz.zeroValue4
 i4:=by kernel_rfl
 t5:=Tryz.underlying5
 a5:=Tryz.isAgg5
 z5:=Tryz.sizeOf5
 v5:=Tryz.zeroValue5
 i5:=by kernel_rfl
 t9:=Tryz.underlying9
 a9:=Tryz.isAgg9
 z9:=Tryz.sizeOf9
 v9:=Tryz.zeroValue9
 i9:=by kernel_rfl
 t20:=Tryz.underlying20
 a20:=Tryz.isAgg20
 z20:=Tryz.sizeOf20
 v20:=Tryz.zeroValue20
 i20:=by kernel_rfl
 t21:=Tryz.underlying21
 a21:=Tryz.isAgg21
 z21:=Tryz.sizeOf21
 v21:=Tryz.zeroValue21
 i21:=by kernel_rfl
 t22:=Tryz.underlying22
 a22:=Tryz.isAgg22
 z22:=Tryz.sizeOf22
 v22:=Tryz.zeroValue22
 i22:=by kernel_rfl
 t24:=Tryz.underlying69
 a24:=Tryz.isAgg69
 z24:=Tryz.sizeOf69
 v24:=Tryz.zeroValue69
 i24:=by kernel_rfl
 t25:=Tryz.underlying180
 a25:=Tryz.isAgg180
 z25:=Tryz.sizeOf180
 v25:=Tryz.zeroValue180
 i25:=by kernel_rfl
 t34:=Tryz.underlying194
 a34:=Tryz.isAgg194
 z34:=Tryz.sizeOf194
 v34:=Tryz.zeroValue194
 i34:=by kernel_rfl
 c34:=by kernel_rfl
 t36:=Tryz.underlying174
 a36:=Tryz.isAgg174
 z36:=Tryz.sizeOf174
 v36:=Tryz.zeroValue174
 i36:=by kernel_rfl
 t37:=Tryz.underlying29
 a37:=Tryz.isAgg29
 z37:=Tryz.sizeOf29
 v37:=Tryz.zeroValue29
 i37:=by kernel_rfl
 t39:=Tryz.underlying195
 a39:=Tryz.isAgg195
 z39:=Tryz.sizeOf195
 v39:=Tryz.zeroValue195
 i39:=by kernel_rfl
 t44:=Tryz.underlying200
 a44:=Tryz.isAgg200
 z44:=Tryz.sizeOf200
 v44:=Tryz.zeroValue200
 i44:=by kernel_rfl
 t47:=Tryz.underlying122
 a47:=Tryz.isAgg122
 z47:=Tryz.sizeOf122
 v47:=Tryz.zeroValue122
 i47:=by kernel_rfl
 t48:=Tryz.underlying202
 a48:=Tryz.isAgg202
 z48:=Tryz.sizeOf202
 v48:=Tryz.zeroValue202
 i48:=by kernel_rfl
 t50:=Tryz.underlying204
 a50:=Tryz.isAgg204
 z50:=Tryz.sizeOf204
 v50:=Tryz.zeroValue204
 i50:=by kernel_rfl
 t52:=Tryz.underlying165
 a52:=Tryz.isAgg165
 z52:=Tryz.sizeOf165
 v52:=Tryz.zeroValue165
 i52:=by kernel_rfl
 t55:=Tryz.underlying168
 a55:=Tryz.isAgg168
 z55:=Tryz.sizeOf168
 v55:=Tryz.zeroValue168
 i55:=by kernel_rfl
 t59:=Tryz.underlying177
 a59:=Tryz.isAgg177
 z59:=Tryz.sizeOf177
 v59:=Tryz.zeroValue177
 i59:=by kernel_rfl
 t60:=Tryz.underlying33
 a60:=Tryz.isAgg33
 z60:=Tryz.sizeOf33
 v60:=Tryz.zeroValue33
 i60:=by kernel_rfl
 t61:=Tryz.underlying178
 a61:=Tryz.isAgg178
 z61:=Tryz.sizeOf178
 t65:=Tryz.underlying192
 a65:=Tryz.isAgg192
 z65:=Tryz.sizeOf192
 v65:=Tryz.zeroValue192
 i65:=by kernel_rfl
 t66:=Tryz.underlying193
 a66:=Tryz.isAgg193
 z66:=Tryz.sizeOf193
 v66:=Tryz.zeroValue193
 i66:=by kernel_rfl
 t67:=Tryz.underlying86
 a67:=Tryz.isAgg86
 z67:=Tryz.sizeOf86
 v67:=Tryz.zeroValue86
 i67:=by kernel_rfl
 g0:=by kernel_rfl
 m0:=by kernel_rfl
 g1:=by kernel_rfl
 m1:=by kernel_rfl
 g2:=by kernel_rfl
 m2:=by kernel_rfl
 g3:=by kernel_rfl
 m3:=by kernel_rfl
 g4:=by kernel_rfl
 m4:=by kernel_rfl }
open Go.RowKit in
theorem Tryz.strconv_ParseUint_10_at64_ok (s:ByteArray) (hmax:s.size≤9223372036854775806) (u:Nat) (h:Lib.parseUintB 64 s.data.toList=.ok u) (w:World) :
  Calls Tryz.prog 130 #[.string s,.int .i64 10,.int .i64 64] w fun e w'=>e=.returned (.tuple #[.int .u64 u,.nilIface])∧(w'=w∨w'=Lib.bytesWorld w 5 s):=Any.strconv_ParseUint_10_at64_ok Tryz.laysPu14 s hmax u h w
open Go.RowKit in
theorem Tryz.strconv_ParseUint_10_at64_syntax (s:ByteArray) (hlim:s.size≤281474976710656) (h:Lib.parseUintB 64 s.data.toList=Lib.parseUintB 64 []) (ev:Value) (w:World) (hv:w.cell? ⟨6,0,none⟩=some ev) (hev:ev=.nilIface∨∃ te pe,ev=.iface te pe) :
  Calls Tryz.prog 130 #[.string s,.int .i64 10,.int .i64 64] w fun e w'=>∃ N,e=.returned (.tuple #[.int .u64 0,.iface 195 (.pointer (some ⟨N,0,none⟩))])∧w.heap.size≤N∧w'.heap[N]? = some (.cells #[.string ⟨#[80,97,114,115,101,85,105,110,116]⟩,.string s,ev] 200 (0,0))∧Below w.heap.size w w':=Any.strconv_ParseUint_10_at64_syntax Tryz.laysPu14 s hlim (h.trans rfl) ev w hv hev
open Go.RowKit in
theorem Tryz.strconv_ParseUint_10_at64_range (s:ByteArray) (hlim:s.size≤281474976710656) (h:Lib.parseUintB 64 s.data.toList=.range) (ev:Value) (w:World) (hv:w.cell? ⟨7,0,none⟩=some ev) (hev:ev=.nilIface∨∃ te pe,ev=.iface te pe) :
  Calls Tryz.prog 130 #[.string s,.int .i64 10,.int .i64 64] w fun e w'=>∃ N,e=.returned (.tuple #[.int .u64 18446744073709551615,.iface 195 (.pointer (some ⟨N,0,none⟩))])∧w.heap.size≤N∧w'.heap[N]? = some (.cells #[.string ⟨#[80,97,114,115,101,85,105,110,116]⟩,.string s,ev] 200 (0,0))∧Below w.heap.size w w':=Any.strconv_ParseUint_10_at64_range Tryz.laysPu14 s hlim h ev w hv hev
def Tryz.lays143_ren:Go.Shelf.Ren:=⟨fun|143=>108|219=>122|217=>132|225=>133|224=>134|267=>135|266=>141|314=>142|n=>n,fun|9=>9|3=>3|4=>4|5=>5|46=>174|146=>190|51=>33|n=>n,fun|1=>3|n=>n⟩
theorem Tryz.lays143:Go.Proofs.Lays.n143 Tryz.prog Tryz.lays143_ren := {
 mixed:=by kernel_rfl
 f143:=Tryz.func108.trans (congrArg some (by kernel_rfl))
 f217:=Tryz.func132.trans (congrArg some (by kernel_rfl))
 f219:=Tryz.func122.trans (congrArg some (by kernel_rfl))
 f224:=Tryz.func134.trans (congrArg some (by kernel_rfl))
 f225:=Tryz.func133.trans (congrArg some (by kernel_rfl))
 f266:=Tryz.func141.trans (congrArg some (by kernel_rfl))
 f267:=Tryz.func135.trans (congrArg some (by kernel_rfl))
 f314:=Tryz.func142.trans (congrArg some (by kernel_rfl))
 t3:=Tryz.underlying3
 a3:=Tryz.isAgg3
 z3:=Tryz.sizeOf3
 v3:=Tryz.zeroValue3
 t4:=Tryz.underlying4
 a4:=Tryz.isAgg4
 z4:=Tryz.sizeOf4
 v4:=Tryz.zeroValue4
 t5:=Tryz.underlying5
 a5:=Tryz.isAgg5
 z5:=Tryz.sizeOf5
 v5:=Tryz.zeroValue5
 t9:=Tryz.underlying9
 a9:=Tryz.isAgg9
 z9:=Tryz.sizeOf9
 v9:=Tryz.zeroValue9
 t46:=Tryz.underlying174
 a46:=Tryz.isAgg174
 z46:=Tryz.sizeOf174
 v46:=Tryz.zeroValue174
 t51:=Tryz.underlying33
 a51:=Tryz.isAgg33
 z51:=Tryz.sizeOf33
 v51:=Tryz.zeroValue33
 t146:=Tryz.underlying190
 a146:=Tryz.isAgg190
 z146:=Tryz.sizeOf190
 v146:=Tryz.zeroValue190
 g1:=by kernel_rfl }
open Go.RowKit Go.Lib in
theorem Tryz.strings_Index_one (s:ByteArray) (c:UInt8) (w:World) :
  Calls Tryz.prog 108 #[.string s,.string ⟨#[c]⟩] w fun e w'=>e=.returned (.int .i64 (Lib.indexByte s.data.toList c))∧w'=w:=Any.strings_Index_one Tryz.lays143 s c w
end Go.Proofs

namespace Go.Proofs.YtgmkbdmgifdfeaaGreatDoor
open Go Go.Ev
noncomputable def tbz:Tabs:=mkTabs Tryz.prog 8 .lf
theorem ov0 (f:Nat):tbz.ov.get f=none:=T.get_lf f
theorem fget0 {f:Nat} {fd:Func} (h:Tryz.prog.funcs[f]? = some fd):tbz.funcs.get f=some fd:=by
 simp only [tbz,mkTabs,T.get_ofList]
 simpa using h
theorem ti_tv0 {t:Nat} (h:(Nat.blt t Tryz.prog.types.size&&(mkTI Tryz.prog t).isSome)=true):ti tbz t=some (tv t):=ti_tvP h
namespace Ty0
theorem ti3:ti tbz 3=some (tv 3):=ti_tv0 (by kernel_rfl)
theorem ti5:ti tbz 5=some (tv 5):=ti_tv0 (by kernel_rfl)
theorem ti27:ti tbz 27=some (tv 27):=ti_tv0 (by kernel_rfl)
theorem ti29:ti tbz 29=some (tv 29):=ti_tv0 (by kernel_rfl)
theorem ti34:ti tbz 34=some (tv 34):=ti_tv0 (by kernel_rfl)
theorem ti36:ti tbz 36=some (tv 36):=ti_tv0 (by kernel_rfl)
theorem ti56:ti tbz 56=some (tv 56):=ti_tv0 (by kernel_rfl)
theorem ti57:ti tbz 57=some (tv 57):=ti_tv0 (by kernel_rfl)
theorem ti110:ti tbz 110=some (tv 110):=ti_tv0 (by kernel_rfl)
end Ty0
open Ty0 in
attribute [simp] ti3 ti5 ti27 ti29 ti34 ti36 ti56 ti57 ti110
theorem callsS0 {f:FuncId} {fd:Func} {s:SCode} {n:Nat} {rs:List ResultVar} {args:List Value} {m:Mem} {R:OutA→Mem→Prop} (hf:Tryz.prog.funcs[f]? = some fd) (he:fd.body.map strip=some s) (hn:fd.ntmps=n) (hr:fd.results.toList=rs)
  (h:wpX tbz ⟨f,.normal,none⟩ s (args++List.replicate (n-args.length) undef) [] m (endX tbz rs R)):CallsA tbz f args m R:=by
 cases hb:fd.body with
 |none=>rw [hb] at he;cases he
 |some c =>
  rw [hb] at he
  exact callsZ (fget0 hf) hb (Option.some.inj he) hn hr h
theorem b_remN (m:Mem) (t:TypeId) (x y:Operand) (k:IntKind) (a b:Nat) (hb:0<b):binA tbz m .rem t x y (.int k (a:Int)) (.int k (b:Int))=some (.int k ((a%b:Nat):Int)):=by
 obtain⟨b,rfl⟩:∃ c,b=c+1:=⟨b-1,by omega⟩
 simp only [binA,kEq_self,intOp]
 show oI k (remI (.ofNat a) (.ofNat (b+1)))=_
 simp only [remI,oI,vInt_eq];rfl
theorem xseqM {tb:Tabs} {F:FC} {a b:SCode} {l:List Value} {ds:List Deferred} {m:Mem} {Q:PostA} (PS:List Value→List Deferred→Mem→Prop) (g:∀ l' ds' m',PS l' ds' m'→wpX tb F b l' ds' m' Q) (h:wpX tb F a l ds m (thenA PS Q)):wpX tb F (.seq a b) l ds m Q :=
 xseq (h.mono fun e l' ds' m' h=>by
  cases e with
  |normal=>exact g _ _ _ h
  |_=>exact h)
theorem ln_suc {α : Type} {l:List α} {n:Nat} (h:l.length=n+1):∃ x t,l=x::t∧t.length=n:=by
 cases l with
 |nil=>simp at h
 |cons x t=>exact⟨x,t,rfl,by simpa using h⟩
theorem byteMark_ok {m:Mem} {k:Nat} (hk:k≤4611686018427387904):CallsA tbz 43 [.int .i64 (k:Int)] m (retR fun r m'=>r=.int .u8 ((k%251+1:Nat):Int)∧m'=m):=by
 refine callsS0 Tryz.func43 e43 rfl rfl ?_
 simp only [s43,List.length_cons,List.length_nil,List.cons_append,List.nil_append,Nat.reduceAdd]
 refine xsr fun Q' hQ=>?_
 simp
 subst hQ
 refine xsr fun Q' hQ=>?_
 have h1:∀ x y:Operand,binA tbz m .rem 3 x y (.int .i64 (k:Int)) (.int .i64 251)=some (.int .i64 ((k%251:Nat):Int)):=fun x y=>b_remN m 3 x y .i64 k 251 (by decide)
 have h2:IntKind.wrap .i64 (((k%251:Nat):Int)+1)=((k%251+1:Nat):Int):=by rw [wr64 _ (by omega) (by omega)];rfl
 have h3:IntKind.wrap .u8 ((k%251+1:Nat):Int)=((k%251+1:Nat):Int):=wru8 _ (by omega) (by omega)
 simp [h1,h2,h3,-Int.natCast_emod,-Int.natCast_add]
 subst hQ
 exact xret ⟨rfl,_,resX_one _,rfl,rfl⟩
theorem intMark_ok {m:Mem} {k:Nat} (hk:k≤4611686018427387904):CallsA tbz 44 [.int .i64 (k:Int)] m (retR fun r m'=>r=.int .i64 (-1000-(k:Int))∧m'=m):=by
 refine callsS0 Tryz.func44 e44 rfl rfl ?_
 simp only [s44,List.length_cons,List.length_nil,List.cons_append,List.nil_append,Nat.reduceAdd]
 refine xsr fun Q' hQ=>?_
 simp
 subst hQ
 refine xsr fun Q' hQ=>?_
 simp
 rw [wr64 _ (by omega) (by omega)]
 subst hQ
 exact xret ⟨rfl,_,resX_one _,rfl,rfl⟩
end Go.Proofs.YtgmkbdmgifdfeaaGreatDoor

set_option maxRecDepth 8000
namespace Go.Proofs.YtgmkbdmgifdfeaaGreatDoor
open Go Go.Ev
def bmk (k:Nat):Value:=.int .u8 ((k%251+1:Nat):Int)
def _root_.Go.Ev.Enf.n:Enf→Nat
 | .nil=>0
 | .own _=>0
 | .fix _ _ n _=>n
theorem enf_shape (a:Enf):∃ ad c,a.v=.slice ad a.n c:=by
 cases a with
 |nil=>exact⟨_,_,rfl⟩
 |own b=>exact⟨_,_,rfl⟩
 |fix q o n c=>exact⟨_,_,rfl⟩
def rep:Nat→List Value→List Value
 |0,_=>[]
 |w+1,v=>rep w v++v
theorem rep_len (w:Nat) (v:List Value):(rep w v).length=w*v.length:=by
 induction w with
 |zero=>simp [rep]
 |succ w ih=>simp [rep,ih,Nat.succ_mul]
theorem rep_get {v:List Value} {i:Nat} (hi:i<v.length):∀ {w j:Nat},j<w→(rep w v)[j*v.length+i]? = v[i]? := by
 intro w
 induction w with
 |zero=>intro j h;omega
 |succ w ih =>
  intro j h
  rw [rep]
  by_cases h2:j<w
  ·have h3:(j+1)*v.length≤w*v.length:=Nat.mul_le_mul_right _ h2
   rw [Nat.succ_mul] at h3
   rw [List.getElem?_append_left (by rw [rep_len];omega),ih h2]
  ·obtain rfl:j=w:=by omega
   rw [List.getElem?_append_right (by rw [rep_len];omega),rep_len]
   congr 1;omega
theorem rep_pre {v:List Value} {k:Nat} {u:Value} {w:Nat}:∀ {w':Nat},w≤w'→(rep w v)[k]? = some u→(rep w' v)[k]? = some u:=by
 intro w'
 induction w' with
 |zero=>intro h h2;obtain rfl:w=0:=by omega
        exact h2
 |succ w' ih =>
  intro h h2
  by_cases e:w=w'+1
  ·subst e;exact h2
  ·have:=ih (by omega) h2
   rw [rep,List.getElem?_append_left (List.getElem?_eq_some_iff.1 this).1,this]
def knL (o:Nat) (L:List Value) (y:Nat):Option Value:=if o≤y then L[y-o]? else none
theorem knL_app {o p:Nat} {L new:List Value} (hL:L.length=p) (y:Nat):(if o+p≤y∧y<o+p+new.length then new[y-(o+p)]? else knL o L y)=knL o (L++new) y:=by
 subst hL
 unfold knL
 by_cases h1:o≤y
 ·rw [if_pos h1,if_pos h1]
  by_cases h2:y-o<L.length
  ·rw [if_neg (by omega),List.getElem?_append_left h2]
  ·rw [List.getElem?_append_right (by omega)]
   by_cases h3:y<o+L.length+new.length
   ·rw [if_pos ⟨by omega,h3⟩];congr 1;omega
   ·rw [if_neg (by omega),List.getElem?_eq_none (by omega),List.getElem?_eq_none (by omega)]
 ·rw [if_neg (by omega),if_neg h1,if_neg h1]
theorem knL_pre {o w w':Nat} {v:List Value} (h:w≤w') (y:Nat) (u:Value) (hu:knL o (rep w v) y=some u):knL o (rep w' v) y=some u:=by
 unfold knL at hu ⊢
 by_cases h1:o≤y
 ·rw [if_pos h1] at hu ⊢;exact rep_pre h hu
 ·rw [if_neg h1] at hu;cases hu
def Lst (m:Mem) (e:TypeId) (v:List Value) (w:Nat):Enf→Prop
 | .nil=>True
 | .own b=>b<m.next∧vw m b=some ⟨true,e,true,[]⟩
 | .fix q o n c=>0<n∧n≤c∧q<m.next∧w≤n∧Pr m q (o+c*v.length) e (knL o (rep w v))
theorem Lst.ex {m m':Mem} {e:TypeId} {v:List Value} {w:Nat} {a:Enf} (h:Lst m e v w a) (hn:m.next≤m'.next) (hg:∀ x∈a.blk,m'.objs.get x=m.objs.get x):Lst m' e v w a:=by
 cases a with
 |nil=>trivial
 |own b =>
  obtain⟨h1,h2⟩:=h
  refine⟨by omega,?_⟩
  unfold vw at h2 ⊢
  rw [hg b (by simp [Enf.blk])];exact h2
 |fix q o n c =>
  obtain⟨h1,h2,h3,h4,h5⟩:=h
  exact⟨h1,h2,by omega,h4,h5.ex (hg q (by simp [Enf.blk]))⟩
theorem Lst.of {m:Mem} {e:TypeId} {sz:Nat} {a:Enf} {v:List Value} (hv:v.length=sz) (h:EnfOk m e sz a):Lst m e v 0 a:=by
 subst hv
 cases a with
 |nil=>trivial
 |own b=>exact h
 |fix q o n c =>
  obtain⟨h1,h2,h0,h3,h4⟩:=h
  exact⟨h1,h2,h3,Nat.zero_le _,(Pr.bare h4).less fun j u hj=>by simp [knL,rep] at hj⟩
theorem blk_ne {l:List Enf} (hd:(l.flatMap Enf.blk).Nodup):∀ {j k:Nat} {a b:Enf},l[j]? = some a→l[k]? = some b→j≠k→∀ x∈a.blk,x∉b.blk:=by
 induction l with
 |nil=>intro j k a b h;simp at h
 |cons c l ih =>
  intro j k a b hj hk hne x hx hx2
  simp only [List.flatMap_cons,List.nodup_append] at hd
  obtain⟨d1,d2,d3⟩:=hd
  cases j with
  |zero =>
   cases k with
   |zero=>exact hne rfl
   |succ k =>
    cases hj
    exact d3 x hx x (List.mem_flatMap.2 ⟨b,List.mem_of_getElem? (by simpa using hk),hx2⟩) rfl
  |succ j =>
   cases k with
   |zero =>
    cases hk
    exact d3 x hx2 x (List.mem_flatMap.2 ⟨a,List.mem_of_getElem? (by simpa using hj),hx⟩) rfl
   |succ k=>exact ih d2 (by simpa using hj) (by simpa using hk) (by omega) x hx hx2
def Lol (m:Mem) (te:TypeId) (arg:Value) (l:List Enf):Prop:=(arg=.slice none 0 0∧l=[])∨∃ lb x,arg=.slice (some ⟨lb,0,none⟩) l.length l.length∧lb<m.next∧vw m lb=some ⟨true,te,x,l.map Enf.v⟩∧lb∉l.flatMap Enf.blk
theorem Lol.ex {m m':Mem} {te:TypeId} {arg:Value} {l:List Enf} (h:Lol m te arg l) (hn:m.next≤m'.next) (hg:∀ x,x<m.next→x∉l.flatMap Enf.blk→m'.objs.get x=m.objs.get x):Lol m' te arg l:=by
 rcases h with h|⟨lb,x,h1,h2,h3,h4⟩
 ·exact .inl h
 ·refine .inr ⟨lb,x,h1,by omega,?_,h4⟩
  unfold vw at h3 ⊢
  rw [hg lb h2 h4];exact h3
theorem Lol.at {m:Mem} {te:TypeId} {arg:Value} {l:List Enf} (h:Lol m te arg l) {k:Nat} {a:Enf} (hk:l[k]? = some a) :
  ∃ lb,arg=.slice (some ⟨lb,0,none⟩) l.length l.length∧∀ {t:TypeId} {i:TI},ti tbz t=some i→i.agg=false→opLoad tbz t m (.pointer (some ⟨lb,k,none⟩))=.r a.v:=by
 rcases h with ⟨_,rfl⟩|⟨lb,x,h1,h2,h3,h4⟩
 ·simp at hk
 ·refine⟨lb,h1,fun {t} {i} hi ha=>?_⟩
  obtain⟨r,g1,g2,g3,g4,g5,g6,-⟩:=vw_spec h3
  have:cellAt r k=some a.v:=by rw [g6];simp [hk]
  simp only [opLoad,loadA,hi,oB,g1,ha,this,oR]
theorem Lol.shape {m:Mem} {te:TypeId} {arg:Value} {l:List Enf} (h:Lol m te arg l):∃ ad,arg=.slice ad l.length l.length:=by
 rcases h with ⟨rfl,rfl⟩|⟨lb,x,rfl,_⟩
 ·exact⟨none,rfl⟩
 ·exact⟨_,rfl⟩
structure Mk (m0:Mem) (te e:TypeId) (mk:Nat→List Value) (arg:Value) (l:List Enf) (i j:Nat) (m:Mem):Prop where
 next:m.next=m0.next
 old:∀ x,x∉l.flatMap Enf.blk→m.objs.get x=m0.objs.get x
 lol:Lol m te arg l
 lst:∀ k a,l[k]? = some a→Lst m e (mk k) (if k<i then a.n else if k=i then j else 0) a
theorem Mk.store {m0 m:Mem} {te e:TypeId} {mk:Nat→List Value} {arg:Value} {l:List Enf} {i j sz:Nat} (h:Mk m0 te e mk arg l i j m) (hsz:(mk i).length=sz) (hd:(l.flatMap Enf.blk).Nodup) {a:Enf} (ha:l[i]? = some a) (hj:j<a.n) {V:Value} (ho:(mk i).all oneC=true) (hc:cellsOfV V=mk i) :
  ∃ q o c,a.v=.slice (some ⟨q,o,none⟩) a.n c∧∀ {t:TypeId} {ii:TI},ti tbz t=some ii→ii.inf.size=sz→∃ m',opStore tbz t m (.pointer (some ⟨q,o+j*sz,none⟩)) V=.e undef m'∧Mk m0 te e mk arg l i (j+1) m':=by
 have hl:=h.lst i a ha
 rw [if_neg (by omega),if_pos rfl] at hl
 cases a with
 |nil=>simp [Enf.n] at hj
 |own b=>simp [Enf.n] at hj
 |fix q o n c =>
  simp only [Enf.n] at hj
  obtain⟨h1,h2,h3,h4,h5⟩:=hl
  refine⟨q,o,c,rfl,fun {t} {ii} hi hs=>?_⟩
  have hjc:(j+1)*sz≤c*sz:=Nat.mul_le_mul_right _ (by omega)
  rw [Nat.succ_mul] at hjc
  obtain⟨m',g1,g2,g3,g4⟩:=h5.store (j:=o+j*sz) (l:=mk i) (by rw [hsz];omega) ho
  have hq:q∈l.flatMap Enf.blk:=List.mem_flatMap.2 ⟨_,List.mem_of_getElem? ha,by simp [Enf.blk]⟩
  refine⟨m',?_,by rw [g2];exact h.next,fun x hx=>?_,h.lol.ex (by omega) (fun x _ hx=>g3 x (fun e=>hx (e▸hq))),fun k b hk=>?_⟩
  ·have hb:Nat.beq (cellsOfV V).length ii.inf.size=true:=by rw [hc,hs,hsz];simp
   simp only [opStore,storeA,hi,oB,hb]
   rw [hc,g1];rfl
  ·rw [g3 x (fun e=>hx (e▸hq))];exact h.old x hx
  ·by_cases e:k=i
   ·subst e
    rw [ha] at hk;cases hk
    rw [if_neg (by omega),if_pos rfl]
    refine⟨h1,h2,by omega,by omega,g4.less fun y u hu=>?_⟩
    rw [knL_app (by rw [rep_len,hsz])]
    exact hu
   ·have hb:=h.lst k b hk
    have:(if k<i then b.n else if k=i then j+1 else 0)=(if k<i then b.n else if k=i then j else 0):=by
     rw [if_neg e,if_neg e]
    rw [this]
    refine hb.ex (by omega) fun x hx=>g3 x ?_
    rintro rfl
    exact blk_ne hd hk ha e x hx (by simp [Enf.blk])
end Go.Proofs.YtgmkbdmgifdfeaaGreatDoor

set_option maxRecDepth 8000
namespace Go.Proofs.YtgmkbdmgifdfeaaGreatDoor
open Go Go.Ev
def Rd (m:Mem) (e:TypeId) (v:List Value):Enf→Prop
 | .fix q o n c=>0<n∧n≤c∧q<m.next∧Pr m q (o+c*v.length) e (knL o (rep n v))
 |_=>True
theorem Rd.ex {m m':Mem} {e:TypeId} {v:List Value} {a:Enf} (h:Rd m e v a) (hn:m.next≤m'.next) (hg:∀ x∈a.blk,m'.objs.get x=m.objs.get x):Rd m' e v a:=by
 cases a with
 |fix q o n c=>exact⟨h.1,h.2.1,by have:=h.2.2.1;omega,h.2.2.2.ex (hg q (by simp [Enf.blk]))⟩
 |_=>trivial
theorem Rd.of {m:Mem} {e:TypeId} {v:List Value} {a:Enf} (h:Lst m e v a.n a):Rd m e v a:=by
 cases a with
 |fix q o n c=>exact⟨h.1,h.2.1,h.2.2.1,h.2.2.2.2⟩
 |_=>trivial
def Cur (lo:Nat) (m:Mem) (e:TypeId) (v:List Value) (a:Enf) (t:Nat) (g:Value):Prop :=
 Rd m e v a∧((∃ q o n c,a=.fix q o n c∧g=.slice (some ⟨q,o,none⟩) (n+t) c∧n+t≤c∧Pr m q (o+c*v.length) e (knL o (rep (n+t) v))) ∨
  (a=.nil∧t=0∧g=.slice none 0 0)∨(∃ b,a=.own b∧t=0∧g=.slice (some ⟨b,0,none⟩) 0 0∧b<m.next∧vw m b=some ⟨true,e,true,[]⟩) ∨
  (∃ b,g=.slice (some ⟨b,0,none⟩) (a.n+t) (a.n+t)∧lo≤b∧b<m.next∧vw m b=some ⟨true,e,true,rep (a.n+t) v⟩))
theorem Cur.shape {lo:Nat} {m:Mem} {e:TypeId} {v:List Value} {a:Enf} {t:Nat} {g:Value} (h:Cur lo m e v a t g):∃ ad c,g=.slice ad (a.n+t) c:=by
 rcases h.2 with ⟨q,o,n,c,rfl,rfl,_⟩|⟨rfl,rfl,rfl⟩|⟨b,rfl,rfl,rfl,_⟩|⟨b,rfl,_⟩
 ·exact⟨_,_,rfl⟩
 ·exact⟨_,_,rfl⟩
 ·exact⟨_,_,rfl⟩
 ·exact⟨_,_,rfl⟩
theorem Cur.ex {lo:Nat} {m m':Mem} {e:TypeId} {v:List Value} {a:Enf} {t:Nat} {g:Value} (h:Cur lo m e v a t g) (hn:m.next≤m'.next) (hg:∀ x∈a.blk,m'.objs.get x=m.objs.get x) (hb:∀ x,blkV g=some x→lo≤x→x<m.next→(∃ cs,vw m x=some ⟨true,e,true,cs⟩)→m'.objs.get x=m.objs.get x):Cur lo m' e v a t g:=by
 refine⟨h.1.ex hn hg,?_⟩
 rcases h.2 with ⟨q,o,n,c,rfl,h1,h2,h3⟩|h1|⟨b,rfl,h1,h2,h3,h4⟩|⟨b,h1,h2,h3,h4⟩
 ·exact .inl ⟨q,o,n,c,rfl,h1,h2,h3.ex (hg q (by simp [Enf.blk]))⟩
 ·exact .inr (.inl h1)
 ·refine .inr (.inr (.inl ⟨b,rfl,h1,h2,by omega,?_⟩))
  unfold vw at h4 ⊢
  rw [hg b (by simp [Enf.blk])];exact h4
 ·refine .inr (.inr (.inr ⟨b,h1,h2,by omega,?_⟩))
  have h5:=hb b (by rw [h1];rfl) h2 h3 ⟨_,h4⟩
  unfold vw at h4 ⊢
  rw [h5];exact h4
theorem Cur.start {lo:Nat} {m:Mem} {e:TypeId} {v:List Value} {a:Enf} (h:Lst m e v a.n a):Cur lo m e v a 0 a.v:=by
 refine⟨Rd.of h,?_⟩
 cases a with
 |nil=>exact .inr (.inl ⟨rfl,rfl,rfl⟩)
 |own b=>exact .inr (.inr (.inl ⟨b,rfl,rfl,rfl,h.1,h.2⟩))
 |fix q o n c=>exact .inl ⟨q,o,n,c,rfl,rfl,h.2.1,h.2.2.2.2⟩
theorem Cur.app {lo:Nat} {m:Mem} {e:TypeId} {v:List Value} {sz:Nat} {a:Enf} {t:Nat} {g:Value} (h:Cur lo m e v a t g) (hsz:v.length=sz) (h0:0<sz) (hlo:lo≤m.next) (ho:v.all oneC=true) (hb:∀ x∈a.blk,x<lo) :
  ∃ g' m',appendTo m e sz g 1 v=some (g',m')∧Cur lo m' e v a (t+1) g'∧m.next≤m'.next∧∀ x,x<lo→x∉a.blk→m'.objs.get x=m.objs.get x:=by
 subst hsz
 obtain⟨hR,hc⟩:=h
 have hne:v≠[]:=fun e=>by subst e;simp at h0
 have new:∀ {m1:Mem} {g':Value},(∀ x∈a.blk,(∃ q o n c,a=.fix q o n c)→m1.objs.get x=m.objs.get x)→m1.next=m.next+1→g'=.slice (some ⟨m.next,0,none⟩) (a.n+(t+1)) (a.n+(t+1))→vw m1 m.next=some ⟨true,e,true,rep (a.n+(t+1)) v⟩→Cur lo m1 e v a (t+1) g':=by
  intro m1 g' h1 h2 h3 h4
  refine⟨?_,.inr (.inr (.inr ⟨m.next,h3,hlo,by omega,h4⟩))⟩
  cases a with
  |fix q o n c=>exact hR.ex (by omega) fun x hx=>h1 x hx ⟨_,_,_,_,rfl⟩
  |_=>trivial
 rcases hc with ⟨q,o,n,c,rfl,rfl,h2,h3⟩|⟨rfl,rfl,rfl⟩|⟨b,rfl,rfl,rfl,h3,h4⟩|⟨b,rfl,h2,h3,h4⟩
 ·by_cases hf:n+t+(0+1)≤c
  ·obtain⟨m',k1,k2,k3,k4⟩:=h3.append (o:=o) (n:=n+t) (c:=c) (sz:=v.length) (k:=0) (new:=v) hf (Nat.le_refl _) (by simp) h0 ho
   have k5:Pr m' q (o+c*v.length) e (knL o (rep (n+(t+1)) v)):=k4.less fun y u hu=>by
    rw [knL_app (by rw [rep_len])];exact hu
   refine⟨_,m',k1,⟨?_,.inl ⟨q,o,n,c,rfl,by rw [Nat.zero_add,Nat.add_assoc],by omega,k5⟩⟩,by omega,fun x hx hxb=>k3 x (by simpa [Enf.blk] using hxb)⟩
   exact⟨hR.1,hR.2.1,by have:=hR.2.2.1;omega,k5.less fun y u hu=>knL_pre (by omega) y u hu⟩
  ·have k1:=h3.grow (o:=o) (n:=n+t) (c:=c) (sz:=v.length) (k:=1) (old:=rep (n+t) v) (new:=v) hf (rep_len _ _) (fun j hj=>by
    unfold knL;rw [if_pos (by omega)];congr 1;omega)
   refine⟨_,_,k1,new (fun x hx _=>?_) rfl (by simp only [Enf.n];rw [Nat.add_assoc]) ?_,by rw [next_newObjA];omega,fun x hx hxb=>?_⟩
   ·rw [get_newObjA,if_neg (by have:=hb x hx;omega)]
   ·rw [vw_new,if_pos rfl,vwO_rowObj,Enf.n,show n+(t+1)=n+t+1 by omega,rep]
   ·rw [get_newObjA,if_neg (by omega)]
 ·refine⟨_,_,ap_first' e v.length 0 v,new (fun x hx _=>by simp [Enf.blk] at hx) (growM_next _ _ _) (by simp [Enf.n]) ?_,by rw [growM_next];omega,fun x hx hxb=>?_⟩
  ·rw [vw_growM,if_pos rfl];simp [Enf.n,rep]
  ·exact growM_get _ _ _ (by omega) (by simp)
 ·have k1:=at_W (m:=m) e v.length b 0 none 0 0 1 v
  rw [h4,atW_some] at k1
  simp only [Nat.zero_add] at k1
  rw [if_neg (by omega),if_neg (by simp),if_pos ⟨trivial,trivial,trivial,by omega,by simp,trivial,by simp,ho⟩] at k1
  refine⟨_,_,k1,new (fun x hx hq=>by obtain⟨_,_,_,_,h⟩:=hq;cases h) (growM_next _ _ _) (by simp [Enf.n]) ?_,by rw [growM_next];omega,fun x hx hxb=>?_⟩
  ·rw [vw_growM,if_pos rfl];simp [Enf.n,takeN,rep]
  ·refine growM_get _ _ _ (by omega) ?_
   simp only [Enf.blk,List.mem_singleton] at hxb
   intro e2;cases e2;exact hxb rfl
 ·have k1:=at_W (m:=m) e v.length b 0 none (a.n+t) (a.n+t) 1 v
  rw [h4,atW_some] at k1
  simp only at k1
  rw [if_neg (by omega),if_neg (by simp),if_pos ⟨trivial,trivial,trivial,Nat.le_refl _,by simp [rep_len],trivial,by simp,ho⟩] at k1
  refine⟨_,_,k1,new (fun x hx _=>?_) (growM_next _ _ _) (by rw [Nat.add_assoc]) ?_,by rw [growM_next];omega,fun x hx hxb=>?_⟩
  ·refine growM_get _ _ _ (by have:=hb x hx;omega) ?_
   intro e2;cases e2;have:=hb _ hx;omega
  ·rw [vw_growM,if_pos rfl,show a.n+(t+1)=a.n+t+1 by omega,rep,← rep_len]
   simp [takeN]
  ·refine growM_get _ _ _ (by omega) ?_
   intro e2;cases e2;omega
theorem Cur.read {lo:Nat} {m:Mem} {e:TypeId} {v:List Value} {sz:Nat} {a:Enf} {g:Value} (h:Cur lo m e v a 64 g) (hsz:v.length=sz) {j i:Nat} {u:Value} (hj:j<a.n+64) (hu:v[i]? = some u) :
  ∃ b o c,g=.slice (some ⟨b,o,none⟩) (a.n+64) c∧∀ {t:TypeId} {ii:TI} {s:Option Nat},ti tbz t=some ii→ii.agg=false→opLoad tbz t m (.pointer (some ⟨b,o+j*sz+i,s⟩))=.r u:=by
 subst hsz
 have hi:=(List.getElem?_eq_some_iff.1 hu).1
 rcases h.2 with ⟨q,o,n,c,rfl,h1,h2,h3⟩|⟨_,h1,_⟩|⟨b,_,h1,_⟩|⟨b,h1,h2,h3,h4⟩
 ·refine⟨q,o,c,h1,fun {t} {ii} {s} hi' ha=>h3.load ?_ hi' ha⟩
  simp only [Enf.n] at hj
  unfold knL
  rw [if_pos (by omega),show o+j*v.length+i-o=j*v.length+i by omega,rep_get hi hj,hu]
 ·omega
 ·omega
 ·refine⟨b,0,a.n+64,h1,fun {t} {ii} {s} hi' ha=>?_⟩
  obtain⟨r,g1,g2,g3,g4,g5,g6,-⟩:=vw_spec h4
  have:cellAt r (0+j*v.length+i)=some u:=by rw [g6,Nat.zero_add,rep_get hi hj,hu]
  simp only [opLoad,loadA,hi',oB,g1,ha,this,oR]
theorem Rd.read {m:Mem} {e:TypeId} {v:List Value} {sz:Nat} {a:Enf} (h:Rd m e v a) (hsz:v.length=sz) {j i:Nat} {u:Value} (hj:j<a.n) (hu:v[i]? = some u) :
  ∃ b o c,a.v=.slice (some ⟨b,o,none⟩) a.n c∧∀ {t:TypeId} {ii:TI} {s:Option Nat},ti tbz t=some ii→ii.agg=false→opLoad tbz t m (.pointer (some ⟨b,o+j*sz+i,s⟩))=.r u:=by
 subst hsz
 have hi:=(List.getElem?_eq_some_iff.1 hu).1
 cases a with
 |fix q o n c =>
  simp only [Enf.n] at hj
  exact⟨q,o,c,rfl,fun {t} {ii} {s} hi' ha=>h.2.2.2.load (by
   unfold knL
   rw [if_pos (by omega),show o+j*v.length+i-o=j*v.length+i by omega,rep_get hi hj,hu]) hi' ha⟩
 |_=>simp [Enf.n] at hj
theorem own_read {n0 n:Nat} {m:Mem} {v:Value} {te:TypeId} {gs:List Value} (h:Own n0 m v te n gs) {k:Nat} {g:Value} (hk:gs[k]? = some g) :
  ∃ b,v=.slice (some ⟨b,0,none⟩) n n∧∀ {t:TypeId} {i:TI},ti tbz t=some i→i.agg=false→opLoad tbz t m (.pointer (some ⟨b,k,none⟩))=.r g:=by
 rcases h with ⟨_,_,rfl⟩|⟨b,h1,h2,h3,h4⟩
 ·simp at hk
 ·refine⟨b,h1,fun {t} {i} hi ha=>?_⟩
  obtain⟨r,g1,g2,g3,g4,g5,g6,-⟩:=vw_spec h4
  have:cellAt r k=some g:=by rw [g6];exact hk
  simp only [opLoad,loadA,hi,oB,g1,ha,this,oR]
structure Grown (m0:Mem) (te e:TypeId) (mk:Nat→List Value) (arg:Value) (l:List Enf) (i:Nat) (gs:List Value) (gv:Value) (m:Mem):Prop where
 next:m0.next≤m.next
 old:∀ x,x<m0.next→x∉l.flatMap Enf.blk→m.objs.get x=m0.objs.get x
 lol0:Lol m0 te arg l
 own:Own m0.next m gv te i gs
 len:gs.length=i
 cur:∀ k a,l[k]? = some a→k<i→∃ g,gs[k]? = some g∧Cur m0.next m e (mk k) a 64 g
 lst:∀ k a,l[k]? = some a→i≤k→Lst m e (mk k) a.n a
theorem Grown.lol {m0 m:Mem} {te e:TypeId} {mk:Nat→List Value} {arg:Value} {l:List Enf} {i:Nat} {gs:List Value} {gv:Value} (h:Grown m0 te e mk arg l i gs gv m):Lol m te arg l:=h.lol0.ex h.next fun x hx hxl=>h.old x hx hxl
theorem Grown.start {m0 m:Mem} {te e:TypeId} {mk:Nat→List Value} {arg:Value} {l:List Enf} (h0:Lol m0 te arg l) (h:Mk m0 te e mk arg l l.length 0 m):Grown m0 te e mk arg l 0 [] (.slice none 0 0) m :=
 ⟨by rw [h.next];exact Nat.le_refl _,fun x _ hx=>h.old x hx,h0,.inl ⟨rfl,rfl,rfl⟩,rfl,fun k a _ hk=>by omega,fun k a hk _=>by
  have:=h.lst k a hk
  rwa [if_pos (List.getElem?_eq_some_iff.1 hk).1] at this⟩
theorem Cur.lower {lo lo':Nat} {m:Mem} {e:TypeId} {v:List Value} {a:Enf} {t:Nat} {g:Value} (h:Cur lo m e v a t g) (hl:lo'≤lo):Cur lo' m e v a t g:=by
 refine⟨h.1,?_⟩
 rcases h.2 with h1|h1|h1|⟨b,h1,h2,h3⟩
 ·exact .inl h1
 ·exact .inr (.inl h1)
 ·exact .inr (.inr (.inl h1))
 ·exact .inr (.inr (.inr ⟨b,h1,by omega,h3⟩))
theorem own_ex {n0 n:Nat} {m m':Mem} {v:Value} {e:TypeId} {cells:List Value} (h:Own n0 m v e n cells) (hn:m.next≤m'.next) (k:∀ x,x<m.next→n0≤x→vw m x=some ⟨true,e,true,cells⟩→m'.objs.get x=m.objs.get x):Own n0 m' v e n cells:=by
 rcases h with h|⟨b,h1,h2,h3,h4⟩
 ·exact .inl h
 ·refine .inr ⟨b,h1,h2,by omega,?_⟩
  have:=k b h3 h2 h4
  unfold vw at h4 ⊢;rw [this];exact h4
theorem Grown.step {m0 m m2:Mem} {te e:TypeId} {mk:Nat→List Value} {arg:Value} {l:List Enf} {i:Nat} {gs:List Value} {gv:Value} (h:Grown m0 te e mk arg l i gs gv m) (hd:(l.flatMap Enf.blk).Nodup) (hb:∀ {k:Nat} {a:Enf},l[k]? = some a→∀ x∈a.blk,x<m0.next)
  {a:Enf} (ha:l[i]? = some a) (hn:m.next≤m2.next) (hfr:∀ x,x<m.next→x∉a.blk→m2.objs.get x=m.objs.get x) {g:Value} (hC:Cur m.next m2 e (mk i) a 64 g) (hte:te≠e) (ob:AObj) :
  ∃ gv' m3,appendTo (newObjA m2 ob) te 1 gv 1 [g]=some (gv',m3)∧Grown m0 te e mk arg l (i+1) (gs++[g]) gv' m3:=by
 have hm:=h.next
 have hin:∀ {x},x∈a.blk→x∈l.flatMap Enf.blk:=fun {x} hx=>List.mem_flatMap.2 ⟨a,List.mem_of_getElem? ha,hx⟩
 have hown2:Own m0.next m2 gv te i gs:=own_ex h.own hn fun x hx h0 _=>hfr x hx fun hxa=>by have:=hb ha x hxa;omega
 obtain⟨ag,cg,hgv⟩:=hC.shape
 have hone:[g].all oneC=true:=by rw [hgv];rfl
 obtain⟨gv',m3,k1,k2,k3,k4,-⟩:=hown2.append (k:=0) (sz:=1) (new:=[g]) ((Old.refl m2.next m2).new (Nat.le_refl _) ob) (by omega) (by rw [h.len];simp) rfl hone
 have hn3:m2.next≤m3.next:=by have:=k4.1;rw [next_newObjA] at this;omega
 have hG:∀ x,blkV gv=some x→vw m2 x=some ⟨true,te,true,gs⟩∧m0.next≤x:=by
  intro x hx
  rcases hown2 with ⟨e2,_⟩|⟨b,e2,g1,g2,g3⟩
  ·rw [e2] at hx;cases hx
  ·rw [e2] at hx
   obtain rfl:b=x:=Option.some.inj hx
   exact⟨g3,g1⟩
 have h23:∀ x,x<m2.next→blkV gv≠some x→m3.objs.get x=m2.objs.get x:=fun x hx hne=>by
  rw [k3.2 x (by rw [next_newObjA];omega) hne,get_newObjA,if_neg (by omega)]
 have hlow:∀ x,x<m0.next→m3.objs.get x=m2.objs.get x:=fun x hx=>h23 x (by omega) fun e2=>by have:=(hG x e2).2;omega
 have hcur:∀ {k:Nat} {a':Enf} {g':Value},l[k]? = some a'→Cur m0.next m2 e (mk k) a' 64 g'→Cur m0.next m3 e (mk k) a' 64 g':=fun {k} {a'} {g'} hk hc=>hc.ex hn3 (fun x hx=>hlow x (hb hk x hx)) fun x hx h0 h1 ⟨cs,h2⟩=>h23 x h1 fun e2=>by
  have:=(hG x e2).1
  rw [h2] at this
  cases this;exact hte rfl
 refine⟨gv',m3,k1,⟨by omega,fun x hx hxl=>?_,h.lol0,k2,by simp [h.len],fun k b hk hki=>?_,fun k b hk hki=>?_⟩⟩
 ·rw [hlow x hx,hfr x (by omega) fun hxa=>hxl (hin hxa)]
  exact h.old x hx hxl
 ·by_cases e2:k=i
  ·subst e2
   rw [ha] at hk;cases hk
   exact⟨g,by rw [List.getElem?_append_right (by rw [h.len];exact Nat.le_refl _),h.len];simp,hcur ha (hC.lower (by omega))⟩
  ·obtain⟨g',k5,k6⟩:=h.cur k b hk (by omega)
   refine⟨g',by rw [List.getElem?_append_left (by rw [h.len];omega)];exact k5,hcur hk (k6.ex hn (fun x hx=>hfr x (by have:=hb hk x hx;omega) fun hxa=>blk_ne hd hk ha e2 x hx hxa) fun x _ h0 h1 _=>hfr x h1 fun hxa=>by have:=hb ha x hxa;omega)⟩
 ·have hl:=h.lst k b hk (by omega)
  refine hl.ex (by omega) fun x hx=>?_
  rw [hlow x (hb hk x hx)]
  exact hfr x (by have:=hb hk x hx;omega) fun hxa=>blk_ne hd hk ha (by omega) x hx hxa
end Go.Proofs.YtgmkbdmgifdfeaaGreatDoor

