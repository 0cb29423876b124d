/- A part of a proof: ScriptOwn. -/
import Derived.Great.FillDense
import Derived.Laws.BytesString
import Derived.Laws.IdiomCopy
import Derived.Laws.Tables
import Derived.Lib.UnsafeStr
import Derived.Test.YtgmkbdmgifdfeaaGreatDoorF3
set_option linter.unusedVariables false
set_option linter.unusedSimpArgs false
namespace Go.Ev
open Go.RowKit
section
variable {tb:Tabs} {N:Nat} {w0:World} {E:Env} {m:Mem} {w:World}
inductive QR (E:Env):Option (Nat × Value)→Option (Nat × Value)→Prop where
 |none:QR E none none
 |some (i:Nat) {v v':Value} (h:VR E v v'):QR E (some (i,v)) (some (i,v'))
theorem EntR.get {E:Env} {l l':List MapEntry} (h:EntR E l l'):∀ (i:Nat) (e:MapEntry),l[i]? = some e→∃ e',l'[i]? = some e'∧VR E e.key e'.key∧VR E e.val e'.val∧e'.born=e.born:=by
 induction h with
 |nil=>intro i e he;simp at he
 |cons hk hv _ ih =>
  intro i e he
  cases i with
  |zero=>simp at he;subst he;exact⟨⟨_,_,_⟩,rfl,hk,hv,rfl⟩
  |succ i=>simp at he;obtain⟨e',h1,h2⟩:=ih i e he;exact⟨e',by simpa using h1,h2⟩
theorem run_keyFind (ok:TabsOk tb) (H:MR tb.p N w0 E m w) {kt:TypeId} {k k':Value} (hk:VR E k k'):∀ {es es':List MapEntry},EntR E es es'→∀ {i:Nat} {q:Option (Nat × Value)},keyFind tb m kt k es i=some q →
  ∃ q',(Instr.findAsking kt k' es' i).run tb.p w=.ok q' w∧QR E q q'∧(∀ j v,q=some (j,v)→i≤j∧∃ e,es[j-i]? = some e∧e.val=v):=by
 intro es es' h
 induction h with
 |nil=>intro i q hq;simp only [keyFind,Option.some.injEq] at hq;subst hq;exact⟨none,by simp [Instr.findAsking],.none,by simp⟩
 | @cons k1 k1' v1 v1' b1 l l' hk1 hv1 _ ih =>
   intro i q hq
   simp only [keyFind] at hq
   obtain⟨r,hr,hq⟩:=oB_some.1 hq
   have he:=run_eqA ok H 64 _ _ _ _ _ _ hr hk hk1 10000 (by decide)
   have he':(Op.equal kt k' _).run tb.p w=.ok r w:=he
   simp only [Instr.findAsking,Sem.run_bind,he',Result.andThen_ok]
   cases r with
   |true =>
    simp only [Option.some.injEq] at hq;subst hq
    exact⟨some (i,v1'),by simp,.some _ hv1,by rintro j v e;simp only [Option.some.injEq,Prod.mk.injEq] at e;obtain⟨rfl,rfl⟩:=e;exact⟨Nat.le_refl _,⟨k1,v1,b1⟩,by simp,rfl⟩⟩
   |false =>
    simp only at hq
    obtain⟨q',h1,h2,h3⟩:=ih hq
    refine⟨q',by simpa using h1,h2,fun j v e=>?_⟩
    obtain⟨h4,e',h5,h6⟩:=h3 j v e
    refine⟨by omega,e',?_,h6⟩
    obtain⟨d,rfl⟩:∃ d,j=i+1+d:=⟨j-(i+1),by omega⟩
    rw [show i+1+d-i=d+1 from by omega]
    rw [show i+1+d-(i+1)=d from by omega] at h5
    simpa using h5
theorem eqA_succ (tb:Tabs) (m:Mem) (d:Nat) (t:TypeId) (x y:Value):eqA tb m (d+1) t x y=oB (ti tb t) fun i =>
  match i.d with
  | .bool=>eqBool x y
  | .int _=>eqInt x y
  | .string=>eqStr x y
  | .pointer e=>eqPt tb m e x y
  | .interface _=>eqIf tb (eqA tb m d) x y
  | .struct _=>eqSt tb (eqA tb m d) i x y
  | .array len elem=>eqAr tb (eqA tb m d) len elem x y
  | .slice _=>eqSl x y
  | .map _ _=>eqMp x y
  | .func _ _ _=>eqFn x y
  |_=>none:=rfl
theorem findNow_same (ok:TabsOk tb) {kt:TypeId} {i0:TI} (hi0:ti tb kt=some i0) (m:Mem) {k k':Value} (hk:VR E k k'):∀ {es es':List MapEntry},EntR E es es'→∀ {i:Nat} {q:Option (Nat × Value)} {r:Option (Nat × Value)},
  keyFind tb m kt k es i=some q→Instr.findNow i0.d k' es' i=some r→QR E q r:=by
 intro es es' h
 induction h with
 |nil =>
  intro i q r hq hr
  simp only [keyFind,Option.some.injEq] at hq;subst hq
  simp only [Instr.findNow,Option.some.injEq] at hr;subst hr
  exact .none
 |cons hk1 hv1 _ ih =>
  rename_i k1 k1' v1 v1' b1 l l' _
  intro i q r hq hr
  simp only [keyFind] at hq
  obtain⟨c,hc,hq⟩:=oB_some.1 hq
  have hsn:∀ b,Instr.sameNow i0.d k' k1'=some b→b=c:=by
   intro b hb
   rw [show (64:Nat)=63+1 from rfl,eqA_succ] at hc
   obtain⟨i1,hi1,hc⟩:=oB_some.1 hc
   obtain rfl:=Option.some.inj (hi0.symm.trans hi1)
   unfold Instr.sameNow at hb
   split at hb
   ·rename_i kk k2 a k3 b' hd
    split at hb
    ·rw [hd] at hc;simp only at hc
     cases hk;cases hk1
     simp only [eqInt,intEq_eq] at hc
     split at hc
     ·simp only [Option.some.injEq] at hb hc;rw [← hb,← hc]
     ·simp at hc
    ·simp at hb
   ·rename_i a b' hd
    rw [hd] at hc;simp only at hc
    cases hk;cases hk1
    simp only [eqStr,bytesEq_eq,Option.some.injEq] at hb hc
    rw [← hb,← hc,beq_toListBytes,toList_eq,toList_eq]
   ·rename_i a b' hd
    rw [hd] at hc;simp only at hc
    cases hk;cases hk1
    simp only [eqBool,Option.some.injEq] at hb hc
    rw [← hb,← hc]
   ·simp at hb
  simp only [Instr.findNow] at hr
  cases hs:Instr.sameNow i0.d k' k1' with
  |none=>rw [hs] at hr;simp at hr
  |some b =>
   rw [hs] at hr
   have:=hsn b hs
   subst this
   cases b with
   |true =>
    simp only [Option.some.injEq] at hq hr;subst hq;subst hr
    exact .some _ hv1
   |false=>exact ih hq hr
theorem run_findKey (ok:TabsOk tb) (H:MR tb.p N w0 E m w) {kt:TypeId} {k k':Value} (hk:VR E k k') (hko:keyOk tb kt k=true) {es es':List MapEntry} (hes:EntR E es es') {q:Option (Nat × Value)} (hq:keyFind tb m kt k es 0=some q) :
  ∃ q',(Instr.findKey kt k' es').run tb.p w=.ok q' w∧QR E q q'∧(∀ j v,q=some (j,v)→∃ e,es[j]? = some e∧e.val=v):=by
 obtain⟨i0,hi0⟩:∃ i0,ti tb kt=some i0:=by
  unfold keyOk at hko
  split at hko<;>first|exact⟨_,‹_›⟩|(simp at hko)
 obtain⟨q',h1,h2,h3⟩:=run_keyFind ok H hk hes hq
 have h3':∀ j v,q=some (j,v)→∃ e,es[j]? = some e∧e.val=v:=fun j v e=>by
  obtain⟨_,e',h5,h6⟩:=h3 j v e
  exact⟨e',by simpa using h5,h6⟩
 unfold Instr.findKey
 simp only [Sem.run_bind,run_ty ok hi0,Result.andThen_ok]
 cases hn:Instr.findNow i0.d k' es' 0 with
 |none=>exact⟨q',h1,h2,h3'⟩
 |some r=>exact⟨r,rfl,findNow_same ok hi0 m hk hes hq hn,h3'⟩
theorem mapOf_some {m:Mem} {r:Nat} {es:List MapEntry} {c:Nat} (h:mapOf m r=some (es,c)):m.objs.get r=some (.map es c):=by
 unfold mapOf at h
 split at h
 ·simp only [Option.some.injEq,Prod.mk.injEq] at h;obtain⟨rfl,rfl⟩:=h;assumption
 ·simp at h
theorem MR.map (H:MR tb.p N w0 E m w) {r:Nat} {i:Info} {es:List MapEntry} {c:Nat} (hE:E r=some i) (h:mapOf m r=some (es,c)):∃ es',w.heap[i.blk]? = some (.map ⟨es'⟩ c)∧EntR E es es':=by
 obtain⟨ob,h1,h2⟩:=H.objs _ _ _ hE (mapOf_some h) rfl
 cases h2 with|map h2=>exact⟨_,h1,h2⟩
theorem run_getMap {P:Program} {w:World} {b:Nat} {es:List MapEntry} {c:Nat} (h:w.heap[b]? = some (.map ⟨es⟩ c)):(getObj b).run P w=.ok (.map ⟨es⟩ c) w:=by
 simp [getObj,Sem.run,h]
theorem okTup_rel {cok:Bool} {v v':Value} {b:Bool} (h:VR E v v'):VR E (okTup cok v b) (if cok then .tuple #[v',.bool b] else v'):=by
 cases cok with
 |true=>exact .tuple (.cons h (.cons (.bool _) .nil))
 |false=>exact h
theorem run_lookupA (ok:TabsOk tb) (H:MR tb.p N w0 E m w) {t:TypeId} {x x' k k' v:Value} {cok:Bool} (hx:VR E x x') (hk:VR E k k') (h:lookupA tb t m x k cok=some v) :
  ∃ v',(Instr.lookup t x' k' cok).run tb.p w=.ok v' w∧VR E v v':=by
 unfold lookupA at h
 obtain⟨i,hi,h1⟩:=oB_some.1 h
 clear h
 cases hd:i.d<;>rw [hd] at h1<;>first|(simp at h1;done)|skip
 rename_i kt et
 simp only at h1
 cases hko:keyOk tb kt k with
 |false=>rw [hko] at h1;simp at h1
 |true =>
 rw [hko] at h1;simp only at h1
 have hu:(underlying t).run tb.p w=.ok (.map kt et) w:=by rw [← hd];exact run_ty ok hi
 have hck:=fun em=>run_checkKey (tb:=tb) (w:=w) ok hk hko em 9998
 have hck':∀ em,(Instr.checkKey em 10000 kt k').run tb.p w=.ok () w:=hck
 have hz:∀ v,(oB (ti tb et) fun j=>oB (zeroV j) fun z=>some (okTup cok z false))=some v→∃ z,v=okTup cok z false∧(zeroValue et).run tb.p w=.ok z w∧VR E z z:=by
  intro v hv
  obtain⟨j,hj,hv⟩:=oB_some.1 hv
  obtain⟨z,hz,hv⟩:=oB_some.1 hv
  obtain⟨hz1,hz2⟩:=zeroV_some ok hj hz E
  exact⟨z,(Option.some.inj hv).symm,run_zero ok hj hz1,hz2⟩
 unfold Instr.lookup
 cases hx with
 |mapNil =>
  simp only at h1
  obtain⟨z,rfl,h2,h3⟩:=hz _ h1
  refine⟨_,?_,okTup_rel h3⟩
  simp [hu,hck',Instr.findKey,Instr.findNow,h2]
  have:∃ i0,ti tb kt=some i0:=by
   unfold keyOk at hko
   split at hko<;>first|exact⟨_,‹_›⟩|(simp at hko)
  obtain⟨i0,hi0⟩:=this
  simp [run_ty ok hi0,h2]
 |map hE =>
  simp only at h1
  obtain⟨⟨es,c⟩,hm,h2⟩:=oB_some.1 h1
  obtain⟨q,hq,h3⟩:=oB_some.1 h2
  obtain⟨es',hh,hes⟩:=H.map hE hm
  obtain⟨q',h4,h5,h6⟩:=run_findKey ok H hk hko hes hq
  cases h5 with
  |none =>
   simp only at h3
   obtain⟨z,rfl,h7,h8⟩:=hz _ h3
   refine⟨_,?_,okTup_rel h8⟩
   simp [hu,run_getMap hh,hck',h4,h7]
  |some j hv =>
   simp only [Option.some.injEq] at h3;subst h3
   refine⟨_,?_,okTup_rel hv⟩
   simp [hu,run_getMap hh,hck',h4]
 |_=>simp at h1
theorem find_born {E:Env} {s:Nat}:∀ {es es':List MapEntry},EntR E es es'→∀ {e:MapEntry},es.find? (fun e=>Nat.beq e.born s)=some e→∃ e',es'.find? (fun e=>e.born==s)=some e'∧VR E e.key e'.key∧VR E e.val e'.val:=by
 intro es es' h
 induction h with
 |nil=>intro e he;simp at he
 | @cons k k' v v' b l l' hk hv _ ih =>
   intro e he
   rw [List.find?_cons] at he
   simp only [beq_dec] at he
   by_cases hb:b=s
   ·simp only [hb,decide_true,Option.some.injEq] at he;subst he
    exact⟨⟨k',v',b⟩,by rw [List.find?_cons];simp [hb],hk,hv⟩
   ·simp only [hb,decide_false] at he
    obtain⟨e',h1,h2⟩:=ih (e:=e) (by simpa only [beq_dec] using he)
    have hb':(b==s)=false:=by simpa using hb
    exact⟨e',by rw [List.find?_cons];simp only [hb'];exact h1,h2⟩
theorem run_entryA (ok:TabsOk tb) (H:MR tb.p N w0 E m w) {it it' v:Value} (hit:VR E it it') (h:entryA m it=some v) :
  ∃ v',(Instr.entry it').run tb.p w=.ok v' w∧VR E v v':=by
 unfold entryA at h
 split at h<;>first|(simp at h;done)|skip
 rename_i b
 cases hit with
 | @ptr _ _ i hE =>
 split at h<;>first|(simp at h;done)|skip
 rename_i r since seen stepped hg
 split at h<;>first|(simp at h;done)|skip
 rename_i stamp hst
 obtain⟨⟨es,c⟩,hm,h1⟩:=oB_some.1 h
 simp only at h1
 split at h1<;>first|(simp at h1;done)|skip
 rename_i hc
 split at h1<;>first|(simp at h1;done)|skip
 rename_i e he
 simp only [Option.some.injEq] at h1;subst h1
 have hc:=Nat.eq_of_beq_eq_true hc
 subst hc
 obtain⟨ob,h2,h3⟩:=H.objs _ _ _ hE hg rfl
 cases h3 with
 | @mapIter _ jj _ _ _ hs hr =>
   obtain⟨es',hh,hes⟩:=H.map hr hm
   obtain⟨e',h4,h5,h6⟩:=find_born hes he
   refine⟨_,?_,.tuple (.cons h5 (.cons h6 .nil))⟩
   unfold Instr.entry
   have hit:(getObj i.blk).run tb.p w=.ok (.mapIter (some jj.blk) since ⟨seen⟩ c) w:=by simp [getObj,Sem.run,h2]
   have hb:(⟨seen⟩:Array Nat).back? = some stamp:=by simpa using hst
   simp only [hs,Nat.add_zero]
   simp only [Sem.run_bind,hit,Result.andThen_ok,hb,run_getMap hh]
   have hf:(⟨es'⟩:Array MapEntry).find? (fun e=>e.born==stamp)=some e':=by simpa using h4
   simp [hf]
end
end Go.Ev

namespace Go.Ev
open Go.RowKit
section
variable {tb:Tabs} {N:Nat} {w0:World} {E:Env} {m:Mem} {w:World}
theorem u8s_self:∀ l:List UInt8,VRs E (u8s l) (u8s l)
 | []=>.nil
 |b::l=>by
  refine .cons ?_ (u8s_self l)
  simp only [byteV,fNat_eq];exact .int _ _
theorem u8s_eq:∀ l:List UInt8,u8s l=l.map fun b=>Value.int .u8 b.toNat
 | []=>rfl
 |b::l=>by simp only [u8s,byteV,fNat_eq,List.map_cons,u8s_eq l];rfl
theorem bytesL_some:∀ {l l':List Value} {bs:List UInt8},VRs E l l'→bytesL l=some bs→∃ ns:List Nat,l'=ns.map (fun (n:Nat)=>Value.int .u8 (n:Int))∧bs=ns.map UInt8.ofNat
 | [],l',bs,hl,h=>by
   cases hl
   simp only [bytesL,Option.some.injEq] at h;subst h
   exact⟨[],rfl,rfl⟩
 |v::l,l',bs,hl,h=>by
  cases hl with
  |cons hv hl =>
   unfold bytesL at h
   split at h
   ·rename_i h1;simp at h1
   ·rename_i n l0 he
    obtain⟨rfl,rfl⟩:=List.cons.inj he
    obtain⟨r,hr,h⟩:=oB_some.1 h
    simp only [Option.some.injEq] at h;subst h
    cases hv
    obtain⟨ns,h1,h2⟩:=bytesL_some hl hr
    exact⟨n::ns,by simp [h1],by simp [h2]⟩
   ·simp at h
theorem foldl_push:∀ (ns:List Nat) (acc:ByteArray),(ns.map fun (n:Nat)=>(n:Int)).foldl (fun r n=>r.push (UInt8.ofNat n.toNat)) acc=⟨⟨acc.data.toList++ns.map UInt8.ofNat⟩⟩
 | [],acc=>by simp
 |n::ns,acc=>by
  simp only [List.map_cons,List.foldl_cons,foldl_push ns]
  simp [ByteArray.push]
theorem run_bytesAt (H:MR tb.p N w0 E m w) {b o n:Nat} {i:Info} (hE:E b=some i) {s:ByteArray} (h:bytesAt m b o n=some s) (cap:Nat) :
  (Conv.bytesToString (.slice (some ⟨i.blk,i.shift+o,none⟩) n cap)).run tb.p w=.ok (.string s) w∧∃ l:List Nat,s=⟨⟨l.map UInt8.ofNat⟩⟩∧l.length=n∧∀ (j x:Nat),l[j]? = some x→w.cell? ⟨i.blk,i.shift+o+j,none⟩=some (.int .u8 (x:Int)):=by
 unfold bytesAt at h
 obtain⟨r,hr,h⟩:=oB_some.1 h
 obtain⟨l,hl,h⟩:=oB_some.1 h
 obtain⟨bs,hb,h⟩:=oB_some.1 h
 simp only [Option.some.injEq] at h;subst h
 obtain⟨l',h1,h2,h3⟩:=H.cells hE hr hl
 obtain⟨ns,rfl,rfl⟩:=bytesL_some h1 hb
 have hlen:ns.length=n:=by simpa using h2
 have hrun:=run_loadCells_list (P:=tb.p) (w:=w) ⟨i.blk,i.shift+o,none⟩ (ns.map fun (n:Nat)=>Value.int .u8 (n:Int)) (fun j v hv=>by rw [add_none];exact h3 j v hv)
 rw [show (ns.map fun (n:Nat)=>Value.int .u8 (n:Int)).length=n from by simpa using hlen] at hrun
 refine⟨?_,ns,rfl,hlen,fun j x hx=>h3 j _ (by simp [hx])⟩
 have:=run_bytesToString (P:=tb.p) w ⟨i.blk,i.shift+o,none⟩ n cap (ns.map fun (n:Nat)=>(n:Int)) (by rw [List.map_map];exact hrun)
 rw [this,foldl_push]
 rfl
def RdOk (tb:Tabs) (E:Env) (w:World) (v:Value) (s:Sem Value):Prop:=∃ v',s.run tb.p w=.ok v' w∧VR E v v'
def MkOk (tb:Tabs) (E:Env) (w:World) (ob:AObj) (mk:Nat→Value) (s:Sem Value):Prop :=
 ∀ b,E b=none→∃ v' w' o' sh ex,s.run tb.p w=.ok v' w'∧w'.heap=w.heap.push o'∧w'.os=w.os∧w'.tape=w.tape∧w'.output=w.output ∧
   ObjR tb.p (E.add b ⟨w.heap.size,sh,ex⟩) ⟨w.heap.size,sh,ex⟩ ob o'∧VR (E.add b ⟨w.heap.size,sh,ex⟩) (mk b) v'∧ob.own=true
def WrOk (tb:Tabs) (N:Nat) (w0:World) (E:Env) (m:Mem) (w:World) (v:Value) (m':Mem) (s:Sem Value):Prop :=
 ∃ v' w' E',s.run tb.p w=.ok v' w'∧VR E' v v'∧MR tb.p N w0 E' m' w'∧MExt m.next E m E' m'
theorem rowR_new {P:Program} {E:Env} {blk ex sz:Nat} {elem:TypeId} {l l' rest:List Value} {fz:Fz} {ext:Bool} {fr:Nat × Nat} (h:VRs E l l') (hr:rest.length=ex*sz) (hx:ext=false→ex=0)
  (hf:FzR fz 0 (l'.length+rest.length) fr) :
  RowR sz E ⟨T.ofList l,l.length,[],elem,fz,ext⟩ ⟨blk,0,ex⟩ ⟨l'++rest⟩ elem fr:=by
 refine⟨rfl,?_,?_,fun e=>⟨rfl,hx e⟩,?_⟩
 ·intro j v hv
  simp only [cellAt,T.get_ofList] at hv
  split at hv<;>first|(simp at hv;done)|skip
  split at hv
  ·rename_i u hu
   simp only [Option.some.injEq] at hv;subst hv
   obtain⟨v',h1,h2⟩:=h.get j u hu
   refine⟨v',?_,h2⟩
   have hlt:j<l'.length:=(List.getElem?_eq_some_iff.1 h1).1
   have:(⟨l'++rest⟩:Array Value)[0+j]? = (l'++rest)[j]? := by simp
   rw [this,List.getElem?_append_left hlt];exact h1
  ·simp at hv
 ·show (l'++rest).length=_
  rw [List.length_append,hr,← h.length];simp
 ·show FzR fz 0 (l'++rest).length fr
  rw [List.length_append];exact hf
theorem rowObj_new {P:Program} {E:Env} {blk ex:Nat} {elem:TypeId} {l l' rest:List Value} {fz:Fz} {ext:Bool} {fr:Nat × Nat} (h:VRs E l l') (hr:rest.length=ex*P.cellsOf elem) (hx:ext=false→ex=0)
  (hf:FzR fz 0 (l'.length+rest.length) fr):ObjR P E ⟨blk,0,ex⟩ (rowObj elem l fz ext) (.cells ⟨l'++rest⟩ elem fr) :=
 .row (rowR_new (P:=P) h hr hx hf)
theorem cells_freshE {b:Nat} {i:Info} (hb:E b=none) {l l':List Value} (h:VRs E l l'):VRs (E.add b i) l l':=h.mono (Env.add_le hb)
theorem run_convPtr (ok:TabsOk tb) (H:MR tb.p N w0 E m w) {src dst:TypeId} {s d:TI} (hs:ti tb src=some s) (hd:ti tb dst=some d) {a:Addr} {x' v:Value} (hx:VR E (.pointer (some a)) x') (h:convPtr tb m s.d d.d a=.r v) :
  RdOk tb E w v (convert src dst x'):=by
 cases hx with
 | @ptr b o i hE =>
 unfold convPtr at h
 cases hsd:s.d<;>rw [hsd] at h<;>first|(simp at h;done)|skip
 ·
  simp only at h
  cases hdd:d.d<;>rw [hdd] at h<;>first|(simp at h;done)|skip
  rename_i u
  simp only at h
  split at h<;>first|(simp at h;done)|skip
  rename_i j r hj hr
  split at h<;>first|(simp at h;done)|skip
  rename_i sz hx hsz hlie
  simp only [OR.r.injEq] at h;subst h
  obtain⟨cells,el,fr,h1,h2⟩:=H.row hE hr
  obtain⟨e1,e2⟩:=h2.exact' hx
  refine⟨_,?_,.ptr hE⟩
  have hsh:w.shape? i.blk=some (el,cells.size):=by simp [World.shape?,h1]
  have hv:liesAt tb.p tb.p.depth el (cells.size / tb.p.cellsOf el) (i.shift+o) u 1=true:=by
   rw [h2.elem,h2.size,e1,e2];simpa using hlie
  simp [convert,run_ty ok hs,run_ty ok hd,hsd,hdd,Conv.unsafePointer,Conv.seenAt,viewAt,hsh,run_size ok hj,hsz,variablesAt,hv]
 ·rename_i e
  simp only at h
  cases hdd:d.d<;>rw [hdd] at h<;>first|(simp at h;done)|skip
  simp only at h
  split at h<;>first|(simp at h;done)|skip
  rename_i j r hj hr
  split at h<;>first|(simp at h;done)|skip
  rename_i sz hsz hlt
  simp only [OR.r.injEq] at h;subst h
  obtain⟨cells,el,fr,h1,h2⟩:=H.row hE hr
  have hlt':o<r.n:=by simpa [Nat.blt_eq] using hlt
  refine⟨_,?_,.ptr hE⟩
  have hsh:w.shape? i.blk=some (el,cells.size):=by simp [World.shape?,h1]
  have hn:¬ (i.shift+o≥cells.size):=by rw [h2.size];omega
  simp [convert,run_ty ok hs,run_ty ok hd,hsd,hdd,Conv.unsafePointer,Conv.seenAt,viewAt,hsh,cellsIn,run_size ok hj,hsz]
  omega
end
end Go.Ev

namespace Go.Ev
open Go.RowKit
theorem modify_push {α : Type} (h:Array α) (x : α) (f : α → α):(h.push x).modify h.size f=h.push (f x):=by
 apply Array.ext_getElem?
 intro k
 rw [Array.getElem?_modify,Array.getElem?_push,Array.getElem?_push]
 by_cases e:k=h.size
 ·subst e;simp
 ·rw [if_neg (fun h=>e h.symm),if_neg e,if_neg e]
section
variable {tb:Tabs} {N:Nat} {w0:World} {E:Env} {m:Mem} {w:World}
theorem run_convStrBytes (ok:TabsOk tb) {e:TypeId} {j:TI} (hj:ti tb e=some j) (hsz:j.inf.size=1) (s:ByteArray) :
  MkOk tb E w (rowObj e (u8s s.data.toList) .str true) (fun r=>.slice (some ⟨r,0,none⟩) s.data.toList.length s.data.toList.length) (Conv.stringToBytes e s):=by
 intro b hb
 have hle:=Env.add_le (i:=⟨w.heap.size,0,w.tape w.drawn (.appendCap s.size 0 e)%(2 ^ 63-s.size)⟩) hb
 generalize hx:w.tape w.drawn (.appendCap s.size 0 e)%(2 ^ 63-s.size)=x at hle
 have hcut:(Question.appendCap s.size 0 e).cut (w.tape w.drawn (.appendCap s.size 0 e))=s.size+x:=by
  show s.size+_%(2 ^ 63-s.size)=_
  rw [hx]
 have hsl:s.data.toList.length=s.size:=rfl
 have hcells:((s.data.map fun b=>Value.int .u8 (b.toNat:Int))++Array.replicate x (.int .u8 0):Array Value)=⟨u8s s.data.toList++List.replicate x (.int .u8 0)⟩:=by
  apply Array.ext'
  simp [u8s_eq]
 have hsh:∀ c:Array Value,World.shape? { w with drawn:=w.drawn+1,heap:=w.heap.push (.cells c e) } w.heap.size=some (e,c.size):=by
  intro c
  simp [World.shape?]
 have hfz:∀ c:Array Value,(World.freeze { w with drawn:=w.drawn+1,heap:=w.heap.push (.cells c e) } ⟨w.heap.size,c.size,none⟩ 1) =
   { w with drawn:=w.drawn+1,heap:=w.heap.push (.cells c e (c.size,c.size+1)) }:=by
  intro c
  simp only [World.freeze,Nat.one_ne_zero,if_false]
  congr 1
  rw [modify_push]
  simp
 refine⟨.slice (some ⟨w.heap.size,0,none⟩) s.size (s.size+x),{ w with drawn:=w.drawn+1,heap:=w.heap.push (.cells ⟨u8s s.data.toList++List.replicate x (.int .u8 0)⟩ e (s.size+x,s.size+x+1)) },_,0,x,?_,rfl,rfl,rfl,rfl,?_,?_,rfl⟩
 ·unfold Conv.stringToBytes
  simp only [Sem.run_bind,run_choose,Question.forced,Bool.false_eq_true,if_false,Result.andThen_ok,hcut,newRow,run_newObj,Sem.run_pure,markStringish,run_shape,Nat.add_sub_cancel_left,hsh,run_freeze,hfz,hcells]
  have:(⟨u8s s.data.toList++List.replicate x (.int .u8 0)⟩:Array Value).size=s.size+x:=by
   simp [u8s_eq]
  rw [this]
 ·refine rowObj_new ((u8s_self _)) ?_ (by simp) ?_
  ·rw [ok.cellsOf hj,hsz];simp
  ·right;simp [u8s_eq]
 ·rw [hsl]
  have:=VR.sl (E:=E.add b ⟨w.heap.size,0,x⟩) (b:=b) (o:=0) s.size s.size Env.add_at
  simpa using this
def OpRes (tb:Tabs) (N:Nat) (w0:World) (E:Env) (m:Mem) (w:World) (r:OR) (s:Sem Value):Prop :=
 match r with
 | .r v=>RdOk tb E w v s
 | .f ob mk=>MkOk tb E w ob mk s
 | .e v m'=>WrOk tb N w0 E m w v m' s
 | .c=>True
 | .bad=>True
theorem run_convStr (ok:TabsOk tb) {src dst:TypeId} {s d:TI} (hs:ti tb src=some s) (hd:ti tb dst=some d) (b:ByteArray) :
  OpRes tb N w0 E m w (convStr tb s.d d.d b) (convert src dst (.string b)):=by
 unfold convStr
 cases hsd:s.d<;>simp only<;>first|exact trivial|skip
 cases hdd:d.d<;>simp only<;>first|exact trivial|skip
 ·exact⟨.string b,by simp [convert,run_ty ok hs,run_ty ok hd,hsd,hdd],.string b⟩
 ·rename_i e
  cases hj:ti tb e with
  |none=>exact trivial
  |some j =>
   simp only
   split
   ·rename_i hjd hsz
    have hsz:=Nat.eq_of_beq_eq_true hsz
    have:=run_convStrBytes (E:=E) (w:=w) ok hj hsz b
    intro k hk
    obtain⟨v',w',o',sh,ex,h1,h2⟩:=this k hk
    exact⟨v',w',o',sh,ex,by simpa [convert,run_ty ok hs,run_ty ok hd,hsd,hdd,run_ty ok hj,hjd] using h1,h2⟩
   ·exact trivial
theorem run_convNilSl (ok:TabsOk tb) {src dst:TypeId} {s d:TI} (hs:ti tb src=some s) (hd:ti tb dst=some d) (l c:Nat) :
  OpRes tb N w0 E m w (convNilSl tb s.d d.d) (convert src dst (.slice none l c)):=by
 unfold convNilSl
 cases hsd:s.d<;>simp only<;>first|exact trivial|skip
 cases hdd:d.d<;>simp only<;>first|exact trivial|skip
 rename_i e
 cases hj:ti tb e with
 |none=>exact trivial
 |some j =>
  simp only
  split
  ·rename_i hjd
   exact⟨.string .empty,by simp [convert,run_ty ok hs,run_ty ok hd,hsd,hdd,run_ty ok hj,hjd,Conv.bytesToString],.string _⟩
  ·exact trivial
theorem freeze_eq {w:World} {k:Nat} {cells:Array Value} {el:TypeId} {fr:Nat × Nat} (h:w.heap[k]? = some (.cells cells el fr)) {o n:Nat} (hn:n≠0) :
  (w.freeze ⟨k,o,none⟩ n).heap[k]? = some (.cells cells el (if fr.1=fr.2 then (o,o+n) else (min fr.1 o,max fr.2 (o+n)))) ∧
  (∀ j,j≠k→(w.freeze ⟨k,o,none⟩ n).heap[j]? = w.heap[j]?)∧(w.freeze ⟨k,o,none⟩ n).heap.size=w.heap.size∧(w.freeze ⟨k,o,none⟩ n).os=w.os∧(w.freeze ⟨k,o,none⟩ n).tape=w.tape∧(w.freeze ⟨k,o,none⟩ n).output=w.output:=by
 unfold World.freeze
 rw [if_neg hn]
 refine⟨?_,?_,by simp,rfl,rfl,rfl⟩
 ·simp only [Array.getElem?_modify,if_true,h]
  obtain⟨lo,hi⟩:=fr
  simp
 ·intro j hj
  simp only [Array.getElem?_modify]
  rw [if_neg (fun e=>hj e.symm)]
theorem MR.mark (H:MR tb.p N w0 E m w) {b:Nat} {i:Info} {r:Row} (hE:E b=some i) (h:rowW m b=some r) {cells:Array Value} {el:TypeId} {fr fr':Nat × Nat} (hh:w.heap[i.blk]? = some (.cells cells el fr)) (hr:RowR (tb.p.cellsOf r.elem) E r i cells el fr)
  {fz:Fz} {w':World} (h1:w'.heap[i.blk]? = some (.cells cells el fr')) (h2:∀ j,j≠i.blk→w'.heap[j]? = w.heap[j]?) (h3:w'.heap.size=w.heap.size) (h4:w'.os=w.os) (h5:w'.tape=w.tape) (h6:w'.output=w.output)
  (hf:FzR fz i.shift cells.size fr'):MR tb.p N w0 E (putObj m b (.row ⟨r.ov,r.n,r.z,r.elem,fz,r.ext⟩)) w' :=
 H.put hE (rowW_some h) rfl (.inl rfl) h3 h2 h4 h5 h6 fun _=>⟨_,h1,.row ⟨hr.elem,hr.cell,hr.size,hr.exact',hf⟩⟩
theorem run_convSl (ok:TabsOk tb) (H:MR tb.p N w0 E m w) {src dst:TypeId} {s d:TI} (hs:ti tb src=some s) (hd:ti tb dst=some d) {a:Addr} {l c:Nat} {x':Value} (hx:VR E (.slice (some a) l c) x') :
  OpRes tb N w0 E m w (convSl tb m (Nat.beq src dst) s.d d.d (.slice (some a) l c) a l) (convert src dst x'):=by
 obtain⟨b,o,sp⟩:=a
 have hx2:(∃ i o' c',E b=some i∧x'=.slice (some ⟨i.blk,o',none⟩) l c'∧(l≠0→o'=i.shift+o))∨(l=0∧∃ a',x'=.slice (some a') 0 0):=by
  cases hx with
  |sl l c h=>exact .inl ⟨_,_,_,h,rfl,fun _=>rfl⟩
  |slX l c h=>exact .inl ⟨_,_,_,h,rfl,fun _=>rfl⟩
  |slE0 h hx=>exact .inl ⟨_,_,_,h,rfl,fun _=>rfl⟩
  |slE1 h hx=>exact .inl ⟨_,_,_,h,rfl,fun h=>absurd rfl h⟩
  |slD a b=>exact .inr ⟨rfl,_,rfl⟩
 rcases hx2 with ⟨i,o',c',hE,rfl,ho⟩|⟨rfl,a',rfl⟩
 case inr =>
  unfold convSl
  cases hsd:s.d<;>simp only<;>first|exact trivial|skip
  rename_i e
  cases hdd:d.d<;>simp only<;>first|exact trivial|skip
  ·cases hj:ti tb e with
   |none=>exact trivial
   |some j =>
    simp only
    split
    ·rename_i hjd
     refine⟨.string .empty,?_,.string _⟩
     have:=run_bytesToString (P:=tb.p) w a' 0 0 [] (by simp [loadCells,loadCellsFrom])
     simpa [convert,run_ty ok hs,run_ty ok hd,hsd,hdd,run_ty ok hj,hjd] using this
    ·exact trivial
  ·split<;>first|exact trivial|(exfalso;simp_all;done)
 unfold convSl
 cases hsd:s.d<;>simp only<;>first|exact trivial|skip
 rename_i e
 cases hdd:d.d<;>simp only<;>first|exact trivial|skip
 ·cases hj:ti tb e with
  |none=>exact trivial
  |some j =>
   simp only
   split
   ·rename_i hjd
    cases l with
    |zero =>
     refine⟨.string .empty,?_,.string _⟩
     have:=run_bytesToString (P:=tb.p) w ⟨i.blk,o',none⟩ 0 c' [] (by simp [loadCells,loadCellsFrom])
     simpa [convert,run_ty ok hs,run_ty ok hd,hsd,hdd,run_ty ok hj,hjd] using this
    |succ l =>
     simp only
     cases hb:bytesAt m b o (l+1) with
     |none=>exact trivial
     |some s =>
      obtain⟨h1,_⟩:=run_bytesAt H hE hb c'
      obtain rfl:=ho (by simp)
      exact⟨.string s,by simpa [convert,run_ty ok hs,run_ty ok hd,hsd,hdd,run_ty ok hj,hjd] using h1,.string _⟩
   ·exact trivial
 ·rename_i e'
  split<;>first|exact trivial|skip
  rename_i j l1 hsame hj
  split<;>first|exact trivial|skip
  rename_i hjd
  have hsame:=Nat.eq_of_beq_eq_true hsame
  cases hr:rowW m b with
  |none=>exact trivial
  |some r =>
   simp only
   obtain⟨cells,el,fr,h1,h2⟩:=H.row hE (rowOf_of_rowW hr)
   have hsh:w.shape? i.blk=some (el,cells.size):=by simp [World.shape?,h1]
   have hrun:(convert src dst (.slice (some ⟨i.blk,o',none⟩) (l1+1) c')).run tb.p w=.ok (.slice (some ⟨i.blk,o',none⟩) (l1+1) c') (w.freeze ⟨i.blk,cells.size,none⟩ 1):=by
    subst hsame
    obtain rfl:=Option.some.inj (hs.symm.trans hd)
    rw [hsd] at hdd
    cases hdd
    simp [convert,run_ty ok hs,hsd,run_ty ok hj,hjd,markStringish,hsh]
   obtain⟨g1,g2,g3,g4,g5,g6⟩:=freeze_eq h1 (o:=cells.size) (n:=1) (by simp)
   cases hz:r.fz with
   |none =>
    have hf:=h2.fz;rw [hz] at hf
    have hf:fr.1=fr.2:=hf
    exact⟨_,_,E,hrun,hx,H.mark hE hr h1 h2 g1 g2 g3 g4 g5 g6 (by rw [if_pos hf];exact Or.inr (Nat.le_refl _)),MExt.put _ hE⟩
   |str =>
    have hf:=h2.fz;rw [hz] at hf
    have hf:fr.1=fr.2∨cells.size≤fr.1:=hf
    have hM:=H.mark (fz:=.str) hE hr h1 h2 g1 g2 g3 g4 g5 g6 (by
     by_cases e:fr.1=fr.2
     ·rw [if_pos e];exact Or.inr (Nat.le_refl _)
     ·rw [if_neg e];rcases hf with hf|hf
      ·exact absurd hf e
      ·exact Or.inr (by simp only [Nat.min_def];split<;>omega))
    refine⟨_,_,E,hrun,hx,?_,.refl _ _ _⟩
    refine⟨?_,hM.ub,H.dom,H.inj,H.own,hM.base,hM.size⟩
    intro k i' q hk hq hl
    by_cases ek:k=b
    ·subst ek
     obtain rfl:=Option.some.inj (hE.symm.trans hk)
     rw [rowW_some hr] at hq
     obtain rfl:=Option.some.inj hq
     obtain⟨ob,h5,h6⟩:=hM.objs k i _ hE (by rw [get_putObj,if_pos rfl]) rfl
     refine⟨ob,h5,?_⟩
     obtain⟨_,_,_,_,_,_⟩:=r
     simp only at hz;subst hz
     exact h6
    ·exact hM.objs k i' q hk (by rw [get_putObj,if_neg ek];exact hq) hl
   |rng lo hi=>exact trivial
theorem run_opConv (ok:TabsOk tb) (H:MR tb.p N w0 E m w) {src dst:TypeId} {x x':Value} (hx:VR E x x'):OpRes tb N w0 E m w (opConv tb m src dst x) (convert src dst x'):=by
 unfold opConv
 cases hs:ti tb src with
 |none=>exact trivial
 |some s =>
 cases hd:ti tb dst with
 |none=>exact trivial
 |some d =>
 simp only
 cases x with
 |int k n =>
  cases hx
  simp only
  split
  ·rename_i k' hdd
   exact⟨.int k' (k'.wrap n),by simp [convert,run_ty ok hs,run_ty ok hd,hdd,Conv.intToInt],by rw [vInt,fInt_eq,wrapF_eq];exact .int _ _⟩
  ·exact trivial
 |string b=>cases hx;exact run_convStr ok hs hd b
 |slice a l c =>
  cases a with
  |none=>cases hx;exact run_convNilSl ok hs hd _ _
  |some a=>exact run_convSl ok H hs hd hx
 |pointer a =>
  cases a with
  |none=>exact trivial
  |some a =>
   simp only
   cases hc:convPtr tb m s.d d.d a with
   |r v=>exact run_convPtr ok H hs hd hx hc
   |c=>exact trivial
   |bad=>exact trivial
   |f ob mk=>simp only [convPtr] at hc; (repeat (split at hc<;>try (simp at hc;done)))
   |e v m'=>simp only [convPtr] at hc; (repeat (split at hc<;>try (simp at hc;done)))
 |_=>exact trivial
end
end Go.Ev

namespace Go.Ev
open Go.RowKit
section
variable {tb:Tabs} {N:Nat} {w0:World} {E:Env} {m:Mem} {w:World}
theorem run_loadBytesN {P:Program} {w:World}:∀ (l:List Nat) (a:Addr) (acc:ByteArray),(∀ (j x:Nat),l[j]? = some x→w.cell? (a.add j)=some (.int .u8 (x:Int))) →
  (loadBytes a acc l.length).run P w=.ok ⟨⟨acc.data.toList++l.map UInt8.ofNat⟩⟩ w
 | [],a,acc,_=>by simp [loadBytes]
 |x::l,a,acc,h=>by
  have h0:w.cell? a=some (.int .u8 (x:Int)):=by
   have:=h 0 x rfl
   simpa [Addr.add] using this
  have ih:=run_loadBytesN (P:=P) l (a.add 1) (acc.push (UInt8.ofNat x)) (fun j y hy=>by
   have:=h (j+1) y (by simpa using hy)
   have e:(a.add 1).add j=a.add (j+1):=by
    unfold Addr.add
    by_cases hj:j=0
    ·subst hj;simp
    ·simp [hj];omega
   rw [e];exact this)
  have hx:((x:Int).toNat).toUInt8=UInt8.ofNat x:=by simp
  simp only [List.length_cons,loadBytes,Sem.run_bind,run_load,h0,Result.andThen,hx]
  rw [ih]
  congr 1
  simp [ByteArray.push]
theorem liesAt_row {P:Program} {e:TypeId} (hc:P.cellsOf e=1) (count off n:Nat) (hn:off+n≤count):liesAt P P.depth e count off e n=true:=by
 have hd:P.depth=(2*(P.types.size+Made.depth)+1)+1:=rfl
 rw [hd]
 simp only [liesAt,Bool.or_eq_true]
 left
 rw [hd]
 simp [rowAt,hc,hn,sameLayout,Nat.mod_one]
theorem run_opUnsafeString (ok:TabsOk tb) (H:MR tb.p N w0 E m w) {tys:List TypeId} {p:Option Addr} {p':Value} {n:Nat} {k:IntKind} (hp:VR E (.pointer p) p') (ty:TypeId) :
  OpRes tb N w0 E m w (opUnsafeString tb m tys p n) (Builtin.unsafeString_ ⟨tys⟩ ty #[p',.int k (.ofNat n)]):=by
 have hmax:IntKind.i64.max=9223372036854775807:=rfl
 unfold opUnsafeString
 cases n with
 |zero =>
  simp only
  cases tys with
  |nil=>exact trivial
  |cons t tys =>
   refine⟨.string .empty,?_,.string _⟩
   cases hp with
   |ptrNil =>
    have hdef:Builtin.unsafeString_ ⟨t::tys⟩ ty #[.pointer none,.int k (.ofNat 0)] =
      (do
       let n ← asInt (.int k (.ofNat 0))
       if n<0 then runtimePanic (.error "unsafe.String: len out of range")
       if n>IntKind.i64.max then unsupported (.unsafePointer "String: a length above the largest int")
       if n=0 then pure (.string .empty)
       else runtimePanic (.error "unsafe.String: ptr is nil and len is not zero")):=rfl
    rw [hdef]
    simp [asInt,asIntOf,hmax]
   | @ptr b o i hE =>
     have hdef:∀ a,Builtin.unsafeString_ ⟨t::tys⟩ ty #[.pointer (some a),.int k (.ofNat 0)] =
       (do
        let n ← asInt (.int k (.ofNat 0))
        if n<0 then runtimePanic (.error "unsafe.String: len out of range")
        if n>IntKind.i64.max then unsupported (.unsafePointer "String: a length above the largest int")
        if n=0 then pure (.string .empty)
        else if ← variablesAt a (← elemOf t) n.toNat then do
         let s ← loadBytes a .empty n.toNat
         freeze a n.toNat
         pure (.string s)
        else unsupported (.unsafePointer "String: not so many bytes at ptr")):=fun a=>rfl
     rw [hdef]
     simp [asInt,asIntOf,hmax]
 |succ n =>
  simp only
  split<;>first|exact trivial|skip
  rename_i a t tys'
  obtain⟨b,o,sp⟩:=a
  cases hp with
  | @ptr _ _ i hE =>
  simp only
  split<;>first|exact trivial|skip
  rename_i r j hr hj
  split<;>first|exact trivial|skip
  rename_i e hjd hfz
  split<;>first|exact trivial|skip
  rename_i s hc hb
  simp only [Bool.and_eq_true] at hc
  obtain⟨⟨h1,h2⟩,h3⟩:=hc
  have h1:=Nat.eq_of_beq_eq_true h1
  have h2:=Nat.eq_of_beq_eq_true h2
  have h3:=Nat.le_of_ble_eq_true h3
  obtain⟨_,ns,hs,hlen,hcell⟩:=run_bytesAt H hE hb 0
  obtain⟨cells,el,fr,g1,g2⟩:=H.row hE (rowOf_of_rowW hr)
  have hsh:w.shape? i.blk=some (el,cells.size):=by simp [World.shape?,g1]
  have hload:=run_loadBytesN (P:=tb.p) (w:=w) ns ⟨i.blk,i.shift+o,none⟩ .empty (fun j x hx=>by rw [add_none];exact hcell j x hx)
  rw [hlen] at hload
  have hle:i.shift+o+(n+1)≤cells.size:=by
   have hlast:=hcell n (ns[n]'(by omega)) (List.getElem?_eq_getElem (by omega))
   simp only [World.cell?,g1] at hlast
   have:=(Array.getElem?_eq_some_iff.1 (by simpa using hlast)).1
   omega
  have hel:el=e:=by rw [g2.elem,h1]
  subst hel
  have hc1:tb.p.cellsOf el=1:=by rw [g2.elem];exact h2
  have hlies:=liesAt_row (P:=tb.p) hc1 (cells.size / tb.p.cellsOf el) (i.shift+o) (n+1) (by rw [hc1];simpa using hle)
  have hdef:Builtin.unsafeString_ ⟨t::tys'⟩ ty #[.pointer (some ⟨i.blk,i.shift+o,none⟩),.int k (.ofNat (n+1))] =
    (do
     let n ← asInt (.int k (.ofNat (n+1)))
     if n<0 then runtimePanic (.error "unsafe.String: len out of range")
     if n>IntKind.i64.max then unsupported (.unsafePointer "String: a length above the largest int")
     if n=0 then pure (.string .empty)
     else if ← variablesAt ⟨i.blk,i.shift+o,none⟩ (← elemOf t) n.toNat then do
      let s ← loadBytes ⟨i.blk,i.shift+o,none⟩ .empty n.toNat
      freeze ⟨i.blk,i.shift+o,none⟩ n.toNat
      pure (.string s)
     else unsupported (.unsafePointer "String: not so many bytes at ptr")):=rfl
  have hneg:¬ ((n:Int)+1<0):=by omega
  have h63:¬ ((9223372036854775807:Int)<(n:Int)+1):=by omega
  have hz:¬ ((n:Int)+1=0):=by omega
  have htn:((n:Int)+1).toNat=n+1:=by omega
  have hrun:(Builtin.unsafeString_ ⟨t::tys'⟩ ty #[.pointer (some ⟨i.blk,i.shift+o,none⟩),.int k (.ofNat (n+1))]).run tb.p w=.ok (.string s) (w.freeze ⟨i.blk,i.shift+o,none⟩ (n+1)):=by
   rw [hdef]
   simp [asInt,asIntOf,hmax,hneg,h63,hz,htn,variablesAt,hsh,elemOf,run_ty ok hj,hjd,hlies,hload,hs]
  obtain⟨q1,q2,q3,q4,q5,q6⟩:=freeze_eq g1 (o:=i.shift+o) (n:=n+1) (by simp)
  have hf:=g2.fz;rw [hfz] at hf
  have hf:fr.1=fr.2:=hf
  refine⟨_,_,E,hrun,.string _,H.mark (fz:=.rng o (o+(n+1))) hE hr g1 g2 q1 q2 q3 q4 q5 q6 ?_,MExt.put _ hE⟩
  rw [if_pos hf]
  show _=_
  congr 1
  omega
theorem run_opSAP (ok:TabsOk tb) {arr:TypeId} {x x':Value} (hx:VR E x x'):OpRes tb N w0 E m w (opSAP tb arr x) (Instr.arrayAt arr x'):=by
 unfold opSAP
 split<;>first|exact trivial|skip
 rename_i i a len c hi
 obtain⟨b,o,sp⟩:=a
 split<;>first|exact trivial|skip
 rename_i n el hd
 split<;>first|exact trivial|skip
 ·rename_i hn hsp
  simp only at hsp;subst hsp
  simp only [Bool.and_eq_true,Nat.ble_eq] at hn
  obtain⟨hn,hn1⟩:=hn
  cases hx with
  |slD _ _=>omega
  |sl l c h =>
   refine⟨_,?_,.ptr h⟩
   have:¬ (len<n):=by omega
   simp [Instr.arrayAt,run_ty ok hi,hd,this]
 ·rename_i hn hsp
  simp only at hsp;subst hsp
  simp only [Bool.and_eq_true,Nat.ble_eq] at hn
  obtain⟨hn,hn1⟩:=hn
  cases hx with
  |slD _ _=>omega
  |slX l c h =>
   refine⟨_,?_,.ptr h⟩
   have:¬ (len<n):=by omega
   simp [Instr.arrayAt,run_ty ok hi,hd,this]
theorem rowR_zero {sz:Nat} {E:Env} {blk:Nat} {elem:TypeId} {z:List Value} (hz:z.all flatV=true) {n:Nat} {cells:Array Value} (hc:cells.size=n) (hg:∀ j,j<n→∀ v,z[j%z.length]? = some v→cells[j]? = some v) :
  RowR sz E ⟨.lf,n,z,elem,.none,false⟩ ⟨blk,0,0⟩ cells elem (0,0):=by
 refine⟨rfl,?_,by simp [hc],fun _=>⟨rfl,rfl⟩,rfl⟩
 intro j v hv
 simp only [cellAt,T.get_lf] at hv
 split at hv
 ·rename_i hj
  have hj:j<n:=by simpa [Nat.blt_eq] using hj
  refine⟨v,by simpa using hg j hj v hv,?_⟩
  have hm:=List.mem_of_getElem? hv
  exact flatV_self (List.all_eq_true.1 hz v hm)
 ·simp at hv
theorem run_opAlloc (ok:TabsOk tb) {e:TypeId}:OpRes tb N w0 E m w (opAlloc tb e) (Instr.alloc e true undef):=by
 unfold opAlloc
 cases hj:ti tb e with
 |none=>exact trivial
 |some i =>
  simp only
  cases hz:i.hasZ with
  |false=>exact trivial
  |true =>
   obtain⟨z,h1,h2,h3,h4,_⟩:=ok.zc hj hz
   intro b hb
   refine⟨.pointer (some ⟨w.heap.size,0,none⟩),{ w with heap:=w.heap.push (.cells z.cells e) },_,0,0,?_,rfl,rfl,rfl,rfl,?_,?_,rfl⟩
   ·simp [Instr.alloc,run_zero ok hj h1,newVar,newRow,undef]
   ·have hzc:z.cells.toList=i.zc:=by rw [h2];cases z<;>rfl
    refine .row (rowR_zero (by rw [h2];exact h3) (by rw [← hzc];simp) ?_)
    intro j hj v hv
    rw [Nat.mod_eq_of_lt hj,← hzc] at hv
    simpa using hv
   ·exact .ptr (i:=⟨w.heap.size,0,0⟩) Env.add_at
theorem run_opBox {e:TypeId} {v v':Value} (hv:VR E v v'):OpRes tb N w0 E m w (opBox e v) (Instr.box e v'):=by
 intro b hb
 refine⟨.pointer (some ⟨w.heap.size,0,none⟩),{ w with heap:=w.heap.push (.cells v'.cells e) },_,0,0,?_,rfl,rfl,rfl,rfl,?_,?_,rfl⟩
 ·simp [Instr.box,newVar,newRow]
 ·have:=rowObj_new (P:=tb.p) (blk:=w.heap.size) (ex:=0) (elem:=e) (rest:=[]) (fz:=.none) (ext:=false) (fr:=(0,0)) (cells_freshE (i:=⟨w.heap.size,0,0⟩) hb hv.cells) (by simp) (by simp) rfl
  simpa using this
 ·exact .ptr (i:=⟨w.heap.size,0,0⟩) Env.add_at
theorem run_opMakeMap {t:TypeId} {r r':Option Value} (hr:OVR E r r'):OpRes tb N w0 E m w (opMakeMap r) (Instr.makeMap t r'):=by
 cases hr with
 |some h=>exact trivial
 |none =>
  intro b hb
  exact⟨.map (some w.heap.size),{ w with heap:=w.heap.push (.map #[] 0) },_,0,0,by simp [Instr.makeMap],rfl,rfl,rfl,rfl,.map .nil,.map (i:=⟨w.heap.size,0,0⟩) Env.add_at,rfl⟩
theorem bang_get {z:Array Value} {j n:Nat} (h:z.size≠0) {v:Value} (hv:z.toList[j%z.toList.length]? = some v) (hj:j<n):((Array.range n).map (z[· % z.size]!))[j]? = some v:=by
 have hz:j%z.size<z.size:=Nat.mod_lt _ (by omega)
 simp [hj,hz] at hv ⊢
 exact hv
theorem run_opMakeSlice (ok:TabsOk tb) {t:TypeId} {l l' c c':Value} (hl:VR E l l') (hc:VR E c c'):OpRes tb N w0 E m w (opMakeSlice tb t l c) (Instr.makeSlice t l' c'):=by
 unfold opMakeSlice
 split<;>first|exact trivial|skip
 rename_i k1 l k2 c
 cases hl;cases hc
 cases hi:ti tb t with
 |none=>exact trivial
 |some i =>
 simp only
 split<;>first|exact trivial|skip
 rename_i elem hd
 cases hj:ti tb elem with
 |none=>exact trivial
 |some e =>
 simp only
 split<;>first|exact trivial|skip
 rename_i hz hb
 simp only [Bool.and_eq_true,Nat.blt_eq] at hb
 obtain⟨⟨h1,h2⟩,h3⟩:=hb
 have h1:=Nat.le_of_ble_eq_true h1
 have h2:=Nat.le_of_ble_eq_true h2
 obtain⟨z,g1,g2,g3,g4,_⟩:=ok.zc hj hz
 have hzc:z.cells.toList=e.zc:=by rw [g2];cases z<;>rfl
 have hw:∀ n:Nat,n<9223372036854775808→IntKind.i64.wrap (n:Int)=(n:Int):=by
  intro n hn
  rw [wrap_i64];split<;>omega
 have hwc:=hw c h3
 have hwl:=hw l (by omega)
 have hbc:¬ (281474976710656<e.inf.bytes*c):=by omega
 have hbc':¬ ((281474976710656:Int)<(e.inf.bytes:Int)*(c:Int)):=by
  have:((e.inf.bytes*c:Nat):Int)=(e.inf.bytes:Int)*(c:Int):=by push_cast;rfl
  rw [← this];omega
 have hlc:¬ ((c:Int)<(l:Int)):=by omega
 have hcn:¬ ((c:Int)<0):=by omega
 have hln:¬ ((l:Int)<0):=by omega
 intro b hb
 have key:∃ cells:Array Value,cells.size=c*e.inf.size∧(∀ j,j<c*e.inf.size→∀ v,e.zc[j%e.zc.length]? = some v→cells[j]? = some v) ∧
   (Instr.makeSlice t (.int k1 (.ofNat l)) (.int k2 (.ofNat c))).run tb.p w=.ok (.slice (some ⟨w.heap.size,0,none⟩) l c) { w with heap:=w.heap.push (.cells cells elem) }:=by
  by_cases hn:c*e.inf.size=0
  ·refine⟨#[],by simp [hn],by rw [hn];intro j hj;omega,?_⟩
   have h0:c=0∨e.inf.size=0:=Nat.mul_eq_zero.1 hn
   simp [Instr.makeSlice,run_ty ok hi,hd,asInt,asIntOf,run_inf ok hj,hwc,hwl,hbc',hlc,hcn,hln,run_size ok hj,h0,newRow,hn]
   have h00:Array.map (fun (_:Nat)=>(default:Value)) (Array.range 0) = #[]:=Array.eq_empty_of_size_eq_zero (by simp)
   rw [h00]
  ·have h0:¬ (c=0∨e.inf.size=0):=fun h=>hn (Nat.mul_eq_zero.2 h)
   refine⟨(Array.range (c*e.inf.size)).map (z.cells[· % z.cells.size]!),by simp,?_,?_⟩
   ·intro j hj v hv
    refine bang_get ?_ (by rw [hzc];exact hv) hj
    have:z.cells.size=e.inf.size:=by rw [← g4,← hzc];simp
    rw [this];intro h;exact h0 (.inr h)
   ·simp [Instr.makeSlice,run_ty ok hi,hd,asInt,asIntOf,run_inf ok hj,hwc,hwl,hbc',hlc,hcn,hln,run_size ok hj,h0,newRow,run_zero ok hj g1]
    intro h;exact absurd h hn
 obtain⟨cells,q1,q2,q3⟩:=key
 refine⟨_,_,_,0,0,q3,rfl,rfl,rfl,rfl,.row (rowR_zero (by rw [g2];exact g3) q1 q2),?_,rfl⟩
 have:=VR.sl (E:=E.add b ⟨w.heap.size,0,0⟩) (b:=b) (o:=0) l c Env.add_at
 simpa using this
end
end Go.Ev

namespace Go.Ev
open Go.RowKit
inductive PartsR (E:Env):List (Nat × Value)→List (Nat × Value)→Prop where
 |nil:PartsR E [] []
 |cons {i:Nat} {v v':Value} {l l':List (Nat × Value)} (h:VR E v v') (t:PartsR E l l'):PartsR E ((i,v)::l) ((i,v')::l')
noncomputable def ovl (c:T Value) (d:Nat→Option Value) (j:Nat):Option Value :=
 match c.get j with
 |some v=>some v
 |none=>d j
structure FillR (E:Env) (c:T Value) (d:Nat→Option Value) (n:Nat) (cells:Array Value):Prop where
 size:cells.size=n
 get:∀ j v,j<n→ovl c d j=some v→∃ v',cells[j]? = some v'∧VR E v v'
 out:∀ j,n≤j→c.get j=none
theorem fill_rel {E:Env} {d:Nat→Option Value} {n:Nat} {place place':Nat→Option (Nat × Nat)} (hpl:∀ i p,place i=some p→place' i=some p):∀ {ps ps':List (Nat × Value)},PartsR E ps ps'→∀ {c c1:T Value} {cells:Array Value},
  fillA place n ps c=some c1→FillR E c d n cells→∃ cells1,Instr.fill place' cells ps'=some cells1∧FillR E c1 d n cells1:=by
 intro ps ps' h
 induction h with
 |nil=>intro c c1 cells hf hr;simp only [fillA,Option.some.injEq] at hf;subst hf;exact⟨cells,rfl,hr⟩
 | @cons i v v' l l' hv _ ih =>
   intro c c1 cells hf hr
   simp only [fillA] at hf
   split at hf<;>first|(simp at hf;done)|skip
   rename_i off sz hp
   split at hf<;>first|(simp at hf;done)|skip
   rename_i hc
   rw [Bool.and_eq_true] at hc
   have h1:=Nat.eq_of_beq_eq_true hc.1
   have h2:=Nat.le_of_ble_eq_true hc.2
   have hcl:=hv.cells
   have hlen:v'.cells.size=(cellsOfV v).length:=by rw [hcl.length];simp
   obtain⟨s1,s2⟩:=Go.Great.foldl_set off v'.cells.toList 0 cells
   have hs:v'.cells.zipIdx.foldl (fun cs (x:Value × Nat)=>cs.setIfInBounds (off+x.2) x.1) cells=(v'.cells.toList.zipIdx 0).foldl (fun cs (x:Value × Nat)=>cs.setIfInBounds (off+x.2) x.1) cells:=by
    rw [← Array.foldl_toList];simp
   obtain⟨cells1,g1,g2⟩:=ih hf (cells:=(v'.cells.toList.zipIdx 0).foldl (fun cs (x:Value × Nat)=>cs.setIfInBounds (off+x.2) x.1) cells) ⟨by rw [s1];exact hr.size,by
    intro j u hj hu
    rw [s2 j]
    simp only [ovl,T.get_setL] at hu
    have hlen':v'.cells.toList.length=(cellsOfV v).length:=by simpa using hlen
    by_cases ha:j<off
    ·rw [if_neg (by omega)]
     rw [if_pos ha] at hu
     exact hr.get j u hj hu
    ·rw [if_neg ha] at hu
     by_cases hb:j<off+(cellsOfV v).length
     ·rw [if_pos (by rw [hlen',hr.size];omega)]
      rw [if_pos hb] at hu
      rw [List.getElem?_eq_getElem (by omega)] at hu
      simp only [Option.some.injEq] at hu
      obtain⟨u',h3,h4⟩:=hcl.get (j-off) u (by rw [List.getElem?_eq_getElem (by omega)];simp [hu])
      exact⟨u',by simpa using h3,h4⟩
     ·rw [if_neg (by rw [hlen'];omega)]
      rw [if_neg hb] at hu
      exact hr.get j u hj hu,by
    intro j hj
    rw [T.get_setL]
    rw [if_neg (by omega),if_neg (by omega)]
    exact hr.out j hj⟩
   refine⟨cells1,?_,g2⟩
   unfold Instr.fill
   rw [hpl i _ hp]
   simp only
   rw [if_neg (by rw [hlen,hr.size];simp;omega),hs]
   exact g1
theorem listOf_get (c:T Value):∀ (z:List Value) (i j:Nat),(listOf c z i)[j]? = (z[j]?).map fun v=>(c.get (i+j)).getD v
 | [],i,j=>by simp [listOf]
 |v::z,i,0=>by
  simp only [listOf,List.getElem?_cons_zero,Option.map_some,Nat.add_zero]
  cases c.get i<;>rfl
 |v::z,i,j+1=>by
  simp only [listOf,List.getElem?_cons_succ,listOf_get c z (i+1) j]
  rw [show i+1+j=i+(j+1) from by omega]
theorem listOf_length (c:T Value):∀ (z:List Value) (i:Nat),(listOf c z i).length=z.length
 | [],i=>rfl
 |v::z,i=>by simp [listOf,listOf_length c z]
theorem FillR.list {E:Env} {c:T Value} {z:List Value} {cells:Array Value} (h:FillR E c (z[·]?) z.length cells):VRs E (listOf c z 0) cells.toList:=by
 refine VRs.of_get (by rw [listOf_length];simpa using h.size.symm) ?_
 intro j v v' hv hv'
 rw [listOf_get] at hv
 have hj:j<z.length:=by
  by_cases e:j<z.length
  ·exact e
  ·rw [List.getElem?_eq_none (by omega)] at hv;simp at hv
 obtain⟨u,h1,h2⟩:=h.get j v hj (by
  unfold ovl
  rw [List.getElem?_eq_getElem hj] at hv
  simp only [List.getElem?_eq_getElem hj]
  simp only [Option.map_some,Nat.zero_add] at hv
  cases hc:c.get j with
  |none=>rw [hc] at hv;exact hv
  |some y=>rw [hc] at hv;exact hv)
 have:cells[j]? = some v':=by simpa using hv'
 rw [this] at h1
 obtain rfl:=Option.some.inj h1
 exact h2
section
variable {tb:Tabs} {N:Nat} {w0:World} {E:Env} {m:Mem} {w:World}
theorem fillR_zero {z:Value} (hz:(cellsOfV z).all flatV=true):FillR E .lf ((cellsOfV z)[·]?) (cellsOfV z).length z.cells:=by
 have hzc:z.cells.toList=cellsOfV z:=by cases z<;>rfl
 refine⟨by rw [← hzc];simp,?_,fun j _=>T.get_lf j⟩
 intro j v hj hv
 simp only [ovl,T.get_lf] at hv
 refine⟨v,?_,flatV_self (List.all_eq_true.1 hz v (List.mem_of_getElem? hv))⟩
 rw [← hzc] at hv;simpa using hv
theorem run_buildA (ok:TabsOk tb) {t:TypeId} {ps ps':List (Nat × Value)} (hp:PartsR E ps ps') {v:Value} (h:buildA tb t ps=some v):RdOk tb E w v (Instr.build t ⟨ps'⟩):=by
 unfold buildA at h
 obtain⟨i,hi,h1⟩:=oB_some.1 h
 clear h
 split at h1<;>first|(simp at h1;done)|skip
 ·rename_i fs hz hd
  obtain⟨c,hc,h2⟩:=oB_some.1 h1
  simp only [Option.some.injEq] at h2;subst h2
  obtain⟨z,g1,g2,g3,g4,g5⟩:=ok.zc hi hz
  have hfl:=(mkTI_some (ok.types t i hi)).2.2.2.2.2.1
  have hpl:fs.toList.mapM (fun f=>(tb.p.info? f.type).map fun i=>(f.offset,i.size))=some (fs.toList.map fun f=>(f.offset,tb.p.cellsOf f.type)):=by
   have hall:=g5 fs hd
   generalize fs.toList=l at hall ⊢
   induction l with
   |nil=>rfl
   |cons f l ih =>
    have h0:=hall f (by simp)
    obtain⟨q,hq⟩:=Option.isSome_iff_exists.1 h0
    rw [List.mapM_cons,ih (fun f hf=>hall f (by simp [hf]))]
    simp [hq,Program.cellsOf]
  have hrp:=run_places (P:=tb.p) w _ _ hpl
  rw [g2] at hc
  obtain⟨cells1,h3,h4⟩:=fill_rel (E:=E) (d:=((cellsOfV z)[·]?)) (place':=((fs.toList.map fun f=>(f.offset,tb.p.cellsOf f.type)).toArray[·]?)) (by
   intro j p hp
   unfold placeS at hp
   rw [hfl,hd] at hp
   simp only at hp
   rw [List.getElem?_map] at hp
   cases hj:fs.toList[j]? with
   |none=>rw [hj] at hp;simp at hp
   |some f =>
    rw [hj] at hp;simp at hp;subst hp
    have hj':fs[j]? = some f:=by simpa using hj
    simp [hj']) hp hc (fillR_zero g3)
  refine⟨.agg cells1,?_,.agg (by rw [g2];exact h4.list)⟩
  simp [Instr.build,run_zero ok hi g1,run_ty ok hi,hd,Array.mapM_eq_mapM_toList,hrp]
  simp at h3
  simp [h3]
 ·rename_i n elem hz hd
  obtain⟨e,he,h1b⟩:=oB_some.1 h1
  obtain⟨c,hc,h2⟩:=oB_some.1 h1b
  simp only [Option.some.injEq] at h2;subst h2
  obtain⟨z,g1,g2,g3,g4,g5⟩:=ok.zc hi hz
  rw [g2] at hc
  obtain⟨cells1,h3,h4⟩:=fill_rel (E:=E) (d:=((cellsOfV z)[·]?)) (place':=fun j=>some (j*e.inf.size,e.inf.size)) (fun _ _ h=>h) hp hc (fillR_zero g3)
  refine⟨.agg cells1,?_,.agg (by rw [g2];exact h4.list)⟩
  simp [Instr.build,run_zero ok hi g1,run_ty ok hi,hd,run_size ok he,h3]
theorem run_opBuildSlice (ok:TabsOk tb) {t:TypeId} {len:Nat} {ps ps':List (Nat × Value)} (hp:PartsR E ps ps'):OpRes tb N w0 E m w (opBuildSlice tb t len ps) (Instr.buildSlice t len ⟨ps'⟩):=by
 unfold opBuildSlice
 cases hi:ti tb t with
 |none=>exact trivial
 |some i =>
 simp only
 split<;>first|exact trivial|skip
 rename_i elem hd
 cases hj:ti tb elem with
 |none=>exact trivial
 |some e =>
 simp only
 split<;>first|exact trivial|skip
 rename_i hz hle
 cases hc:fillA (fun j=>some (j*e.inf.size,e.inf.size)) (len*e.inf.size) ps .lf with
 |none=>exact trivial
 |some c =>
 have hle:=Nat.le_of_ble_eq_true hle
 obtain⟨z,g1,g2,g3,g4,g5⟩:=ok.zc hj hz
 have hzc:z.cells.toList=e.zc:=by rw [g2];cases z<;>rfl
 have key:∃ cells0:Array Value,(∀ E',FillR E' .lf (fun j=>e.zc[j%e.zc.length]?) (len*e.inf.size) cells0)∧∀ cells1,Instr.fill (fun i=>some (i*e.inf.size,e.inf.size)) cells0 ps'=some cells1 →
   (Instr.buildSlice t len ⟨ps'⟩).run tb.p w=.ok (.slice (some ⟨w.heap.size,0,none⟩) len len) { w with heap:=w.heap.push (.cells cells1 elem) }:=by
  by_cases hn:len*e.inf.size=0
  ·refine⟨#[],fun E'=>⟨by simp [hn],fun j v hj=>by omega,fun j _=>T.get_lf j⟩,fun cells1 hf=>?_⟩
   have h00:∀ f:Nat→Value,Array.map f (Array.range 0) = #[]:=fun f=>Array.eq_empty_of_size_eq_zero (by simp)
   have h0:len=0∨e.inf.size=0:=Nat.mul_eq_zero.1 hn
   simp [Instr.buildSlice,run_ty ok hi,hd,run_size ok hj,h0,newRow,hn,h00,hf]
  ·have h0:¬ (len=0∨e.inf.size=0):=fun h=>hn (Nat.mul_eq_zero.2 h)
   have hle':¬ (16777216<len*e.inf.size):=by omega
   refine⟨(Array.range (len*e.inf.size)).map (z.cells[· % z.cells.size]!),fun E'=>⟨by simp,?_,fun j _=>T.get_lf j⟩,fun cells1 hf=>?_⟩
   ·intro j v hj hv
    simp only [ovl,T.get_lf] at hv
    refine⟨v,bang_get ?_ (by rw [hzc];exact hv) hj,flatV_self (List.all_eq_true.1 g3 v (by rw [← g2];exact List.mem_of_getElem? hv))⟩
    have:z.cells.size=e.inf.size:=by rw [← g4,← hzc];simp
    rw [this];intro h;exact h0 (.inr h)
   ·simp [Instr.buildSlice,run_ty ok hi,hd,run_size ok hj,h0,newRow,hle',run_zero ok hj g1,hn,hf]
 obtain⟨cells0,q1,q2⟩:=key
 intro b hb
 obtain⟨cells1,h3,h4⟩:=fill_rel (E:=E) (place':=fun j=>some (j*e.inf.size,e.inf.size)) (fun _ _ h=>h) hp hc (q1 E)
 refine⟨_,_,_,0,0,q2 cells1 h3,rfl,rfl,rfl,rfl,.row ⟨rfl,?_,by simp [h4.size],fun _=>⟨rfl,rfl⟩,rfl⟩,?_,rfl⟩
 ·intro j v hv
  have hj:=cellAt_lt hv
  simp only at hj
  obtain⟨v',h5,h6⟩:=h4.get j v hj (by
   simp only [cellAt,Nat.blt_eq,hj] at hv
   unfold ovl
   split at hv<;>first|(simp at hv;done)|skip
   exact hv)
  exact⟨v',by simpa using h5,h6.mono (Env.add_le hb)⟩
 ·have:=VR.sl (E:=E.add b ⟨w.heap.size,0,0⟩) (b:=b) (o:=0) len len Env.add_at
  simpa using this
end
end Go.Ev

namespace Go.Ev
open Go.RowKit
structure OneR (w w':World) (g:Nat) (o:Obj):Prop where
 at_:w'.heap[g]? = some o
 other:∀ k,k≠g→w'.heap[k]? = w.heap[k]?
 size:w'.heap.size=w.heap.size
 os:w'.os=w.os
 tape:w'.tape=w.tape
 output:w'.output=w.output
theorem OneR.trans {a b c:World} {g:Nat} {o q:Obj} (h:OneR a b g o) (k:OneR b c g q):OneR a c g q :=
 ⟨k.at_,fun x hx=>(k.other x hx).trans (h.other x hx),k.size.trans h.size,k.os.trans h.os,k.tape.trans h.tape,k.output.trans h.output⟩
theorem run_storeList {P:Program}:∀ (l:List Value) (g o i:Nat) (w:World) (cells:Array Value) (el:TypeId) (fr:Nat × Nat),w.heap[g]? = some (.cells cells el fr)→o+i+l.length≤cells.size→(∀ v∈l,v.oneCell'=true) →
  (∀ j,j<l.length→¬ (fr.1≤o+i+j∧o+i+j<fr.2)) →
  ∃ cells' w',(storeCells ⟨g,o,none⟩ l i).run P w=.ok () w'∧OneR w w' g (.cells cells' el fr)∧cells'.size=cells.size∧∀ k,cells'[k]? = if o+i≤k∧k<o+i+l.length then l[k-(o+i)]? else cells[k]?
 | [],g,o,i,w,cells,el,fr,hg,_,_,_=>by
   refine⟨cells,w,rfl,⟨hg,fun _ _=>rfl,rfl,rfl,rfl,rfl⟩,rfl,fun k=>?_⟩
   rw [if_neg (by simp)]
 |v::l,g,o,i,w,cells,el,fr,hg,hlen,h1,hf=>by
  simp only [List.length_cons] at hlen
  have hlt:o+i<cells.size:=by omega
  have hcell:w.cell? ⟨g,o+i,none⟩=some cells[o+i]:=by simp [World.cell?,hg,hlt]
  have hz:w.frozen? ⟨g,o+i,none⟩=false:=by
   have:=hf 0 (by simp)
   obtain⟨lo,hi⟩:=fr
   simp only [World.frozen?,hg]
   simp only [Nat.add_zero] at this
   simpa using this
  have hst:(store ((⟨g,o,none⟩:Addr).add i) v).run P w=.ok () (w.setCell ⟨g,o+i,none⟩ v):=by
   rw [add_none,run_store P w _ v _ (h1 v (by simp)),hcell]
   rw [hz];rfl
  have hone:OneR w (w.setCell ⟨g,o+i,none⟩ v) g (.cells (cells.setIfInBounds (o+i) v) el fr):=by
   refine⟨?_,?_,by simp [World.setCell],rfl,rfl,rfl⟩
   ·simp [World.setCell,Array.getElem?_modify,hg]
   ·intro k hk
    simp only [World.setCell,Array.getElem?_modify]
    rw [if_neg (fun e=>hk e.symm)]
  obtain⟨cells',w',g1,g2,g3,g4⟩:=run_storeList (P:=P) l g o (i+1) (w.setCell ⟨g,o+i,none⟩ v) (cells.setIfInBounds (o+i) v) el fr hone.at_ (by simp;omega) (fun x hx=>h1 x (by simp [hx])) (fun j hj=>by
   have:=hf (j+1) (by simp;omega)
   rwa [show o+i+(j+1)=o+(i+1)+j from by omega] at this)
  refine⟨cells',w',?_,hone.trans g2,by rw [g3];simp,fun k=>?_⟩
  ·simp only [storeCells,Sem.run_bind,hst,Result.andThen_ok,g1]
  ·rw [g4 k]
   simp only [List.length_cons]
   by_cases e:k=o+i
   ·subst e
    rw [if_neg (by omega),if_pos (by omega)]
    rw [Array.getElem?_setIfInBounds,if_pos rfl,if_pos hlt]
    simp
   ·by_cases hin:o+(i+1)≤k∧k<o+(i+1)+l.length
    ·rw [if_pos hin,if_pos (by omega)]
     rw [show k-(o+i)=(k-(o+(i+1)))+1 from by omega,List.getElem?_cons_succ]
    ·rw [if_neg hin,if_neg (by omega)]
     rw [Array.getElem?_setIfInBounds,if_neg (fun h=>e h.symm)]
theorem oneC_rel {E:Env} {v v':Value} (h:VR E v v') (ho:oneC v=true):v'.oneCell'=true:=by
 cases h<;>first|rfl|(simp [oneC] at ho)
theorem VRs.all_one {E:Env}:∀ {l l':List Value},VRs E l l'→l.all oneC=true→∀ v∈l',v.oneCell'=true
 |_,_,.nil,_=>by simp
 |_,_,.cons h t,ho=>by
  rw [List.all_cons,Bool.and_eq_true] at ho
  intro v hv
  rcases List.mem_cons.1 hv with rfl|hv
  ·exact oneC_rel h ho.1
  ·exact VRs.all_one t ho.2 v hv
theorem cellAt_of {r:Row} {j:Nat} (hj:j<r.n):cellAt r j=match r.ov.get j with|some v=>some v|none=>r.z[j%r.z.length]? := by
 obtain⟨ov,n,z,e,f,x⟩:=r
 have hj:j<n:=hj
 simp only [cellAt]
 rw [show Nat.blt j n=true from by simpa [Nat.blt_eq] using hj]
 rfl
section
variable {tb:Tabs} {N:Nat} {w0:World} {E:Env} {m:Mem} {w:World}
theorem setCells_some {r r1:Row} {o:Nat} {l:List Value} (h:setCells r o l=some r1):r1=⟨T.setL l o r.ov,r.n,r.z,r.elem,r.fz,r.ext⟩∧o+l.length≤r.n∧l.all oneC=true∧fzOk r.fz o l.length=true:=by
 obtain⟨ov,n,z,elem,fz,ext⟩:=r
 simp only [setCells] at h
 split at h<;>first|(simp at h;done)|skip
 rename_i hb
 rw [Bool.and_eq_true] at hb
 split at h<;>first|(simp at h;done)|skip
 rename_i hf
 simp only [Option.some.injEq] at h
 exact⟨h.symm,Nat.le_of_ble_eq_true hb.1,hb.2,hf⟩
theorem run_storeCellsA (H:MR tb.p N w0 E m w) {b o:Nat} {i:Info} (hE:E b=some i) {l l':List Value} (hl:VRs E l l') {m':Mem} (h:storeCellsA m b o l=some m') :
  ∃ w',(storeCells ⟨i.blk,i.shift+o,none⟩ l').run tb.p w=.ok () w'∧MR tb.p N w0 E m' w'∧MExt m.next E m E m':=by
 unfold storeCellsA at h
 obtain⟨r,hr,h1⟩:=oB_some.1 h
 obtain⟨r1,hr1,h2⟩:=oB_some.1 h1
 simp only [Option.some.injEq] at h2;subst h2
 obtain⟨rfl,hle,hone,hfz⟩:=setCells_some hr1
 obtain⟨cells,el,fr,g1,g2⟩:=H.row hE (rowOf_of_rowW hr)
 have hlen:=hl.length
 obtain⟨cells',w',q1,q2,q3,q4⟩:=run_storeList (P:=tb.p) l' i.blk (i.shift+o) 0 w cells el fr g1 (by rw [g2.size,← hlen];omega) (hl.all_one hone) (by
  intro j hj
  have hf:=g2.fz
  rw [← hlen] at hj
  unfold fzOk at hfz
  cases hz:r.fz with
  |none=>rw [hz] at hf;have hf:fr.1=fr.2:=hf;omega
  |str =>
   rw [hz] at hf;have hf:fr.1=fr.2∨cells.size≤fr.1:=hf
   have:=g2.size
   omega
  |rng lo hi =>
   rw [hz] at hf hfz
   have hf:fr=(i.shift+lo,i.shift+hi):=hf
   subst hf
   simp only [Bool.or_eq_true] at hfz
   rcases hfz with hfz|hfz
   ·have:=Nat.le_of_ble_eq_true hfz;simp only;omega
   ·have:=Nat.le_of_ble_eq_true hfz;simp only;omega)
 refine⟨w',q1,?_,MExt.put _ hE⟩
 refine H.put hE (rowW_some hr) rfl (.inl rfl) q2.size q2.other q2.os q2.tape q2.output fun _=>⟨_,q2.at_,.row ⟨g2.elem,?_,by rw [q3];exact g2.size,g2.exact',by rw [q3];exact g2.fz⟩⟩
 intro j v hv
 have hj:=cellAt_lt hv
 simp only at hj
 rw [q4]
 rw [cellAt_of (r:=⟨T.setL l o r.ov,r.n,r.z,r.elem,r.fz,r.ext⟩) hj] at hv
 simp only [T.get_setL] at hv
 by_cases ha:j<o
 ·rw [if_pos ha] at hv
  rw [if_neg (by omega)]
  exact g2.cell j v (by rw [cellAt_of hj];exact hv)
 ·rw [if_neg ha] at hv
  by_cases hb:j<o+l.length
  ·rw [if_pos hb,List.getElem?_eq_getElem (by omega)] at hv
   simp only [Option.some.injEq] at hv
   obtain⟨v',h3,h4⟩:=hl.get (j-o) v (by rw [List.getElem?_eq_getElem (by omega)];simp [hv])
   rw [if_pos (by omega)]
   exact⟨v',by rw [show i.shift+j-(i.shift+o+0)=j-o from by omega];exact h3,h4⟩
  ·rw [if_neg hb] at hv
   rw [if_neg (by omega)]
   exact g2.cell j v (by rw [cellAt_of hj];exact hv)
def WuOk (tb:Tabs) (N:Nat) (w0:World) (E:Env) (m:Mem) (w:World) (m':Mem) (s:Sem Unit):Prop :=
 ∃ w' E',s.run tb.p w=.ok () w'∧MR tb.p N w0 E' m' w'∧MExt m.next E m E' m'
theorem run_storeA (ok:TabsOk tb) (H:MR tb.p N w0 E m w) {t b o:Nat} {i:Info} (hE:E b=some i) {v v':Value} (hv:VR E v v') {m':Mem} (h:storeA tb t m b o v=some m'):WuOk tb N w0 E m w m' (storeVar t ⟨i.blk,i.shift+o,none⟩ v'):=by
 unfold storeA at h
 obtain⟨j,hj,h1⟩:=oB_some.1 h
 split at h1<;>first|(simp at h1;done)|skip
 rename_i hb
 have hb:=Nat.eq_of_beq_eq_true hb
 obtain⟨w',q1,q2,q3⟩:=run_storeCellsA H hE hv.cells h1
 refine⟨w',E,?_,q2,q3⟩
 have hlen:v'.cells.size=j.inf.size:=by rw [← hb,hv.cells.length];simp
 simp [storeVar,run_size ok hj,hlen,q1]
def OpResU (tb:Tabs) (N:Nat) (w0:World) (E:Env) (m:Mem) (w:World) (r:OR) (s:Sem Unit):Prop :=
 match r with
 | .r _=>False
 | .f _ _=>False
 | .e v m'=>v=undef∧WuOk tb N w0 E m w m' s
 | .c=>True
 | .bad=>True
theorem OpResU.of {x:Option Mem} {s:Sem Unit} (h:∀ m',x=some m'→WuOk tb N w0 E m w m' s):OpResU tb N w0 E m w (oM x) s:=by
 cases x with
 |none=>exact trivial
 |some m'=>exact⟨rfl,h m' rfl⟩
theorem run_opStore (ok:TabsOk tb) (H:MR tb.p N w0 E m w) {t:TypeId} {a a' v v':Value} (ha:VR E a a') (hv:VR E v v'):OpResU tb N w0 E m w (opStore tb t m a v) (Instr.storeAt t a' v'):=by
 unfold opStore
 cases ha with
 | @ptr b o i hE =>
   refine OpResU.of fun m' h=>?_
   obtain⟨w',E',q1,q2,q3⟩:=run_storeA ok H hE hv h
   exact⟨w',E',by simpa [Instr.storeAt,Instr.sureAddr] using q1,q2,q3⟩
 |_=>exact trivial
theorem run_firstA (H:MR tb.p N w0 E m w) {sz n k:Nat} (hk:k=n*sz) {x x':Value} (hx:VR E x x') (hn:∀ a l c,x=.slice a l c→n≤l) {l:List Value} (h:firstA m k n x=some l):∃ l',VRs E l l'∧∀ w',w'.heap=w.heap→(Builtin.firstCells sz n x').run tb.p w'=.ok ⟨l'⟩ w':=by
 unfold firstA at h
 split at h
 ·rename_i a len c
  have hx':(∃ i o' c',E a.block=some i∧x'=.slice (some ⟨i.blk,o',none⟩) len c'∧(len≠0→o'=i.shift+a.off))∨(len=0∧∃ a',x'=.slice (some a') 0 0):=by
   cases hx with
   |sl l c h=>exact .inl ⟨_,_,_,‹E _=some _›,rfl,fun _=>rfl⟩
   |slX l c h=>exact .inl ⟨_,_,_,‹E _=some _›,rfl,fun _=>rfl⟩
   |slE0 h hx=>exact .inl ⟨_,_,_,‹E _=some _›,rfl,fun h=>absurd rfl h⟩
   |slE1 h hx=>exact .inl ⟨_,_,_,‹E _=some _›,rfl,fun h=>absurd rfl h⟩
   |slD a b=>exact .inr ⟨rfl,_,rfl⟩
  rcases hx' with ⟨i,o',c',hE,rfl,ho⟩|⟨rfl,a',rfl⟩
  case inr =>
   split at h
   ·rename_i hk
    simp only [Option.some.injEq] at h;subst h
    exact⟨[],.nil,fun w' _=>by simp [Builtin.firstCells,← hk,loadCells,loadCellsFrom]⟩
   ·exfalso
    rename_i k hk
    have:=hn _ _ _ rfl
    have:n=0:=by omega
    subst this;simp at hk
  split at h
  ·simp only [Option.some.injEq] at h;subst h
   exact⟨[],.nil,fun w' _=>by simp [Builtin.firstCells,← hk,loadCells,loadCellsFrom]⟩
  ·rename_i k
   obtain⟨r,hr,h1⟩:=oB_some.1 h
   have hl0:len≠0:=by
    have:=hn _ _ _ rfl
    intro e;subst e
    have:n=0:=by omega
    subst this;simp at hk
   obtain rfl:=ho hl0
   obtain⟨l',q1,q2,q3⟩:=H.cells hE hr h1
   refine⟨l',q1,fun w' hw'=>?_⟩
   simp only [Builtin.firstCells,← hk]
   have:=run_loadCells_list (P:=tb.p) (w:=w') ⟨i.blk,i.shift+a.off,none⟩ l' (fun j v hv=>by
    rw [add_none]
    have:=q3 j v hv
    unfold World.cell? at this ⊢
    rw [hw'];exact this)
   rw [q2] at this;exact this
 ·simp only [Option.some.injEq] at h;subst h
  cases hx
  exact⟨[],.nil,fun _ _=>rfl⟩
 ·rename_i s
  simp only [Option.some.injEq] at h;subst h
  cases hx
  refine⟨u8s (s.data.toList.take n),u8s_self _,fun w' _=>?_⟩
  simp only [Builtin.firstCells,Sem.run_pure]
  congr 1
  apply Array.ext'
  simp [u8s_eq]
 ·simp at h
end
end Go.Ev

