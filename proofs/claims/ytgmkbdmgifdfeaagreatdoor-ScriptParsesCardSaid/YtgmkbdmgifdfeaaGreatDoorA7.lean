/- A part of a proof: ScriptParses. -/
import Derived.Laws.RangeString
import Derived.Test.YtgmkbdmgifdfeaaGreatDoorA6
set_option linter.unusedVariables false
set_option linter.unusedSimpArgs false
namespace Go.Ev
open Go.RowKit
section
variable {tb:Tabs} {N:Nat} {w0:World} {E:Env} {m:Mem} {w:World}
theorem sameK1_bits {E:Env} {x y x' y':Value} (hx:VR E x x') (hy:VR E y y') (h:sameK1 x y=true) (n:Nat):Instr.sameBits n x' y'=true:=by
 unfold sameK1 at h
 split at h
 ·rw [Bool.and_eq_true] at h
  cases hx;cases hy
  have h1:=kEq_true h.1
  have h2:=h.2;rw [intEq_eq] at h2
  unfold Instr.sameBits
  simp [h1]
  simpa using h2
 ·cases hx;cases hy
  rename_i a b
  rw [bytesEq_eq] at h
  unfold Instr.sameBits
  rw [beq_toListBytes,toList_eq,toList_eq];exact h
 ·simp at h
theorem sameKs_bits {E:Env} (n:Nat):∀ {l k l' k':List Value},VRs E l l'→VRs E k k'→sameKs l k=true→l'.length=k'.length∧((l'.zip k').all fun (x,y)=>Instr.sameBits n x y)=true
 | [],[],_,_,.nil,.nil,_=>⟨rfl,rfl⟩
 |x::l,y::k,_,_,.cons h t,.cons h' t',hs=>by
  simp only [sameKs] at hs
  split at hs
  ·rename_i h1
   obtain⟨i1,i2⟩:=sameKs_bits n t t' hs
   refine⟨by simp [i1],?_⟩
   simp only [List.zip_cons_cons,List.all_cons,Bool.and_eq_true]
   exact⟨sameK1_bits h h' h1 n,i2⟩
  ·simp at hs
 | [],y::k,_,_,.nil,.cons _ _,hs=>by simp [sameKs] at hs
 |x::l,[],_,_,.cons _ _,.nil,hs=>by simp [sameKs] at hs
theorem sameK_bits {E:Env} {x y x' y':Value} (hx:VR E x x') (hy:VR E y y') (h:sameK x y=true):Instr.sameBits 10000 x' y'=true:=by
 unfold sameK at h
 split at h
 ·rename_i a b
  cases hx with
  |agg hx=>cases hy with
   |agg hy =>
    obtain⟨i1,i2⟩:=sameKs_bits 9999 hx hy h
    unfold Instr.sameBits
    simp only [Array.size,i1,beq_self_eq_true,Bool.true_and]
    exact i2
 ·exact sameK1_bits hx hy h _
theorem setEntry_get (f:MapEntry→MapEntry):∀ (es:List MapEntry) (i j:Nat),(setEntry f es i)[j]? = if j=i then (es[j]?).map f else es[j]?
 | [],i,j=>by simp [setEntry]
 |e::es,0,0=>by simp [setEntry]
 |e::es,0,j+1=>by simp [setEntry]
 |e::es,i+1,0=>by simp [setEntry]
 |e::es,i+1,j+1=>by simp [setEntry,setEntry_get f es i j]
theorem setEntry_modify (f:MapEntry→MapEntry) (es:List MapEntry) (i:Nat):(⟨es⟩:Array MapEntry).modify i f=⟨setEntry f es i⟩:=by
 apply Array.ext_getElem?
 intro j
 rw [Array.getElem?_modify]
 have:(⟨setEntry f es i⟩:Array MapEntry)[j]? = (setEntry f es i)[j]? := by simp
 rw [this,setEntry_get]
 by_cases h:j=i
 ·rw [if_pos h.symm,if_pos h];simp
 ·rw [if_neg (fun e=>h e.symm),if_neg h];simp
theorem EntR.setEntry {E:Env} {f f':MapEntry→MapEntry} (hf:∀ k k' v v' b,VR E k k'→VR E v v'→VR E (f ⟨k,v,b⟩).key (f' ⟨k',v',b⟩).key∧VR E (f ⟨k,v,b⟩).val (f' ⟨k',v',b⟩).val∧(f ⟨k,v,b⟩).born=(f' ⟨k',v',b⟩).born) {l l':List MapEntry} (h:EntR E l l') :
  ∀ i,EntR E (Ev.setEntry f l i) (Ev.setEntry f' l' i):=by
 induction h with
 |nil=>intro i;exact .nil
 | @cons k k' v v' b l l' hk hv t ih =>
   intro i
   cases i with
   |zero =>
    simp only [Ev.setEntry]
    obtain⟨h1,h2,h3⟩:=hf k k' v v' b hk hv
    cases he:f ⟨k,v,b⟩ with|mk a1 a2 a3 =>
    cases he':f' ⟨k',v',b⟩ with|mk b1 b2 b3 =>
    rw [he,he'] at h1 h2 h3
    simp only at h1 h2 h3
    subst h3
    exact .cons h1 h2 t
   |succ i=>simp only [Ev.setEntry];exact .cons hk hv (ih i)
theorem EntR.eraseAt {E:Env} {l l':List MapEntry} (h:EntR E l l'):∀ i,EntR E (Ev.eraseAt l i) (Ev.eraseAt l' i):=by
 induction h with
 |nil=>intro i;exact .nil
 |cons hk hv t ih =>
  intro i
  cases i with
  |zero=>exact t
  |succ i=>exact .cons hk hv (ih i)
theorem eraseAt_eq:∀ (es:List MapEntry) (i:Nat),eraseAt es i=es.eraseIdx i
 | [],i=>by simp [eraseAt]
 |e::es,0=>by simp [eraseAt]
 |e::es,i+1=>by simp [eraseAt,eraseAt_eq es i]
theorem run_mapUpdateA (ok:TabsOk tb) (H:MR tb.p N w0 E m w) {t:TypeId} {x x' k k' v v':Value} (hx:VR E x x') (hk:VR E k k') (hv:VR E v v') {m':Mem} (h:mapUpdateA tb t m x k v=some m') :
  WuOk tb N w0 E m w m' (Instr.mapUpdate t x' k' v'):=by
 unfold mapUpdateA at h
 obtain⟨i,hi,h1⟩:=oB_some.1 h
 clear h
 split at h1<;>first|(simp at h1;done)|skip
 rename_i kt et r hd
 split at h1<;>first|(simp at h1;done)|skip
 rename_i hko
 obtain⟨⟨es,c⟩,hm,h2⟩:=oB_some.1 h1
 obtain⟨q,hq,h3⟩:=oB_some.1 h2
 cases hx with
 | @map _ j hE =>
 obtain⟨es',hh,hes⟩:=H.map hE hm
 obtain⟨q',h4,h5,h6⟩:=run_findKey ok H hk hko hes hq
 have hu:(underlying t).run tb.p w=.ok (.map kt et) w:=by rw [← hd];exact run_ty ok hi
 have hck:=fun em=>run_checkKey (tb:=tb) (w:=w) ok hk hko em 9998
 have hck':∀ em,(Instr.checkKey em 10000 kt k').run tb.p w=.ok () w:=hck
 unfold Instr.mapUpdate
 cases h5 with
 |none =>
  simp only [Option.some.injEq] at h3;subst h3
  obtain⟨p1,p2⟩:=H.putMap hE hm (es2:=es++[⟨k,v,c⟩]) (es2':=es'++[⟨k',v',c⟩]) (c2:=c+1) (hes.append (.cons hk hv .nil))
  refine⟨_,E,?_,p2,.put _ hE⟩
  have hpush:(⟨es'⟩:Array MapEntry).push ⟨k',v',c⟩=⟨es'++[⟨k',v',c⟩]⟩:=by simp
  simp only [Sem.run_bind,hu,Result.andThen_ok,run_getMap hh,hck',h4]
  rw [hpush];exact p1
 | @some i v1 v1' hv1 =>
   obtain⟨e,he,h7⟩:=oB_some.1 h3
   split at h7<;>first|(simp at h7;done)|skip
   rename_i hsame
   simp only [Option.some.injEq] at h7;subst h7
   obtain⟨e',he',hek,hev,heb⟩:=hes.get i e he
   have hbits:=sameK_bits hek hk hsame
   obtain⟨p1,p2⟩:=H.putMap hE hm (es2:=setEntry (fun e => { e with key:=k,val:=v }) es i) (es2':=setEntry (fun e => { e with key:=k',val:=v' }) es' i) (c2:=c) (hes.setEntry (fun _ _ _ _ _ _ _=>⟨hk,hv,rfl⟩) i)
   refine⟨_,E,?_,p2,.put _ hE⟩
   have he2:(⟨es'⟩:Array MapEntry)[i]? = some e':=by simpa using he'
   have hstay:(Instr.keyThatStays e'.key k').run tb.p w=.ok k' w:=by simp [Instr.keyThatStays,hbits]
   simp only [Sem.run_bind,hu,Result.andThen_ok,run_getMap hh,hck',h4,he2,Option.map_some,Option.getD_some,hstay]
   rw [setEntry_modify];exact p1
theorem run_mapEntryA (ok:TabsOk tb) (H:MR tb.p N w0 E m w) {t:TypeId} {x x' k k' v:Value} (hx:VR E x x') (hk:VR E k k') {m':Mem} (h:mapEntryA tb t m x k=some (v,m')) :
  WrOk tb N w0 E m w v m' (Instr.mapEntry t x' k'):=by
 unfold mapEntryA at h
 obtain⟨i,hi,h1⟩:=oB_some.1 h
 clear h
 split at h1<;>first|(simp at h1;done)|skip
 rename_i kt et r hd
 split at h1<;>first|(simp at h1;done)|skip
 rename_i hko
 obtain⟨⟨es,c⟩,hm,h2⟩:=oB_some.1 h1
 obtain⟨q,hq,h3⟩:=oB_some.1 h2
 cases hx with
 | @map _ j hE =>
 obtain⟨es',hh,hes⟩:=H.map hE hm
 obtain⟨q',h4,h5,h6⟩:=run_findKey ok H hk hko hes hq
 have hu:(underlying t).run tb.p w=.ok (.map kt et) w:=by rw [← hd];exact run_ty ok hi
 have hck:=fun em=>run_checkKey (tb:=tb) (w:=w) ok hk hko em 9998
 have hck':∀ em,(Instr.checkKey em 10000 kt k').run tb.p w=.ok () w:=hck
 have hgo:∀ n:Nat,VR E (vInt .i64 (.ofNat n)) (goInt n):=fun n=>by rw [vInt_eq];exact .int _ _
 unfold Instr.mapEntry
 cases h5 with
 |none =>
  obtain⟨j2,hj2,h7⟩:=oB_some.1 h3
  obtain⟨z,hz,h8⟩:=oB_some.1 h7
  simp only [Option.some.injEq,Prod.mk.injEq] at h8
  obtain⟨rfl,rfl⟩:=h8
  obtain⟨hz1,hz2⟩:=zeroV_some ok hj2 hz E
  obtain⟨p1,p2⟩:=H.putMap hE hm (es2:=es++[⟨k,z,c⟩]) (es2':=es'++[⟨k',z,c⟩]) (c2:=c+1) (hes.append (.cons hk hz2 .nil))
  have hpush:(⟨es'⟩:Array MapEntry).push ⟨k',z,c⟩=⟨es'++[⟨k',z,c⟩]⟩:=by simp
  refine⟨.tuple #[z,goInt c],_,E,?_,.tuple (.cons hz2 (.cons (hgo c) .nil)),p2,.put _ hE⟩
  simp only [Sem.run_bind,hu,Result.andThen_ok,run_getMap hh,hck',h4,run_zero ok hj2 hz1]
  rw [hpush,p1];rfl
 | @some i v1 v1' hv1 =>
   obtain⟨e,he,h7⟩:=oB_some.1 h3
   split at h7<;>first|(simp at h7;done)|skip
   rename_i hsame
   simp only [Option.some.injEq,Prod.mk.injEq] at h7
   obtain⟨rfl,rfl⟩:=h7
   obtain⟨e',he',hek,hev,heb⟩:=hes.get i e he
   have hbits:=sameK_bits hek hk hsame
   obtain⟨p1,p2⟩:=H.putMap hE hm (es2:=setEntry (fun e => { e with key:=k }) es i) (es2':=setEntry (fun e => { e with key:=k' }) es' i) (c2:=c) (hes.setEntry (fun _ _ _ _ _ _ hv=>⟨hk,hv,rfl⟩) i)
   have he2:(⟨es'⟩:Array MapEntry)[i]? = some e':=by simpa using he'
   have hstay:(Instr.keyThatStays e'.key k').run tb.p w=.ok k' w:=by simp [Instr.keyThatStays,hbits]
   refine⟨.tuple #[v1',goInt e'.born],_,E,?_,.tuple (.cons hv1 (.cons (by rw [heb];exact hgo _) .nil)),p2,.put _ hE⟩
   simp only [Sem.run_bind,hu,Result.andThen_ok,run_getMap hh,hck',h4,he2,Option.map_some,Option.getD_some,hstay]
   rw [setEntry_modify,p1];rfl
theorem bornIdx_some {s:Nat}:∀ {es:List MapEntry} {i j:Nat},bornIdx s es i=some j→i≤j∧∀ {E:Env} {es':List MapEntry},EntR E es es'→es'.findIdx? (fun e=>(e.born:Int)==(s:Int))=some (j-i)
 | [],i,j,h=>by simp [bornIdx] at h
 |e::es,i,j,h=>by
  simp only [bornIdx] at h
  split at h
  ·rename_i hb
   simp only [Option.some.injEq] at h;subst h
   have hb:=Nat.eq_of_beq_eq_true hb
   refine⟨Nat.le_refl _,fun hes=>?_⟩
   cases hes
   simp only at hb;subst hb
   simp [List.findIdx?_cons]
  ·rename_i hb
   obtain⟨h1,h2⟩:=bornIdx_some h
   refine⟨by omega,fun hes=>?_⟩
   cases hes with
   | @cons k k' v v' b l l' hk hv t =>
     have hne:¬ b=s:=by
      intro e2;simp only at hb;subst e2
      rw [beq_dec] at hb;simp at hb
     have h3:=h2 t
     rw [List.findIdx?_cons]
     simp only
     rw [if_neg (by simpa using (show ¬ ((b:Int)=(s:Int)) from by omega)),h3]
     simp only [Option.map_some]
     congr 1;omega
theorem run_entryStoreA (ok:TabsOk tb) (H:MR tb.p N w0 E m w) {t:TypeId} {x x' s s' v v':Value} (hx:VR E x x') (hs:VR E s s') (hv:VR E v v') {m':Mem} (h:entryStoreA m x s v=some m') :
  WuOk tb N w0 E m w m' (Instr.entryStore t x' s' v'):=by
 unfold entryStoreA at h
 split at h<;>first|(simp at h;done)|skip
 rename_i r k s
 obtain⟨⟨es,c⟩,hm,h2⟩:=oB_some.1 h
 obtain⟨i,hi,h3⟩:=oB_some.1 h2
 simp only [Option.some.injEq] at h3;subst h3
 cases hx with
 | @map _ j hE =>
 cases hs
 obtain⟨es',hh,hes⟩:=H.map hE hm
 have hf:=(bornIdx_some hi).2 hes
 simp only [Nat.sub_zero] at hf
 obtain⟨p1,p2⟩:=H.putMap hE hm (es2:=setEntry (fun e => { e with val:=v }) es i) (es2':=setEntry (fun e => { e with val:=v' }) es' i) (c2:=c) (hes.setEntry (fun _ _ _ _ _ hk _=>⟨hk,hv,rfl⟩) i)
 refine⟨_,E,?_,p2,.put _ hE⟩
 unfold Instr.entryStore
 have hf':(⟨es'⟩:Array MapEntry).findIdx? (fun e=>(e.born:Int)==(s:Int))=some i:=by rw [List.findIdx?_toArray];exact hf
 have hf2:(⟨es'⟩:Array MapEntry).findIdx? (fun e=>(e.born:Int)==Int.ofNat s)=some i:=hf'
 simp only [Sem.run_bind,run_getMap hh,Result.andThen_ok,asInt,asIntOf,Sem.run_pure,hf2]
 rw [setEntry_modify];exact p1
theorem run_deleteA (ok:TabsOk tb) (H:MR tb.p N w0 E m w) {tys:List TypeId} {x x' k k':Value} (hx:VR E x x') (hk:VR E k k') {m':Mem} (h:deleteA tb tys m x k=some m') (ty:TypeId) :
  WrOk tb N w0 E m w undef m' (Builtin.delete_ ⟨tys⟩ ty #[x',k']):=by
 unfold deleteA at h
 split at h<;>first|(simp at h;done)|skip
 rename_i mt tys'
 have hdef:∀ x k,Builtin.delete_ ⟨mt::tys'⟩ ty #[x,k]=(do
   let .map keyType _ ← underlying mt|stuck "delete: map type expected"
   match x with
   | .map none=>Instr.checkKey true 10000 keyType k
   | .map (some r) =>
     let .map es clock ← getObj r|stuck "delete: map expected"
     Instr.checkKey es.isEmpty 10000 keyType k
     match ← Instr.findKey keyType k es.toList with
     |some (i,_)=>setObj r (.map (es.eraseIdxIfInBounds i) clock)
     |none=>setObj r (.map es clock)
   |_=>stuck "delete: map expected"
   pure (.tuple #[])):=fun x k=>rfl
 obtain⟨i,hi,h1⟩:=oB_some.1 h
 clear h
 split at h1<;>first|(simp at h1;done)|skip
 rename_i kt et r hd
 split at h1<;>first|(simp at h1;done)|skip
 rename_i hko
 obtain⟨⟨es,c⟩,hm,h2⟩:=oB_some.1 h1
 obtain⟨q,hq,h3⟩:=oB_some.1 h2
 cases hx with
 | @map _ j hE =>
 obtain⟨es',hh,hes⟩:=H.map hE hm
 obtain⟨q',h4,h5,h6⟩:=run_findKey ok H hk hko hes hq
 have hu:(underlying mt).run tb.p w=.ok (.map kt et) w:=by rw [← hd];exact run_ty ok hi
 have hck:=fun em=>run_checkKey (tb:=tb) (w:=w) ok hk hko em 9998
 have hck':∀ em,(Instr.checkKey em 10000 kt k').run tb.p w=.ok () w:=hck
 rw [hdef]
 cases h5 with
 |none =>
  simp only [Option.some.injEq] at h3;subst h3
  obtain⟨p1,p2⟩:=H.putMap hE hm (es2:=es) (es2':=es') (c2:=c) hes
  refine⟨undef,{ w with heap:=w.heap.setIfInBounds j.blk (.map ⟨es'⟩ c) },E,?_,.undef E,?_,.refl _ _ _⟩
  ·simp only [Sem.run_bind,hu,Result.andThen_ok,run_getMap hh,hck',h4,p1];rfl
  ·have:w.heap.setIfInBounds j.blk (.map ⟨es'⟩ c)=w.heap:=by
    apply Array.ext_getElem?
    intro k
    rw [Array.getElem?_setIfInBounds]
    by_cases e:j.blk=k
    ·subst e
     have hlt:j.blk<w.heap.size:=(Array.getElem?_eq_some_iff.1 hh).1
     rw [if_pos rfl,if_pos hlt,hh]
    ·rw [if_neg e]
   exact H.same this rfl rfl rfl
 | @some i v1 v1' hv1 =>
   simp only [Option.some.injEq] at h3;subst h3
   obtain⟨p1,p2⟩:=H.putMap hE hm (es2:=eraseAt es i) (es2':=eraseAt es' i) (c2:=c) (hes.eraseAt i)
   refine⟨undef,_,E,?_,.undef E,p2,.put _ hE⟩
   have her:(⟨es'⟩:Array MapEntry).eraseIdxIfInBounds i=⟨eraseAt es' i⟩:=by
    rw [eraseAt_eq];simp
   simp only [Sem.run_bind,hu,Result.andThen_ok,run_getMap hh,hck',h4]
   rw [her,p1];rfl
end
end Go.Ev

namespace Go.Ev
open Go.RowKit
section
variable {tb:Tabs} {N:Nat} {w0:World} {E:Env} {m:Mem} {w:World}
theorem MR.newOb (H:MR tb.p N w0 E m w) {o:AObj} {ob:Obj} (ho:o.own=true) {sh ex:Nat} (hob:∀ E',Env.le E E'→ObjR tb.p E' ⟨w.heap.size,sh,ex⟩ o ob) :
  ∃ E',E' m.next=some ⟨w.heap.size,sh,ex⟩∧MR tb.p N w0 E' (newObjA m o) { w with heap:=w.heap.push ob }∧MExt m.next E m E' (newObjA m o)∧Env.le E E':=by
 have hn:=(H.dom m.next (Nat.le_refl _)).2
 have HM:=(H.lay o).mat (b:=m.next) (o:=o) (ob:=ob) (w' := { w with heap:=w.heap.push ob }) (sh:=sh) (ex:=ex) hn (by rw [get_newObjA,if_pos rfl]) (by rw [next_newObjA];omega) ho rfl rfl rfl rfl (hob _ (Env.add_le hn))
 exact⟨_,Env.add_at,HM,(MExt.lay H _).trans (MExt.mat hn (Nat.le_refl _)),Env.add_le hn⟩
theorem run_rangeA (ok:TabsOk tb) (H:MR tb.p N w0 E m w) {t:TypeId} {x x' v:Value} (hx:VR E x x') {m':Mem} (h:rangeA tb t m x=some (v,m')):WrOk tb N w0 E m w v m' (Instr.range t x'):=by
 unfold rangeA at h
 obtain⟨i,hi,h1⟩:=oB_some.1 h
 clear h
 have fin:∀ (o:AObj) (ob:Obj),o.own=true→(∀ E',Env.le E E'→ObjR tb.p E' ⟨w.heap.size,0,0⟩ o ob)→v=.pointer (some ⟨m.next,0,none⟩)→m'=newObjA m o →
   (Instr.range t x').run tb.p w=.ok (.pointer (some ⟨w.heap.size,0,none⟩)) { w with heap:=w.heap.push ob }→WrOk tb N w0 E m w v m' (Instr.range t x'):=by
  intro o ob ho hob hv hm hrun
  obtain⟨E',e1,e2,e3,_⟩:=H.newOb ho hob
  refine⟨_,_,E',hrun,?_,by rw [hm];exact e2,by rw [hm];exact e3⟩
  rw [hv]
  exact .ptr (o:=0) e1
 split at h1<;>first|(simp at h1;done)|skip
 ·rename_i s hd
  simp only [Option.some.injEq,Prod.mk.injEq] at h1
  cases hx
  exact fin _ (.stringIter s 0) rfl (fun E' _=>.strIter rfl (by simp)) h1.1.symm h1.2.symm (by simp [Instr.range,run_ty ok hi,hd])
 ·rename_i kt et hd
  simp only [Option.some.injEq,Prod.mk.injEq] at h1
  cases hx
  exact fin _ (.mapIter none 0 #[] 0) rfl (fun E' _=>.mapIter0 _ _ _ rfl) h1.1.symm h1.2.symm (by simp [Instr.range,run_ty ok hi,hd])
 ·rename_i kt et r hd
  obtain⟨⟨es,c⟩,hm,h2⟩:=oB_some.1 h1
  simp only [Option.some.injEq,Prod.mk.injEq] at h2
  cases hx with
  | @map _ j hE =>
    obtain⟨es',hh,hes⟩:=H.map hE hm
    exact fin _ (.mapIter (some j.blk) c #[] c) rfl (fun E' hle=>.mapIter _ _ _ rfl (hle _ _ hE)) h2.1.symm h2.2.symm (by simp [Instr.range,run_ty ok hi,hd,run_getMap hh])
theorem putIter (H:MR tb.p N w0 E m w) {b:Nat} {i:Info} (hE:E b=some i) {o o2:AObj} (hg:m.objs.get b=some o) (ho:o.own=true) (ho2:o2.own=true) {ob ob2:Obj} (hh:w.heap[i.blk]? = some ob) (hnc:∀ c e f,ob≠.cells c e f) (h2:ObjR tb.p E i o2 ob2) :
  (setObj i.blk ob2).run tb.p w=.ok () { w with heap:=w.heap.setIfInBounds i.blk ob2 }∧MR tb.p N w0 E (putObj m b o2) { w with heap:=w.heap.setIfInBounds i.blk ob2 }:=by
 have hlt:i.blk<w.heap.size:=(Array.getElem?_eq_some_iff.1 hh).1
 refine⟨?_,?_⟩
 ·cases ob<;>first|(simp [setObj,Sem.run,hh];done)|exact absurd rfl (hnc _ _ _)
 ·refine H.put hE hg ho (.inl ho2) (by simp) ?_ rfl rfl rfl fun _=>⟨_,by simp [hlt],h2⟩
  intro k hk
  simp only [Array.getElem?_setIfInBounds]
  rw [if_neg (fun e=>hk e.symm)]
theorem run_nextStr (H:MR tb.p N w0 E m w) {b:Nat} {i:Info} (hE:E b=some i) (hs0:i.shift=0) {s:ByteArray} {pos:Nat} {rest:List UInt8} (hg:m.objs.get b=some (.strIter s pos rest)) (hh:w.heap[i.blk]? = some (.stringIter s pos)) (hr:rest=s.data.toList.drop pos)
  {v:Value} {m':Mem} (h:nextStr m b s pos rest=some (v,m')) (ty:TypeId):WrOk tb N w0 E m w v m' (Instr.next (.pointer (some ⟨i.blk,0,none⟩)) true ty):=by
 have hget:(getObj i.blk).run tb.p w=.ok (.stringIter s pos) w:=by simp [getObj,Sem.run,hh]
 unfold nextStr at h
 split at h
 ·rename_i c rest
  have hlt:pos<s.size:=by
   have:(s.data.toList.drop pos).length=rest.length+1:=by rw [← hr];rfl
   simp only [List.length_drop,Array.length_toList] at this
   show pos<s.data.size
   omega
  split at h
  rotate_left
  ·simp only [Option.some.injEq,Prod.mk.injEq] at h
   obtain⟨rfl,rfl⟩:=h
   obtain⟨p1,p2⟩:=putIter H hE hg rfl (o2:=.strIter s (pos+(Utf8.decode s pos).2) (s.data.toList.drop (pos+(Utf8.decode s pos).2))) rfl hh (by simp) (ob2:=.stringIter s (pos+(Utf8.decode s pos).2)) (.strIter hs0 rfl)
   refine⟨.tuple #[.bool true,goInt pos,.int .i32 (Utf8.decode s pos).1],_,E,?_,.tuple (.cons (.bool _) (.cons (by rw [vInt_eq];exact .int _ _) (.cons (by rw [vInt_eq];exact .int _ _) .nil))),p2,.put _ hE⟩
   unfold Instr.next
   simp only [Sem.run_bind,hget,Result.andThen_ok]
   rw [if_pos hlt]
   simp only [Sem.run_bind,p1,Result.andThen_ok]
   rfl
  rename_i hc
  have hc:c.toNat<128:=by simpa [Nat.blt_eq] using hc
  simp only [Option.some.injEq,Prod.mk.injEq] at h
  obtain⟨rfl,rfl⟩:=h
  have hcp:s[pos]'hlt=c:=by
   have h1:(s.data.toList.drop pos)[0]? = some c:=by rw [← hr];rfl
   rw [List.getElem?_drop,Nat.add_zero] at h1
   have h2:=(List.getElem?_eq_some_iff.1 h1).2
   rw [← h2];rfl
  have hdec:=decode_ascii s pos hlt (by rw [hcp];exact hc)
  rw [hcp] at hdec
  obtain⟨p1,p2⟩:=putIter H hE hg rfl (o2:=.strIter s (pos+1) rest) rfl hh (by simp) (ob2:=.stringIter s (pos+1)) (.strIter hs0 (by rw [List.drop_add_one_eq_tail_drop,← hr];rfl))
  refine⟨.tuple #[.bool true,goInt pos,.int .i32 c.toNat],_,E,?_,.tuple (.cons (.bool _) (.cons (by rw [vInt_eq];exact .int _ _) (.cons (by rw [vInt_eq];exact .int _ _) .nil))),p2,.put _ hE⟩
  unfold Instr.next
  simp only [Sem.run_bind,hget,Result.andThen_ok]
  rw [if_pos hlt,hdec]
  simp only [Sem.run_bind,p1,Result.andThen_ok]
  rfl
 ·simp only [Option.some.injEq,Prod.mk.injEq] at h
  obtain⟨rfl,rfl⟩:=h
  have hge:¬ pos<s.size:=by
   have:(s.data.toList.drop pos).length=0:=by rw [← hr];rfl
   simp only [List.length_drop,Array.length_toList] at this
   show ¬ pos<s.data.size
   omega
  refine⟨.tuple #[.bool false],w,E,?_,.tuple (.cons (.bool _) .nil),H,.refl _ _ _⟩
  unfold Instr.next
  simp only [Sem.run_bind,hget,Result.andThen_ok]
  rw [if_neg hge];rfl
theorem unseen_rel {E:Env} {seen:List Nat}:∀ {es es':List MapEntry},EntR E es es'→EntR E (unseen seen es) (es'.filter fun e=>!seen.contains e.born):=by
 intro es es' h
 induction h with
 |nil=>exact .nil
 | @cons k k' v v' b l l' hk hv t ih =>
   have:(seen.any (Nat.beq b))=seen.contains b:=by
    rw [List.contains_eq_any_beq]
    congr 1;funext x
    rw [beq_dec];simp [BEq.beq,instBEqOfDecidableEq]
   simp only [unseen,List.filter_cons,this]
   cases seen.contains b with
   |true=>exact ih
   |false=>exact .cons hk hv ih
theorem born_rel {E:Env} {es es':List MapEntry} (h:EntR E es es') {p:Nat→Bool} (ha:es.all (fun e=>p e.born)=true):∀ e∈es',p e.born=true:=by
 induction h with
 |nil=>simp
 |cons hk hv t ih =>
  rw [List.all_cons,Bool.and_eq_true] at ha
  intro e he
  rcases List.mem_cons.1 he with rfl|he
  ·exact ha.1
  ·exact ih ha.2 e he
theorem run_nextMap (H:MR tb.p N w0 E m w) {b r:Nat} {i j:Info} (hE:E b=some i) (hr:E r=some j) (hs0:i.shift=0) {since last:Nat} {seen:List Nat} (hg:m.objs.get b=some (.mapIter (some r) since seen last)) (hh:w.heap[i.blk]? = some (.mapIter (some j.blk) since ⟨seen⟩ last))
  {v:Value} {m':Mem} (h:nextMap m b r since seen last=some (v,m')) (ty:TypeId):WrOk tb N w0 E m w v m' (Instr.next (.pointer (some ⟨i.blk,0,none⟩)) false ty):=by
 have hget:(getObj i.blk).run tb.p w=.ok (.mapIter (some j.blk) since ⟨seen⟩ last) w:=by simp [getObj,Sem.run,hh]
 unfold nextMap at h
 obtain⟨⟨es,c⟩,hm,h1⟩:=oB_some.1 h
 clear h
 simp only at h1
 obtain⟨es',hh',hes⟩:=H.map hr hm
 split at h1<;>first|(simp at h1;done)|skip
 rename_i hck
 simp only [Bool.and_eq_true] at hck
 obtain⟨⟨k1,k2⟩,k3⟩:=hck
 have k2:=Nat.eq_of_beq_eq_true k2
 have k3:=Nat.le_of_ble_eq_true k3
 subst k2
 have hborn:∀ e∈es',e.born<since:=fun e he=>by simpa [Nat.blt_eq] using born_rel hes (p:=fun n=>Nat.blt n since) k1 e he
 have hguard:(!(⟨seen⟩:Array Nat).isEmpty&&!(⟨es'⟩:Array MapEntry).isEmpty&&(⟨es'⟩:Array MapEntry).all (·.born≥last))=false:=by
  cases es' with
  |nil=>simp
  |cons e es' =>
   have:=hborn e (by simp)
   have hne:¬ last≤e.born:=by omega
   simp [hne]
 have hleft:(⟨es'⟩:Array MapEntry).filter (fun e=>!(⟨seen⟩:Array Nat).contains e.born)=⟨es'.filter fun e=>!seen.contains e.born⟩:=by
  apply Array.ext'
  simp
 have hrel:=unseen_rel (seen:=seen) hes
 have hL:∀ e∈es'.filter (fun e=>!seen.contains e.born),e.born<since:=fun e he=>hborn e (List.mem_filter.1 he).1
 generalize hLd:es'.filter (fun e=>!seen.contains e.born)=L at hrel hL hleft
 have hold:(⟨L⟩:Array MapEntry).filter (·.born<since)=⟨L⟩:=by
  apply Array.ext'
  simp only [Array.toList_filter]
  exact List.filter_eq_self.2 fun e he=>by simpa using hL e he
 have hnew:(⟨L⟩:Array MapEntry).filter (·.born≥since) = #[]:=by
  apply Array.ext'
  simp only [Array.toList_filter]
  exact List.filter_eq_nil_iff.2 fun e he=>by have:=hL e he;simp;omega
 have hrun:(Instr.next (.pointer (some ⟨i.blk,0,none⟩)) false ty).run tb.p w =
   ((choose (.mapNext ((if (⟨L⟩:Array MapEntry).isEmpty then #[none] else #[])++((⟨L⟩:Array MapEntry) ++ #[]).map some).size)).run tb.p w).andThen fun n w =>
     (match ((if (⟨L⟩:Array MapEntry).isEmpty then #[none] else #[])++((⟨L⟩:Array MapEntry) ++ #[]).map some)[n]? with
      |some (some e)=>(do setObj i.blk (.mapIter (some j.blk) since ((⟨seen⟩:Array Nat).push e.born) last);pure (.tuple #[.bool true,e.key,e.val]):Sem Value)
      |some none=>pure (.tuple #[.bool false])
      |none=>stuck "Next: no such candidate").run tb.p w:=by
  unfold Instr.next
  simp only [Sem.run_bind,hget,Result.andThen_ok,run_getMap hh',hguard,Bool.false_eq_true,if_false,hleft,hold,hnew]
  congr 1
 split at h1
 ·rename_i hu
  rw [hu] at hrel
  cases hrel
  simp only [Option.some.injEq,Prod.mk.injEq] at h1
  obtain⟨rfl,rfl⟩:=h1
  refine⟨.tuple #[.bool false],w,E,?_,.tuple (.cons (.bool _) .nil),H,.refl _ _ _⟩
  rw [hrun]
  simp [Question.forced]
 ·rename_i e hu
  rw [hu] at hrel
  simp only [Option.some.injEq,Prod.mk.injEq] at h1
  obtain⟨rfl,rfl⟩:=h1
  cases hrel with
  | @cons k k' v v' b0 l l' hk hv t =>
  cases t
  obtain⟨p1,p2⟩:=putIter H hE hg rfl (o2:=.mapIter (some r) since (seen++[b0]) last) rfl hh (by simp) (ob2:=.mapIter (some j.blk) since ⟨seen++[b0]⟩ last) (.mapIter _ _ _ hs0 hr)
  refine⟨.tuple #[.bool true,k',v'],_,E,?_,.tuple (.cons (.bool _) (.cons hk (.cons hv .nil))),p2,.put _ hE⟩
  rw [hrun]
  have hp:(⟨seen⟩:Array Nat).push b0=⟨seen++[b0]⟩:=by simp
  simp [Question.forced]
  rw [p1]
  rfl
 ·simp at h1
theorem run_nextA (H:MR tb.p N w0 E m w) {it it' v:Value} (hit:VR E it it') {isS:Bool} {m':Mem} (h:nextA m it isS=some (v,m')) (ty:TypeId):WrOk tb N w0 E m w v m' (Instr.next it' isS ty):=by
 unfold nextA at h
 split at h<;>first|(simp at h;done)|skip
 rename_i b
 cases hit with
 | @ptr _ _ i hE =>
 split at h<;>first|(simp at h;done)|skip
 ·rename_i s pos rest hg
  split at h<;>first|(simp at h;done)|skip
  obtain⟨ob,h2,h3⟩:=H.objs _ _ _ hE hg rfl
  cases h3 with
  |strIter hs hr =>
   simp only [hs,Nat.add_zero]
   exact run_nextStr H hE hs hg h2 hr h ty
 ·rename_i since seen st hg
  split at h<;>first|(simp at h;done)|skip
  simp only [Option.some.injEq,Prod.mk.injEq] at h
  obtain⟨rfl,rfl⟩:=h
  obtain⟨ob,h2,h3⟩:=H.objs _ _ _ hE hg rfl
  cases h3 with
  |mapIter0 _ _ _ hs =>
   refine⟨.tuple #[.bool false],w,E,?_,.tuple (.cons (.bool _) .nil),H,.refl _ _ _⟩
   have hget:(getObj i.blk).run tb.p w=.ok (.mapIter none since ⟨seen⟩ st) w:=by simp [getObj,Sem.run,h2]
   unfold Instr.next
   simp only [hs,Nat.add_zero,Sem.run_bind,hget,Result.andThen_ok]
   rfl
 ·rename_i r since seen last hg
  split at h<;>first|(simp at h;done)|skip
  obtain⟨ob,h2,h3⟩:=H.objs _ _ _ hE hg rfl
  cases h3 with
  |mapIter _ _ _ hs hr =>
   simp only [hs,Nat.add_zero]
   exact run_nextMap H hE hr hs hg h2 h ty
end
end Go.Ev

namespace Go.Ev
open Go.RowKit
def NxR (E:Env) (v:Value) (nx:Next):Prop:=(∃ v',nx=.value v'∧VR E v v')∨(nx=.skip∧v=undef)
def OpOut (tb:Tabs) (N:Nat) (w0:World) (E:Env) (m:Mem) (w:World) (r:OR) (s:Sem Next):Prop :=
 match r with
 | .r v=>∃ nx,s.run tb.p w=.ok nx w∧NxR E v nx
 | .f ob mk=>∀ b,E b=none→∃ v' w' o' sh ex,s.run tb.p w=.ok (.value v') w'∧w'.heap=w.heap.push o'∧w'.os=w.os∧w'.tape=w.tape∧w'.output=w.output ∧
   ObjR tb.p (E.add b ⟨w.heap.size,sh,ex⟩) ⟨w.heap.size,sh,ex⟩ ob o'∧VR (E.add b ⟨w.heap.size,sh,ex⟩) (mk b) v'∧ob.own=true
 | .e v m'=>∃ nx w' E',s.run tb.p w=.ok nx w'∧NxR E' v nx∧MR tb.p N w0 E' m' w'∧MExt m.next E m E' m'
 | .c=>True
 | .bad=>True
section
variable {tb:Tabs} {N:Nat} {w0:World} {E:Env} {m:Mem} {w:World}
theorem OpOut.of {r:OR} {s:Sem Value} (h:OpRes tb N w0 E m w r s):OpOut tb N w0 E m w r (do pure (.value (← s))):=by
 cases r with
 |r v=>obtain⟨v',h1,h2⟩:=h;exact⟨_,by simp [h1],.inl ⟨v',rfl,h2⟩⟩
 |f ob mk =>
  intro b hb
  obtain⟨v',w',o',sh,ex,h1,h2⟩:=h b hb
  exact⟨v',w',o',sh,ex,by simp [h1],h2⟩
 |e v m' =>
  obtain⟨v',w',E',h1,h2,h3⟩:=h
  exact⟨_,w',E',by simp [h1],.inl ⟨v',rfl,h2⟩,h3⟩
 |c=>trivial
 |bad=>trivial
theorem OpOut.ofU {r:OR} {s:Sem Unit} (h:OpResU tb N w0 E m w r s):OpOut tb N w0 E m w r (do s;pure .skip):=by
 cases r with
 |r v=>exact h.elim
 |f ob mk=>exact h.elim
 |e v m' =>
  obtain⟨rfl,w',E',h1,h2⟩:=h
  exact⟨.skip,w',E',by simp [h1],.inr ⟨rfl,rfl⟩,h2⟩
 |c=>trivial
 |bad=>trivial
theorem OpRes.ofR {x:Option Value} {s:Sem Value} (h:∀ v,x=some v→RdOk tb E w v s):OpRes tb N w0 E m w (oR x) s:=by
 cases x with
 |none=>exact trivial
 |some v=>exact h v rfl
theorem OpRes.ofE {x:Option (Value × Mem)} {s:Sem Value} (h:∀ v m',x=some (v,m')→WrOk tb N w0 E m w v m' s):OpRes tb N w0 E m w (oE x) s:=by
 cases x with
 |none=>exact trivial
 |some x=>obtain⟨v,m'⟩:=x;exact h v m' rfl
theorem evs_rel {t:T Value} {ρ : Operand→Value}:∀ {l:List Operand},(∀ x∈l,VR E (ev t x) (ρ x))→VRs E (evs t l) (l.map ρ)
 | [],_=>.nil
 |x::l,h=>.cons (h x (by simp)) (evs_rel fun y hy=>h y (by simp [hy]))
theorem evP_rel {t:T Value} {ρ : Operand→Value}:∀ {l:List (Nat × Operand)},(∀ x∈l.map (·.2),VR E (ev t x) (ρ x))→PartsR E (evP t l) (l.map fun (i,x)=>(i,ρ x))
 | [],_=>.nil
 | (i,x)::l,h=>.cons (h x (by simp)) (evP_rel fun y hy=>h y (by simp at hy ⊢;exact .inr hy))
theorem evO_rel {t:T Value} {ρ : Operand→Value}:∀ {o:Option Operand},(∀ x,o=some x→VR E (ev t x) (ρ x))→OVR E (evO t o) (o.map ρ)
 |none,_=>.none
 |some x,h=>.some (h x rfl)
def nilCheckS (x:Value):Sem Next :=
 match x with
  | .pointer none | .nilIface | .nilFunc=>runtimePanic .nilDeref
  | .func (.method name) first captured =>
    match (first[0]? : Option Value) with
    |some .nilIface=>runtimePanic .nilDeref
    |some (.iface t w)=>do
     if (← nilAhead ((← program).types.size+Made.depth) t w name) != some false then
      unsupported (.noEntry "op/nilCheck.the method's receiver behind this interface value is a nil pointer, or cannot be seen to be none, and the arguments act or may panic (ledger 612)")
     pure (.value (.func (.method name) first captured))
    |_=>pure (.value (.func (.method name) first captured))
  |x=>pure (.value x)
theorem VRs.one {E:Env} {x:Value} {l':List Value} (h:VRs E [x] l'):∃ x',l'=[x']∧VR E x x':=by
 cases h with|cons h t=>cases t;exact⟨_,rfl,h⟩
theorem VRs.two {E:Env} {x y:Value} {l':List Value} (h:VRs E [x,y] l'):∃ x' y',l'=[x',y']∧VR E x x'∧VR E y y':=by
 cases h with|cons h t=>cases t with|cons h2 t=>cases t;exact⟨_,_,rfl,h,h2⟩
theorem VRs.hd {E:Env} {x:Value} {l l':List Value} (h:VRs E (x::l) l'):∃ x' k',l'=x'::k'∧VR E x x'∧VRs E l k':=by
 cases h with|cons h t=>exact⟨_,_,rfl,h,t⟩
theorem run_opNilCheck {x x':Value} (hx:VR E x x'):OpOut tb N w0 E m w (opNilCheck x) (nilCheckS x'):=by
 unfold opNilCheck
 split
 ·exact trivial
 ·exact trivial
 ·exact trivial
 ·exact trivial
 ·rename_i h1 h2 h3 h4
  refine⟨.value x',?_,.inl ⟨x',rfl,hx⟩⟩
  cases hx<;>first|rfl|(exact absurd rfl h1)|(exact absurd rfl h2)|(exact absurd rfl h3)|skip
  rename_i fn _ _ _ _ _ _ _
  cases fn<;>first|rfl|(exact absurd rfl (h4 _ _ _))
theorem run_maxMin {k:IntKind} {n:Int} {l l':List Value} (hl:VRs E l l') (tys:Array TypeId) (ty:TypeId) :
  OpRes tb N w0 E m w (oR (maxI k n l)) (Builtin.max_ tys ty ⟨.int k n::l'⟩)∧OpRes tb N w0 E m w (oR (minI k n l)) (Builtin.min_ tys ty ⟨.int k n::l'⟩) :=
 ⟨OpRes.ofR fun v hv=>let ⟨h1,h2⟩:=run_maxI (P:=tb.p) (w:=w) hl hv; ⟨v,h1,h2⟩,OpRes.ofR fun v hv=>let ⟨h1,h2⟩:=run_minI (P:=tb.p) (w:=w) hl hv; ⟨v,h1,h2⟩⟩
theorem run_opBuiltin (ok:TabsOk tb) (H:MR tb.p N w0 E m w) {b:Builtin} {tys:List TypeId} {ty:TypeId} {cs:Array Bool} {args args':List Value} (ha:VRs E args args') :
  OpOut tb N w0 E m w (opBuiltin tb m b tys args) (builtin b ⟨tys⟩ ty cs ⟨args'⟩):=by
 unfold opBuiltin
 cases b<;>try exact trivial
 case append =>
  simp only
  split<;>first|exact trivial|skip
  obtain⟨_,_,rfl,h1,h2⟩:=ha.two
  exact OpOut.of (OpRes.ofE fun v m' h=>run_appendA ok H h1 h2 h ty)
 case cap =>
  simp only
  split<;>first|exact trivial|skip
  obtain⟨_,rfl,h1⟩:=ha.one
  exact OpOut.of (OpRes.ofR fun v h=>let ⟨q1,q2⟩:=run_capA ok H h1 h; ⟨v,q1,q2⟩)
 case clear =>
  simp only
  split<;>first|exact trivial|skip
  obtain⟨_,rfl,h1⟩:=ha.one
  split<;>first|exact trivial|skip
  rename_i h
  exact OpOut.of (r:=.e undef _) (run_clearA ok H h1 h ty)
 case copy =>
  simp only
  split<;>first|exact trivial|skip
  obtain⟨_,_,rfl,h1,h2⟩:=ha.two
  exact OpOut.of (OpRes.ofE fun v m' h=>run_copyA ok H h1 h2 h ty)
 case delete =>
  simp only
  split<;>first|exact trivial|skip
  obtain⟨_,_,rfl,h1,h2⟩:=ha.two
  split<;>first|exact trivial|skip
  rename_i h
  exact OpOut.of (r:=.e undef _) (run_deleteA ok H h1 h2 h ty)
 case len =>
  simp only
  split<;>first|exact trivial|skip
  obtain⟨_,rfl,h1⟩:=ha.one
  exact OpOut.of (OpRes.ofR fun v h=>let ⟨q1,q2⟩:=run_lenA ok H h1 h; ⟨v,q1,q2⟩)
 case max =>
  simp only
  split<;>first|exact trivial|skip
  obtain⟨_,_,rfl,h1,h3⟩:=ha.hd
  cases h1
  exact OpOut.of (run_maxMin h3 _ _).1
 case min =>
  simp only
  split<;>first|exact trivial|skip
  obtain⟨_,_,rfl,h1,h3⟩:=ha.hd
  cases h1
  exact OpOut.of (run_maxMin h3 _ _).2
 case unsafeSliceData =>
  simp only
  split<;>first|exact trivial|skip
  ·obtain⟨_,rfl,h1⟩:=ha.one
   cases h1
   exact OpOut.of (r:=.r (.pointer none)) ⟨.pointer none,rfl,.ptrNil⟩
  ·obtain⟨_,rfl,h1⟩:=ha.one
   split<;>first|exact trivial|skip
   ·rename_i hsp
    cases h1 with
    | @sl b o q l c h =>
      refine OpOut.of (r:=.r _) ⟨.pointer (some ⟨q.blk,q.shift+o,none⟩),?_,.ptr h⟩
      rename_i k _
      obtain⟨k',hk⟩:∃ k',k+1+q.extra=k'+1:=⟨k+q.extra,by omega⟩
      rw [hk];rfl
    |slX l c h=>simp at hsp
   ·rename_i hsp
    cases h1 with
    |sl l c h=>simp at hsp
    |slX l c h=>exact OpOut.of (r:=.r _) ⟨_,rfl,.ptr h⟩
 case unsafeString =>
  simp only
  split<;>first|exact trivial|skip
  obtain⟨_,_,rfl,h1,h2⟩:=ha.two
  cases h2
  exact OpOut.of (run_opUnsafeString ok H h1 ty)
theorem run_opA (ok:TabsOk tb) (H:MR tb.p N w0 E m w) {t:T Value} {ρ : Operand→Value} {o:Oper} (hρ : ∀ x∈o.op.operands.toList,VR E (ev t x) (ρ x)):OpOut tb N w0 E m w (opA o.op tb t m) (execOp ρ o):=by
 unfold execOp opA
 cases ho:o.op<;>simp only [ho]<;>rw [ho] at hρ <;> simp only [Op.operands] at hρ <;> try exact trivial
 case move x=>exact⟨_,rfl,.inl ⟨_,rfl,hρ x (by simp)⟩⟩
 case assign x=>exact⟨_,w,E,rfl,.inl ⟨_,rfl,hρ x (by simp)⟩,H,.refl _ _ _⟩
 case pick c a b =>
  unfold kPick opPick
  have hc:=hρ c (by simp);have ha:=hρ a (by simp);have hb:=hρ b (by simp)
  split<;>first|exact trivial|skip
  ·rename_i h;rw [h] at hc
   generalize ρ c=c' at hc
   cases hc
   exact⟨_,by simp [asBool],.inl ⟨_,rfl,ha⟩⟩
  ·rename_i h;rw [h] at hc
   generalize ρ c=c' at hc
   cases hc
   exact⟨_,by simp [asBool],.inl ⟨_,rfl,hb⟩⟩
 case alloc e=>exact OpOut.of (run_opAlloc ok)
 case box e x=>exact OpOut.of (run_opBox (hρ x (by simp)))
 case build ty ps =>
  have hp:(ps.map fun (i,x)=>(i,ρ x))=⟨ps.toList.map fun (i,x)=>(i,ρ x)⟩:=by apply Array.ext';simp
  rw [hp]
  exact OpOut.of (OpRes.ofR fun v h=>run_buildA ok (evP_rel (ρ := ρ) (by simpa using hρ)) h)
 case buildSlice ty n ps =>
  have hp:(ps.map fun (i,x)=>(i,ρ x))=⟨ps.toList.map fun (i,x)=>(i,ρ x)⟩:=by apply Array.ext';simp
  rw [hp]
  exact OpOut.of (run_opBuildSlice ok (evP_rel (ρ := ρ) (by simpa using hρ)))
 case load ty a =>
  unfold kLoad opLoad
  have ha:=hρ a (by simp)
  split<;>first|exact trivial|skip
  rename_i h;rw [h] at ha
  generalize ρ a=a' at ha
  cases ha with
  |ptr hE =>
   refine OpOut.of (OpRes.ofR fun v hv=>?_)
   obtain⟨v',q1,q2⟩:=run_loadA ok H hE hv
   exact⟨v',by simpa [Instr.loadAt,Instr.sureAddr] using q1,q2⟩
 case store ty a x=>exact OpOut.ofU (run_opStore ok H (hρ a (by simp)) (hρ x (by simp)))
 case nilCheck x=>exact run_opNilCheck (x' := ρ x) (hρ x (by simp))
 case binOp op ty x y yt=>exact OpOut.of (OpRes.ofR fun v h=>let ⟨q1,q2⟩:=run_binA ok H (hρ x (by simp)) (hρ y (by simp)) h; ⟨v,q1,q2⟩)
 case unOp op ty x =>
  refine OpOut.of (OpRes.ofR fun v h=>?_)
  have hx:=hρ x (by simp)
  have hflat : ρ x=ev t x∧VR E v v:=by
   unfold unA at h
   split at h
   ·rename_i hh;rw [hh] at hx;rw [hh]
    generalize ρ x=x' at hx
    cases hx
    simp only [Option.some.injEq] at h;subst h
    exact⟨rfl,by rw [vInt_eq];exact .int _ _⟩
   ·rename_i hh;rw [hh] at hx;rw [hh]
    generalize ρ x=x' at hx
    cases hx
    obtain⟨n,_,rfl⟩:=oI_some h
    exact⟨rfl,.int _ _⟩
   ·rename_i hh;rw [hh] at hx;rw [hh]
    generalize ρ x=x' at hx
    cases hx
    simp only [Option.some.injEq] at h;subst h
    exact⟨rfl,.bool _⟩
   ·simp at h
  rw [hflat.1]
  exact⟨v,run_unA h,hflat.2⟩
 case convert s d x=>exact OpOut.of (run_opConv ok H (hρ x (by simp)))
 case makeInterface ty x =>
  unfold kMakeInterface opMkIface
  split<;>first|exact trivial|skip
  rename_i i hi
  split<;>first|exact trivial|skip
  rename_i hd
  refine OpOut.of (r:=.r _) ⟨.iface ty (ρ x),?_,.iface _ (hρ x (by simp))⟩
  unfold Instr.makeInterface
  simp only [Sem.run_bind,run_ty ok hi,Result.andThen_ok]
  rfl
 case makeFunc fn f c =>
  unfold kMakeFunc
  split<;>first|exact trivial|skip
  rename_i hy
  have h1:f.map ρ = ⟨f.toList.map ρ⟩:=by apply Array.ext';simp
  have h2:c.map ρ = ⟨c.toList.map ρ⟩:=by apply Array.ext';simp
  rw [h1,h2]
  exact OpOut.of (r:=.r _) ⟨_,rfl,.func (fun l=>hy l) (evs_rel fun x hx=>hρ x (by simp at hx ⊢;exact .inl hx)) (evs_rel fun x hx=>hρ x (by simp at hx ⊢;exact .inr hx))⟩
 case makeMap ty r=>exact OpOut.of (run_opMakeMap (evO_rel fun x hx=>hρ x (by rw [hx];simp)))
 case makeSlice ty l c=>exact OpOut.of (run_opMakeSlice ok (hρ l (by simp)) (hρ c (by simp)))
 case slice ty x lo hi mx=>exact OpOut.of (OpRes.ofR fun v h=>run_sliceA ok H (hρ x (by simp)) (evO_rel fun y hy=>hρ y (by rw [hy];simp)) (evO_rel fun y hy=>hρ y (by rw [hy];simp)) (evO_rel fun y hy=>hρ y (by rw [hy];simp)) h)
 case sliceToArrayPointer arr x=>exact OpOut.of (run_opSAP ok (hρ x (by simp)))
 case fieldAddr ty x f=>exact OpOut.of (OpRes.ofR fun v h=>run_fieldAddrA ok (hρ x (by simp)) h)
 case field ty x f=>exact OpOut.of (OpRes.ofR fun v h=>run_fieldA ok (hρ x (by simp)) h)
 case indexAddr ty x i=>exact OpOut.of (OpRes.ofR fun v h=>run_indexAddrA ok (hρ x (by simp)) (hρ i (by simp)) h)
 case index ty x i=>exact OpOut.of (OpRes.ofR fun v h=>run_indexA ok (hρ x (by simp)) (hρ i (by simp)) h)
 case lookup ty x k cok=>exact OpOut.of (OpRes.ofR fun v h=>run_lookupA ok H (hρ x (by simp)) (hρ k (by simp)) h)
 case mapUpdate ty a k x=>exact OpOut.ofU (OpResU.of fun m' h=>run_mapUpdateA ok H (hρ a (by simp)) (hρ k (by simp)) (hρ x (by simp)) h)
 case insert ty a k x=>exact OpOut.ofU (OpResU.of fun m' h=>run_mapUpdateA ok H (hρ a (by simp)) (hρ k (by simp)) (hρ x (by simp)) h)
 case mapEntry ty a k=>exact OpOut.of (OpRes.ofE fun v m' h=>run_mapEntryA ok H (hρ a (by simp)) (hρ k (by simp)) h)
 case entryStore ty a s x=>exact OpOut.ofU (OpResU.of fun m' h=>run_entryStoreA ok H (hρ a (by simp)) (hρ s (by simp)) (hρ x (by simp)) h)
 case range ty x=>exact OpOut.of (OpRes.ofE fun v m' h=>run_rangeA ok H (hρ x (by simp)) h)
 case next it s=>exact OpOut.of (OpRes.ofE fun v m' h=>run_nextA H (hρ it (by simp)) h _)
 case entry it=>exact OpOut.of (OpRes.ofR fun v h=>run_entryA ok H (hρ it (by simp)) h)
 case typeAssert x xt a cok=>exact OpOut.of (OpRes.ofR fun v h=>run_typeAssertA ok (hρ x (by simp)) h)
 case extract x i =>
  unfold kExtract opExtract
  have hx:=hρ x (by simp)
  split<;>first|exact trivial|skip
  rename_i vs h;rw [h] at hx
  generalize ρ x=x' at hx
  cases hx with
  |tuple hx =>
   refine OpOut.of (OpRes.ofR fun v hv=>?_)
   obtain⟨v',q1,q2⟩:=hx.get i v hv
   refine⟨v',?_,q2⟩
   rename_i a'
   have:(⟨a'⟩:Array Value)[i]? = some v':=by simpa using q1
   simp [Instr.extract,this]
 case call c =>
  unfold kCall opCall
  obtain⟨cl,⟨args⟩,⟨tys⟩⟩:=c
  cases cl with
  |builtin b =>
   simp only
   have ha:VRs E (evs t args) (args.map ρ):=evs_rel fun x hx=>hρ x (by simp [Call.operands];exact hx)
   have hm:(⟨args⟩:Array Operand).map ρ = ⟨args.map ρ⟩:=by apply Array.ext';simp
   have:=run_opBuiltin ok H (b:=b) (tys:=tys) (ty:=o.type) (cs:=(⟨args⟩:Array Operand).map fun | .const _=>true|_=>false) ha
   rw [← hm] at this
   exact this
  |_=>exact trivial
end
end Go.Ev

namespace Go.Ev
open Go.RowKit
def GlobE (G:Nat) (E:Env):Prop:=∀ g,g<G→E g=some ⟨g,0,0⟩
theorem operand_rel {G:Nat} {E:Env} (HG:GlobE G E) {X:Nat→Prop} {t:T Value} {nt:Nat} {fr:Frame} (HS:TRx E X t nt fr.tmps):∀ {x:Operand},operandOk G x=true→(∀ d,x=.tmp d→¬ X d)→VR E (ev t x) (fr.eval x)
 | .tmp d,_,hd=>HS.2 d (hd d rfl)
 | .const v,h,_=>cellsOfV_self h
 | .global g,h,_=>by
   have hg:=HG g (by simpa [operandOk,Nat.blt_eq] using h)
   have:=VR.ptr (E:=E) (b:=g) (o:=0) hg
   simpa [ev,Frame.eval] using this
 | .func f,_,_=>.func (f:=[]) (f':=[]) (c:=[]) (c':=[]) (fun l=>by simp) .nil .nil
theorem VR.bool_inv {E:Env} {v:Value} {b:Bool} (h:VR E v (.bool b)):v=.bool b:=by cases h;rfl
theorem wanted_rel {E:Env} {ops:Array Oper} {o:Oper} {t:T Value} {tm:Array Value} (hs:∀ d,reads ops o d→VR E (ev t (.tmp d)) (tm.getD d undef)):Region.wanted o (yielded ops tm)=wantedA t ops o.guard:=by
 unfold Region.wanted
 cases hg:o.guard with
 |none=>rfl
 |some g =>
  obtain⟨j,wn⟩:=g
  simp only
  have key:(yielded ops tm j=some wn)↔wantedA t ops (some (j,wn))=true:=by
   rw [wantedA_iff]
   constructor
   ·intro h
    unfold yielded at h
    split at h<;>first|(simp at h;done)|skip
    rename_i b hb
    simp only [Option.some.injEq] at h;subst h
    cases hj:ops[j]? with
    |none=>rw [hj] at hb;simp at hb
    |some oj =>
     rw [hj] at hb
     simp only [Option.bind_some] at hb
     cases hd:oj.dst with
     |none=>rw [hd] at hb;simp at hb
     |some d =>
      rw [hd] at hb
      simp only [Option.bind_some] at hb
      have hj':ops.toList[j]? = some oj:=by simpa using hj
      refine⟨oj,d,hj',hd,?_⟩
      have:=hs d (.inr ⟨j,b,oj,hg,hj',hd⟩)
      rw [Array.getD_eq_getD_getElem?,hb,Option.getD_some] at this
      exact this.bool_inv
   ·rintro⟨oj,d,h1,h2,h3⟩
    have:=hs d (.inr ⟨j,wn,oj,hg,h1,h2⟩)
    rw [h3] at this
    have hj:ops[j]? = some oj:=by simpa using h1
    unfold yielded
    rw [hj]
    simp only [Option.bind_some,h2]
    rw [Array.getD_eq_getD_getElem?] at this
    cases hq:tm[d]? with
    |none=>rw [hq,Option.getD_none] at this;cases this
    |some q=>rw [hq,Option.getD_some] at this;cases this;rfl
  cases h1:wantedA t ops (some (j,wn)) with
  |true=>rw [key.2 h1];simp
  |false =>
   have:yielded ops tm j≠some wn:=fun h=>by rw [key.1 h] at h1;simp at h1
   simpa using this
def lagX (hist:List Hist) (sched:List Nat) (x:Nat):Prop:=∃ h∈hist,h.i∈sched∧h.o.dst=some x
theorem nodup_same {hist:List Hist} (h:(hist.map (·.i)).Nodup) {a b:Hist} (ha:a∈hist) (hb:b∈hist) (e:a.i=b.i):a=b:=by
 induction hist with
 |nil=>simp at ha
 |cons x l ih =>
  rw [List.map_cons,List.nodup_cons] at h
  rcases List.mem_cons.1 ha with ea|ma
  ·rcases List.mem_cons.1 hb with eb|mb
   ·rw [ea,eb]
   ·exact absurd (List.mem_map.2 ⟨b,mb,by rw [← e,ea]⟩) h.1
  ·rcases List.mem_cons.1 hb with eb|mb
   ·exact absurd (List.mem_map.2 ⟨a,ma,by rw [e,eb]⟩) h.1
   ·exact ih h.2 ma mb
section
variable {tb:Tabs} {N G:Nat} {w0:World} {E:Env} {m:Mem} {w:World} {lo:Nat} {ops:Array Oper} {t:T Value} {nt:Nat} {rem:List (Nat × Oper)} {hist:List Hist} {mask:Nat} {sched:List Nat} {x:Nat} {fr:Frame} {cs:List Frame} {k:List Item}
theorem finish_eq {v:Value} {o:Oper} (ht:fr.todo=.inRegion ops (x::sched)::k) (ho:ops[x]? = some o) :
  fr.finish v = { fr with tmps:=(match o.dst with|some d=>fr.tmps.setIfInBounds d v|none=>fr.tmps),todo:=.inRegion ops sched::k }:=by
 obtain⟨fn,tmps,todo,defers,mode,kind,ro⟩:=fr
 simp only at ht;subst ht
 simp only [Frame.finish,ho,Option.bind_some]
 cases o.dst<;>rfl
theorem lag_step (ok:TabsOk tb) (HM:MR tb.p N w0 E m w) (HG:GlobE G E) (HD:DrI tb E m lo m.next ops t nt false rem hist mask (x::sched)) (HS:TRx E (lagX hist (x::sched)) t nt fr.tmps) (hx:∀ z∈rem,z.1≠x)
  (hm:fr.mode=.run) (ht:fr.todo=.inRegion ops (x::sched)::k) (hops:∀ o∈ops.toList,opOk G o=true) :
  ∃ tm w' E',step tb.p (lone fr cs w)=.next (lone { fr with tmps:=tm,todo:=.inRegion ops sched::k } cs w')∧MR tb.p N w0 E' m w'∧MExt lo E m E' m∧DrI tb E' m lo m.next ops t nt false rem hist mask sched∧TRx E' (lagX hist sched) t nt tm:=by
 obtain⟨h,hh,rfl⟩:∃ h∈hist,h.i=x:=by
  rcases HD.all x (by simp) with ⟨z,hz,e⟩|h
  ·exact absurd e (hx z hz)
  ·exact h
 have hol:=HD.histOps h hh
 have ho:ops[h.i]? = some h.o:=by simpa using hol
 have hnx:h.i∉sched:=HD.valid.1
 obtain⟨hf1,hf2⟩:=HD.fact h hh (by simp)
 have hnow:=HD.now rfl h hh (by simp)
 have hread:∀ d,reads ops h.o d→¬ lagX hist (h.i::sched) d:=by
  rintro d hr ⟨g,hg,gi,gd⟩
  by_cases e:g.i=h.i
  ·obtain rfl:=nodup_same HD.histNd hg hh e
   exact HD.own g hg d gd hr
  ·obtain⟨ed,he,h1,h2⟩:=edgeFrom_some (HD.deps h hh g hg e d gd hr)
   exact HD.valid.2.1 h.o hol ed he h2 (by rw [h1];exact gi)
 have hw:Region.wanted h.o (yielded ops fr.tmps)=wantedA t ops h.o.guard:=wanted_rel (E:=E) fun d hr=>HS.2 d (hread d hr)
 have hρ : ∀ y∈h.o.op.operands.toList,VR E (ev t y) (fr.eval y):=fun y hy =>
  operand_rel HG HS (List.all_eq_true.1 (hops h.o (List.mem_of_getElem? hol)) y hy) fun d e=>hread d (.inl (by rw [← e];exact hy))
 have hop:=run_opA (o:=h.o) ok HM hρ
 have slots:∀ {E':Env} {v':Value},Env.le E E'→VR E' h.v v'→TRx E' (lagX hist sched) t nt (match h.o.dst with|some d=>fr.tmps.setIfInBounds d v'|none=>fr.tmps):=by
  intro E' v' hle hv
  have hold:∀ y,¬ lagX hist sched y→h.o.dst≠some y→VR E' (ev t (.tmp y)) (fr.tmps.getD y undef):=by
   intro y hy hne
   refine (HS.2 y ?_).mono hle
   rintro⟨g,hg,gi,gd⟩
   rcases List.mem_cons.1 gi with gi|gi
   ·obtain rfl:=nodup_same HD.histNd hg hh gi
    exact hne gd
   ·exact hy ⟨g,hg,gi,gd⟩
  cases hd:h.o.dst with
  |none=>exact⟨HS.1,fun y hy=>hold y hy (by rw [hd];simp)⟩
  |some d =>
   refine⟨by simp [HS.1],fun y hy=>?_⟩
   simp only [Array.getD_eq_getD_getElem?,Array.getElem?_setIfInBounds]
   by_cases e:d=y
   ·subst e
    obtain⟨e1,e2⟩:=hf1 d hd
    rw [if_pos rfl,if_pos (by rw [HS.1];exact e2),e1]
    exact hv
   ·rw [if_neg e]
    have:=hold y hy (by rw [hd];simpa using e)
    rw [Array.getD_eq_getD_getElem?] at this
    exact this
 have next:∀ {E':Env},(∀ b,E b=none→(∀ g∈hist,g.k=.f b→g.i∈sched→E' b=none))→DrI tb E' m lo m.next ops t nt false rem hist mask sched:=by
  intro E' hE'
  refine⟨HD.valid.2.2,HD.remOps,fun z hz=>?_,HD.remNd,HD.histOps,HD.histNd,HD.apart,fun j hj=>HD.all j (List.mem_cons_of_mem _ hj),fun g hg gi=>?_,fun _ g hg gi=>HD.now rfl g hg (List.mem_cons_of_mem _ gi),HD.deps,HD.names,HD.ids,HD.idlt,HD.own⟩
  ·rcases List.mem_cons.1 (HD.remIn z hz) with e|e
   ·exact absurd e (hx z hz)
   ·exact e
  ·obtain⟨q1,q2⟩:=HD.fact g hg (List.mem_cons_of_mem _ gi)
   refine⟨q1,?_⟩
   cases hk:g.k with
   |s=>rw [hk] at q2;exact q2
   |r=>rw [hk] at q2;exact q2
   |f b =>
    rw [hk] at q2
    obtain⟨a1,a2,a3,a4,a5,a6⟩:=q2
    exact⟨a1,a2,a3,a4,hE' b a5 g hg hk gi,a6⟩
 cases hk:h.k with
 |s =>
  rw [hk] at hf2
  obtain⟨f1,f2⟩:=hf2
  refine⟨_,w,E,?_,HM,.refl _ _ _,next fun b hb _ _ _ _=>hb,slots (v':=undef) (.refl E) (by rw [f2];exact .undef E)⟩
  rw [st_skip hm ht (by rw [ho];simp only [Option.map_some,Option.getD_some];rw [hw,f1]),finish_eq ht ho]
 |r =>
  rw [hk] at hf2
  unfold HNow at hnow;rw [hk] at hnow;simp only at hnow
  rw [hnow] at hop
  obtain⟨nx,q1,q2⟩:=hop
  have hdf:fr.roundOf=none∨∀ c,h.o.op≠.defer c:=.inr fun c e=>by rw [e] at hnow;simp [opA,kC] at hnow
  have hg:=stG_op (cs:=cs) (w:=w) (P:=tb.p) hm ht ho (by rw [hw];exact hf2.1) hdf
  rcases q2 with ⟨v',rfl,hv⟩|⟨rfl,hv⟩
  ·refine⟨_,w,E,?_,HM,.refl _ _ _,next fun b hb _ _ _ _=>hb,slots (.refl E) hv⟩
   rw [st_apply_value q1 (.inl rfl) hg,finish_eq ht ho]
  ·refine⟨_,w,E,?_,HM,.refl _ _ _,next fun b hb _ _ _ _=>hb,slots (v':=undef) (.refl E) (by rw [hv];exact .undef E)⟩
   rw [st_apply_value q1 (.inr ⟨rfl,rfl⟩) hg,finish_eq ht ho]
 |f b =>
  rw [hk] at hf2
  obtain⟨f1,f2,f3,f4,f5,ob,mk,f6,f7,f8⟩:=hf2
  rw [f6 m] at hop
  obtain⟨v',w',o',sh,ex,q1,q2,q3,q4,q5,q6,q7,q8⟩:=hop b f5
  have hdf:fr.roundOf=none∨∀ c,h.o.op≠.defer c:=.inr fun c e=>by have:=f6 m;rw [e] at this;simp [opA,kC] at this
  have hg:=stG_op (cs:=cs) (w:=w) (P:=tb.p) hm ht ho (by rw [hw];exact f1) hdf
  refine⟨_,w',_,?_,HM.mat f5 f8 f4 q8 q2 q3 q4 q5 q6,MExt.mat f5 f3,next ?_,slots (Env.add_le f5) (by rw [f7];exact q7)⟩
  ·rw [st_apply_value q1 (.inl rfl) hg,finish_eq ht ho]
  ·intro b' hb' g hg gk gi
   simp only [Env.add]
   rw [if_neg]
   ·exact hb'
   ·intro e;subst e
    have:=HD.ids h hh g hg b' hk gk
    rw [← this] at gi
    exact hnx gi
end
end Go.Ev

