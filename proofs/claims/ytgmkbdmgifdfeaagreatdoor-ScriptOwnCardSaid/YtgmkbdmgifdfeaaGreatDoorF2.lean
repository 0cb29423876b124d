/- A part of a proof: ScriptOwn. -/
import Derived.Below
import Derived.Calls
import Derived.Control
import Derived.Laws.Concat
import Derived.Laws.Strings
import Derived.Tactics
import Derived.Test.YtgmkbdmgifdfeaaGreatDoorF1
set_option linter.unusedVariables false
set_option linter.unusedSimpArgs false
namespace Go.Ev
def Valid (ops:Array Oper):List Nat→Prop
 | []=>True
 |i::l=>i∉l∧(∀ o,ops.toList[i]? = some o→∀ e∈o.after.toList,Region.binds .any e=true→e.on∉i::l)∧Valid ops l
theorem binds_any {md:Region.Mode} {e:Edge} (h:Region.binds .any e=true):Region.binds md e=true:=by
 unfold Region.binds at h ⊢
 cases hg:e.ground<;>rw [hg] at h<;>first|rfl|(simp at h)
theorem drawBy_some {md:Region.Mode} {ops:Array Oper} {r:Nat→Nat} (h:drawBy md ops.toList.zipIdx ops.toList.length r=true) {i:Nat} {o:Oper} (ho:ops.toList[i]? = some o):∀ e∈o.after.toList,Region.binds md e=true→e.on<ops.size∧r e.on<r i:=by
 intro e he hb
 unfold drawBy at h
 rw [List.all_eq_true] at h
 have hm:(o,i)∈ops.toList.zipIdx:=by
  rw [List.mem_zipIdx_iff_getElem?];exact ho
 have:=h _ hm
 simp only [List.all_eq_true] at this
 have:=this e he
 rw [hb] at this
 simpa [Nat.blt_eq] using this
theorem drawMd_some {md:Region.Mode} {ops:Array Oper} (h:drawMd ops md=true):∃ r:Nat→Nat,∀ (i:Nat) (o:Oper),ops.toList[i]? = some o→∀ e∈o.after.toList,Region.binds md e=true→e.on<ops.size∧r e.on<r i:=by
 unfold drawMd at h
 split at h
 ·rename_i h1;exact⟨fun x=>x,fun i o ho=>drawBy_some h1 ho⟩
 ·exact⟨fun x=>rankIn x (topo md ops.toList.zipIdx ops.toList.length []) 0,fun i o ho=>drawBy_some h ho⟩
theorem drawOk_some {ops:Array Oper} (h:drawOk ops=true) (md:Region.Mode):∃ r:Nat→Nat,∀ (i:Nat) (o:Oper),ops.toList[i]? = some o→∀ e∈o.after.toList,Region.binds md e=true→e.on<ops.size∧r e.on<r i:=by
 unfold drawOk at h
 simp only [Bool.and_eq_true] at h
 cases md
 ·exact drawMd_some h.1.2
 ·exact drawMd_some h.2
 ·exact drawMd_some h.1.1
section
variable (md:Region.Mode) (ops:Array Oper)
structure LinI (listed:Array Bool) (acc:List Nat):Prop where
 size:listed.size=ops.size
 nd:acc.Nodup
 mem:∀ i,i∈acc↔listed[i]? = some true
 valid:∀ a i b,acc=a++i::b→∀ o,ops.toList[i]? = some o→∀ e∈o.after.toList,Region.binds md e=true→e.on∈b
def LinOut (res:List Nat):Prop:=res.Nodup∧(∀ i,i<ops.size→i∈res)∧(∀ i∈res,i<ops.size) ∧
   (∀ a i b,res=a++i::b→∀ o,ops.toList[i]? = some o→∀ e∈o.after.toList,Region.binds md e=true→e.on∈b)
theorem LinI.out {listed:Array Bool} {acc:List Nat} (hI:LinI md ops listed acc) (hall:∀ i,i<ops.size→listed[i]? = some true):LinOut md ops acc :=
 ⟨hI.nd,fun i hi=>(hI.mem i).2 (hall i hi),fun i hi=>by
  have:=(Array.getElem?_eq_some_iff.1 ((hI.mem i).1 hi)).1
  rw [hI.size] at this;exact this,hI.valid⟩
theorem lin_go (hb:drawOk ops=true):∀ (fuel t:Nat) (listed:Array Bool) (acc:List Nat),LinI md ops listed acc→listed.toList.countP (!·)≤fuel →
  ∃ res,Region.linearise.go md ops fuel t listed acc=res.reverse∧LinOut md ops res
 |0,t,listed,acc,hI,hf=>by
  refine⟨acc,rfl,hI.out md ops fun i hi=>?_⟩
  have h0:listed.toList.countP (!·)=0:=by omega
  rw [List.countP_eq_zero] at h0
  have hlt:i<listed.size:=by rw [hI.size];exact hi
  have:=h0 listed[i] (by simp)
  rw [Array.getElem?_eq_getElem hlt]
  simpa using this
 |fuel+1,t,listed,acc,hI,hf=>by
  simp only [Region.linearise.go]
  generalize hrs:((List.range ops.size).filter fun i=>!listed.getD i true&&((ops[i]?).map (·.after.all fun e=>!Region.binds md e||listed.getD e.on false)).getD false)=rs
  split
  ·rename_i i hi
   have hmem:i∈rs:=List.mem_of_getElem? hi
   rw [← hrs,List.mem_filter] at hmem
   obtain⟨h1,h2⟩:=hmem
   rw [List.mem_range] at h1
   rw [Bool.and_eq_true] at h2
   have hls:i<listed.size:=by rw [hI.size];exact h1
   have hnl:listed[i]=false:=by
    have:=h2.1
    simp only [Array.getD_eq_getD_getElem?,Array.getElem?_eq_getElem hls,Option.getD_some] at this
    simpa using this
   refine lin_go hb fuel _ _ _ ⟨by simp [hI.size],?_,?_,?_⟩ ?_
   ·rw [List.nodup_cons]
    refine⟨fun hm=>?_,hI.nd⟩
    have:=(hI.mem i).1 hm
    rw [Array.getElem?_eq_getElem hls,hnl] at this
    simp at this
   ·intro j
    rw [List.mem_cons,hI.mem j,Array.getElem?_setIfInBounds]
    by_cases e:i=j
    ·subst e;simp [hls]
    ·simp [e,fun h:j=i=>e h.symm]
     exact fun h=>absurd h.symm e
   ·intro a j b hab o ho e he hbd
    cases a with
    |nil =>
     simp only [List.nil_append,List.cons.injEq] at hab
     obtain⟨rfl,rfl⟩:=hab
     have h3:=h2.2
     have ho':ops[i]? = some o:=by simpa using ho
     rw [ho'] at h3
     simp only [Option.map_some,Option.getD_some,Array.all_eq_true_iff_forall_mem] at h3
     have:=h3 e (by simpa using he)
     rw [hbd] at this
     simp only [Bool.not_true,Bool.false_or] at this
     refine (hI.mem e.on).2 ?_
     rw [Array.getD_eq_getD_getElem?] at this
     cases hq:listed[e.on]? with
     |none=>rw [hq] at this;simp at this
     |some q=>rw [hq] at this;simp at this;rw [this]
    |cons x a =>
     simp only [List.cons_append,List.cons.injEq] at hab
     obtain⟨rfl,hab⟩:=hab
     exact hI.valid a j b hab o ho e he hbd
   ·have:(listed.setIfInBounds i true).toList=listed.toList.set i true:=by simp
    rw [this,List.countP_set (h:=by simpa using hls)]
    have hg:listed.toList[i]'(by simpa using hls)=false:=by simpa using hnl
    rw [hg]
    have hpos:0<listed.toList.countP (!·):=List.countP_pos_iff.2 ⟨false,by rw [← hg];exact List.getElem_mem _,rfl⟩
    simp only [Bool.not_false,if_true,Bool.not_true,Bool.false_eq_true,if_false]
    omega
  ·rename_i hn
   refine⟨acc,rfl,hI.out md ops ?_⟩
   have hrn:rs=[]:=by
    cases rs with
    |nil=>rfl
    |cons x l =>
     rw [List.getElem?_eq_none_iff] at hn
     have:=Nat.mod_lt t (show 0<(x::l).length by simp)
     omega
   obtain⟨r,hr⟩:=drawOk_some hb md
   suffices all:∀ n i,r i=n→i<ops.size→listed[i]? = some true from fun i hi=>all _ i rfl hi
   intro n
   induction n using Nat.strongRecOn with
   |_ n ih =>
    intro i hin hi
    have hls:i<listed.size:=by rw [hI.size];exact hi
    cases hq:listed[i] with
    |true=>rw [Array.getElem?_eq_getElem hls,hq]
    |false =>
     exfalso
     have:i∈rs:=by
      rw [← hrs,List.mem_filter]
      refine⟨List.mem_range.2 hi,?_⟩
      rw [Bool.and_eq_true]
      refine⟨by simp [Array.getD_eq_getD_getElem?,Array.getElem?_eq_getElem hls,hq],?_⟩
      have ho:ops[i]? = some ops[i]:=Array.getElem?_eq_getElem hi
      rw [ho]
      simp only [Option.map_some,Option.getD_some,Array.all_eq_true_iff_forall_mem]
      intro e he
      cases hbd:Region.binds md e with
      |false=>rfl
      |true =>
       obtain⟨hlt,hrk⟩:=hr i ops[i] (by simp) e (by simpa using he) hbd
       have:=ih (r e.on) (by omega) e.on rfl hlt
       simp [Array.getD_eq_getD_getElem?,this]
     rw [hrn] at this
     simp at this
end
theorem valid_of {md:Region.Mode} {ops:Array Oper} {res:List Nat} (h:LinOut md ops res):Valid ops res.reverse∧(∀ i,i∈res.reverse↔i<ops.size):=by
 refine⟨?_,fun i=>by rw [List.mem_reverse];exact⟨h.2.2.1 i,h.2.1 i⟩⟩
 obtain⟨h1,_,_,h4⟩:=h
 have key:∀ (l pre:List Nat),res.reverse=pre++l→Valid ops l:=by
  intro l
  induction l with
  |nil=>intro pre _;trivial
  |cons i l ih =>
   intro pre hp
   have hr:res=l.reverse++i::pre.reverse:=by
    have:=congrArg List.reverse hp
    simpa using this
   refine⟨?_,?_,ih (pre++[i]) (by rw [hp];simp)⟩
   ·rw [hr,List.nodup_append] at h1
    intro hm
    exact (h1.2.2 i (by simpa using hm) i (by simp)) rfl
   ·intro o ho e he hbd
    have:=h4 _ _ _ hr o ho e he (binds_any hbd)
    rw [hr,List.nodup_append] at h1
    obtain⟨n1,n2,n3⟩:=h1
    rw [List.nodup_cons] at n2
    intro hm
    rcases List.mem_cons.1 hm with e0|hm
    ·rw [e0] at this;exact n2.1 this
    ·exact n3 e.on (by simpa using hm) e.on (List.mem_cons_of_mem _ this) rfl
 exact key _ [] rfl
theorem schedule_valid {ops:Array Oper} (hb:drawOk ops=true) (mixed:Bool) (t:Nat):Valid ops (Region.schedule mixed ops t)∧∀ i,i∈Region.schedule mixed ops t↔i<ops.size:=by
 have key:∀ md t,Valid ops (Region.linearise md ops t)∧∀ i,i∈Region.linearise md ops t↔i<ops.size:=by
  intro md t
  obtain⟨res,h1,h2⟩:=lin_go md ops hb ops.size t (Array.replicate ops.size false) [] ⟨by simp,by simp,by
   intro i
   simp [Array.getElem?_replicate],by
   intro a i b hab
   simp at hab⟩ (Nat.le_trans List.countP_le_length (by simp))
  unfold Region.linearise
  rw [h1]
  exact valid_of h2
 unfold Region.schedule
 split
 ·exact key _ _
 ·exact key _ _
end Go.Ev

namespace Go.Ev
open Go.RowKit
structure Info where
 blk:Nat
 shift:Nat
 extra:Nat
abbrev Env:=Nat→Option Info
mutual
inductive VR (E:Env):Value→Value→Prop where
 |bool (b:Bool):VR E (.bool b) (.bool b)
 |int (k:IntKind) (n:Int):VR E (.int k n) (.int k n)
 |string (s:ByteArray):VR E (.string s) (.string s)
 |ptrNil:VR E (.pointer none) (.pointer none)
 |ptr {b o:Nat} {i:Info} (h:E b=some i):VR E (.pointer (some ⟨b,o,none⟩)) (.pointer (some ⟨i.blk,i.shift+o,none⟩))
 |slNil (l c:Nat):VR E (.slice none l c) (.slice none l c)
 |sl {b o:Nat} {i:Info} (l c:Nat) (h:E b=some i):VR E (.slice (some ⟨b,o,none⟩) l c) (.slice (some ⟨i.blk,i.shift+o,none⟩) l (c+i.extra))
 |slX {b o:Nat} {i:Info} (l c:Nat) (h:E b=some i):VR E (.slice (some ⟨b,o,some 0⟩) l c) (.slice (some ⟨i.blk,i.shift+o,none⟩) l c)
 |slE0 {b o k:Nat} {i:Info} (h:E b=some i) (hx:i.extra=0):VR E (.slice (some ⟨b,o,some (k+1)⟩) 0 0) (.slice (some ⟨i.blk,i.shift+o,none⟩) 0 0)
 |slE1 {b o k:Nat} {i:Info} (h:E b=some i) (hx:i.extra≠0):VR E (.slice (some ⟨b,o,some (k+1)⟩) 0 0) (.slice (some ⟨i.blk,i.shift+o+(k+1),none⟩) 0 i.extra)
 |slD {b o:Nat} {s:Option Nat} {i:Info} (a':Addr) (h:E b=some i):VR E (.slice (some ⟨b,o,s⟩) 0 0) (.slice (some a') 0 0)
 |mapNil:VR E (.map none) (.map none)
 |map {r:Nat} {i:Info} (h:E r=some i):VR E (.map (some r)) (.map (some i.blk))
 |nilFunc:VR E .nilFunc .nilFunc
 |nilIface:VR E .nilIface .nilIface
 |func {fn:Fn} {f f' c c':List Value} (hf:∀ l,fn≠.yield l) (h1:VRs E f f') (h2:VRs E c c'):VR E (.func fn ⟨f⟩ ⟨c⟩) (.func fn ⟨f'⟩ ⟨c'⟩)
 |yield {l:Nat} {i:Info} (h:E l=some i):VR E (.func (.yield l) #[] #[]) (.func (.yield i.blk) #[] #[])
 |iface (t:TypeId) {v v':Value} (h:VR E v v'):VR E (.iface t v) (.iface t v')
 |agg {a a':List Value} (h:VRs E a a'):VR E (.agg ⟨a⟩) (.agg ⟨a'⟩)
 |tuple {a a':List Value} (h:VRs E a a'):VR E (.tuple ⟨a⟩) (.tuple ⟨a'⟩)
inductive VRs (E:Env):List Value→List Value→Prop where
 |nil:VRs E [] []
 |cons {v v':Value} {l l':List Value} (h:VR E v v') (t:VRs E l l'):VRs E (v::l) (v'::l')
end
def Env.le (E E':Env):Prop:=∀ b i,E b=some i→E' b=some i
theorem Env.le.refl (E:Env):Env.le E E:=fun _ _ h=>h
theorem Env.le.trans {A B C:Env} (h:Env.le A B) (k:Env.le B C):Env.le A C:=fun b i e=>k b i (h b i e)
mutual
theorem VR.mono {E E':Env} (hE:Env.le E E'):∀ {v v':Value},VR E v v'→VR E' v v'
 |_,_,.bool b=>.bool b
 |_,_,.int k n=>.int k n
 |_,_,.string s=>.string s
 |_,_,.ptrNil=>.ptrNil
 |_,_,.ptr h=>.ptr (hE _ _ h)
 |_,_,.slNil l c=>.slNil l c
 |_,_,.sl l c h=>.sl l c (hE _ _ h)
 |_,_,.slX l c h=>.slX l c (hE _ _ h)
 |_,_,.slD a h=>.slD a (hE _ _ h)
 |_,_,.slE0 h hx=>.slE0 (hE _ _ h) hx
 |_,_,.slE1 h hx=>.slE1 (hE _ _ h) hx
 |_,_,.mapNil=>.mapNil
 |_,_,.map h=>.map (hE _ _ h)
 |_,_,.nilFunc=>.nilFunc
 |_,_,.nilIface=>.nilIface
 |_,_,.func hf h1 h2=>.func hf (VRs.mono hE h1) (VRs.mono hE h2)
 |_,_,.yield h=>.yield (hE _ _ h)
 |_,_,.iface t h=>.iface t (VR.mono hE h)
 |_,_,.agg h=>.agg (VRs.mono hE h)
 |_,_,.tuple h=>.tuple (VRs.mono hE h)
theorem VRs.mono {E E':Env} (hE:Env.le E E'):∀ {l l':List Value},VRs E l l'→VRs E' l l'
 |_,_,.nil=>.nil
 |_,_,.cons h t=>.cons (VR.mono hE h) (VRs.mono hE t)
end
theorem VR.undef (E:Env):VR E undef undef:=.tuple .nil
section
variable {E:Env}
theorem VRs.length {l l':List Value} (h:VRs E l l'):l.length=l'.length:=by
 induction l generalizing l' with
 |nil=>cases h;rfl
 |cons v l ih=>cases h with|cons h t=>simp [ih t]
theorem VRs.get {l l':List Value} (h:VRs E l l'):∀ (i:Nat) (v:Value),l[i]? = some v→∃ v',l'[i]? = some v'∧VR E v v':=by
 induction l generalizing l' with
 |nil=>intro i v hv;simp at hv
 |cons x l ih =>
  cases h with
  |cons h t =>
   intro i v hv
   cases i with
   |zero=>simp at hv;subst hv;exact⟨_,by simp,h⟩
   |succ i=>simp at hv;obtain⟨v',h1,h2⟩:=ih t i v hv;exact⟨v',by simpa using h1,h2⟩
theorem VRs.of_get {l l':List Value} (hl:l.length=l'.length) (h:∀ (i:Nat) (v v':Value),l[i]? = some v→l'[i]? = some v'→VR E v v'):VRs E l l':=by
 induction l generalizing l' with
 |nil=>cases l' with|nil=>exact .nil|cons=>simp at hl
 |cons x l ih =>
  cases l' with
  |nil=>simp at hl
  |cons y l' =>
   refine .cons (h 0 x y (by simp) (by simp)) (ih (by simpa using hl) fun i v v' h1 h2=>h (i+1) v v' (by simpa using h1) (by simpa using h2))
theorem VRs.append {a a' b b':List Value} (h:VRs E a a') (k:VRs E b b'):VRs E (a++b) (a'++b'):=by
 induction a generalizing a' with
 |nil=>cases h;exact k
 |cons x l ih=>cases h with|cons h t=>exact .cons h (ih t)
theorem VRs.take {a a':List Value} (h:VRs E a a') (n:Nat):VRs E (a.take n) (a'.take n):=by
 induction a generalizing a' n with
 |nil=>cases h;simp;exact .nil
 |cons x l ih=>cases h with|cons h t=>cases n with|zero=>simp;exact .nil|succ n=>simp;exact .cons h (ih t n)
theorem VRs.drop {a a':List Value} (h:VRs E a a') (n:Nat):VRs E (a.drop n) (a'.drop n):=by
 induction a generalizing a' n with
 |nil=>cases h;simp;exact .nil
 |cons x l ih=>cases h with|cons h t=>cases n with|zero=>simp;exact .cons h t|succ n=>simp;exact ih t n
theorem VRs.repl {z z':List Value} (h:VRs E z z'):∀ n,VRs E (repl z n) (repl z' n)
 |0=>.nil
 |n+1=>VRs.append h (VRs.repl h n)
theorem VR.cells {v v':Value} (h:VR E v v'):VRs E (cellsOfV v) v'.cells.toList:=by
 cases h<;>first|exact (‹VRs E _ _›)|exact .cons (by constructor<;>assumption) .nil
end
end Go.Ev

namespace Go.Ev
open Go.RowKit
def TRx (E:Env) (X:Nat→Prop) (t:T Value) (nt:Nat) (tm:Array Value):Prop :=
 tm.size=nt∧∀ x,¬ X x→VR E (ev t (.tmp x)) (tm.getD x undef)
abbrev TR (E:Env) (t:T Value) (nt:Nat) (tm:Array Value):Prop:=TRx E (fun _=>False) t nt tm
theorem TRx.mono {E E':Env} {X:Nat→Prop} {t:T Value} {nt:Nat} {tm:Array Value} (hE:Env.le E E') (h:TRx E X t nt tm):TRx E' X t nt tm :=
 ⟨h.1,fun x hx=>(h.2 x hx).mono hE⟩
inductive DefR (E:Env):Deferred→Deferred→Prop where
 |fn {fn fn':Fn} {c c' a a':List Value} (h:VR E (.func fn #[] ⟨c⟩) (.func fn' #[] ⟨c'⟩)) (ha:VRs E a a'):DefR E { target:=.fn fn ⟨c⟩,args:=⟨a⟩ } { target:=.fn fn' ⟨c'⟩,args:=⟨a'⟩ }
 |coll {b:Nat} {i:Info} (h:E b=some i):DefR E { target:=.collected b,args := #[] } { target:=.collected i.blk,args := #[] }
theorem DefR.mono {E E':Env} (hE:Env.le E E') {d d':Deferred} (h:DefR E d d'):DefR E' d d':=by
 cases h with
 |fn h ha=>exact .fn (h.mono hE) (ha.mono hE)
 |coll h=>exact .coll (hE _ _ h)
inductive DefsR (E:Env):List Deferred→List Deferred→Prop where
 |nil:DefsR E [] []
 |cons {d d':Deferred} {l l':List Deferred} (h:DefR E d d') (t:DefsR E l l'):DefsR E (d::l) (d'::l')
theorem DefsR.mono {E E':Env} (hE:Env.le E E') {l l':List Deferred} (h:DefsR E l l'):DefsR E' l l':=by
 induction h with
 |nil=>exact .nil
 |cons h _ ih=>exact .cons (h.mono hE) ih
theorem DefsR.append {E:Env} {a a' b b':List Deferred} (h:DefsR E a a') (k:DefsR E b b'):DefsR E (a++b) (a'++b'):=by
 induction h with
 |nil=>exact k
 |cons h _ ih=>exact .cons h ih
inductive EntR (E:Env):List MapEntry→List MapEntry→Prop where
 |nil:EntR E [] []
 |cons {k k' v v':Value} {b:Nat} {l l':List MapEntry} (hk:VR E k k') (hv:VR E v v') (t:EntR E l l'):EntR E (⟨k,v,b⟩::l) (⟨k',v',b⟩::l')
theorem EntR.mono {E E':Env} (hE:Env.le E E') {l l':List MapEntry} (h:EntR E l l'):EntR E' l l':=by
 induction h with
 |nil=>exact .nil
 |cons hk hv _ ih=>exact .cons (hk.mono hE) (hv.mono hE) ih
theorem EntR.length {E:Env} {l l':List MapEntry} (h:EntR E l l'):l.length=l'.length:=by
 induction h with
 |nil=>rfl
 |cons _ _ _ ih=>simp [ih]
theorem EntR.append {E:Env} {a a' b b':List MapEntry} (h:EntR E a a') (k:EntR E b b'):EntR E (a++b) (a'++b'):=by
 induction h with
 |nil=>exact k
 |cons hk hv _ ih=>exact .cons hk hv ih
def FzR (fz:Fz) (shift size:Nat) (fr:Nat × Nat):Prop :=
 match fz with
 | .none=>fr.1=fr.2
 | .str=>fr.1=fr.2∨size≤fr.1
 | .rng lo hi=>fr=(shift+lo,shift+hi)
structure RowR (sz:Nat) (E:Env) (r:Row) (i:Info) (cells:Array Value) (elem:TypeId) (fr:Nat × Nat):Prop where
 elem:elem=r.elem
 cell:∀ j v,cellAt r j=some v→∃ v',cells[i.shift+j]? = some v'∧VR E v v'
 size:cells.size=i.shift+r.n+i.extra*sz
 exact':r.ext=false→i.shift=0∧i.extra=0
 fz:FzR r.fz i.shift cells.size fr
theorem RowR.mono {sz:Nat} {E E':Env} (hE:Env.le E E') {r:Row} {i:Info} {cells:Array Value} {elem:TypeId} {fr:Nat × Nat} (h:RowR sz E r i cells elem fr):RowR sz E' r i cells elem fr :=
 ⟨h.elem,fun j v hv=>let ⟨v',h1,h2⟩:=h.cell j v hv; ⟨v',h1,h2.mono hE⟩,h.size,h.exact',h.fz⟩
inductive ObjR (P:Program) (E:Env) (i:Info):AObj→Obj→Prop where
 |row {r:Row} {cells:Array Value} {elem:TypeId} {fr:Nat × Nat} (h:RowR (P.cellsOf r.elem) E r i cells elem fr):ObjR P E i (.row r) (.cells cells elem fr)
 |glob {r:Row} {cells:Array Value} {elem:TypeId} {fr:Nat × Nat} (h:RowR (P.cellsOf r.elem) E r i cells elem fr) (hx:r.ext=false):ObjR P E i (.glob r) (.cells cells elem fr)
 |map {es es':List MapEntry} {c:Nat} (h:EntR E es es'):ObjR P E i (.map es c) (.map ⟨es'⟩ c)
 |strIter {s:ByteArray} {pos:Nat} {rest:List UInt8} (hs:i.shift=0) (h:rest=s.data.toList.drop pos):ObjR P E i (.strIter s pos rest) (.stringIter s pos)
 |mapIter0 (since:Nat) (seen:List Nat) (st:Nat) (hs:i.shift=0):ObjR P E i (.mapIter none since seen st) (.mapIter none since ⟨seen⟩ st)
 |mapIter {r:Nat} {j:Info} (since:Nat) (seen:List Nat) (st:Nat) (hs:i.shift=0) (h:E r=some j):ObjR P E i (.mapIter (some r) since seen st) (.mapIter (some j.blk) since ⟨seen⟩ st)
 |loop {st:LoopState} {pe:Option Code} {fn:FuncId} {t:T Value} {nt:Nat} {tm:Array Value} {ps:List Tmp} {a b:Code} {ds:Nat} {j:Info} (ht:TR E t nt tm) (h:E ds=some j) :
   ObjR P E i (.loop st pe fn t nt ps a b ds) (.loop { state:=st,pending:=pe,fn,tmps:=tm,params:=⟨ps⟩,assign:=a,body:=b,defers:=j.blk })
 |dfr0:ObjR P E i (.dfr none) (.deferred none)
 |dfr {l l':List Deferred} (h:DefsR E l l'):ObjR P E i (.dfr (some l)) (.deferred (some l'))
theorem ObjR.mono {P:Program} {E E':Env} (hE:Env.le E E') {i:Info} {a:AObj} {o:Obj} (h:ObjR P E i a o):ObjR P E' i a o:=by
 cases h with
 |row h=>exact .row (h.mono hE)
 |glob h hx=>exact .glob (h.mono hE) hx
 |map h=>exact .map (h.mono hE)
 |strIter hs h=>exact .strIter hs h
 |mapIter0 _ _ _ hs=>exact .mapIter0 _ _ _ hs
 |mapIter a b c hs h=>exact .mapIter _ _ _ hs (hE _ _ h)
 |loop ht h=>exact .loop (ht.mono hE) (hE _ _ h)
 |dfr0=>exact .dfr0
 |dfr h=>exact .dfr (h.mono hE)
def AObj.live:AObj→Bool
 | .dead=>false
 |_=>true
def AObj.own:AObj→Bool
 | .dead=>false
 | .glob _=>false
 |_=>true
structure MR (P:Program) (N:Nat) (w0:World) (E:Env) (m:Mem) (w:World):Prop where
 objs:∀ b i o,E b=some i→m.objs.get b=some o→o.live=true→∃ ob,w.heap[i.blk]? = some ob∧ObjR P E i o ob
 ub:∀ b i,E b=some i→i.blk<w.heap.size
 dom:∀ b,m.next≤b→m.objs.get b=none∧E b=none
 inj:∀ b b' i i' o o',b≠b'→E b=some i→E b'=some i'→m.objs.get b=some o→m.objs.get b'=some o'→o.live=true→o'.live=true→i.blk≠i'.blk
 own:∀ b i o,E b=some i→m.objs.get b=some o→o.own=true→N≤i.blk
 base:Below N w0 w
 size:N≤w.heap.size
structure MExt (hi:Nat) (E:Env) (m:Mem) (E':Env) (m':Mem):Prop where
 le:Env.le E E'
 pend:∀ b,b<hi→E b=none→E' b=none∧m'.objs.get b=m.objs.get b
 next:m.next≤m'.next
theorem MExt.refl (hi:Nat) (E:Env) (m:Mem):MExt hi E m E m:=⟨.refl E,fun _ _ h=>⟨h,rfl⟩,Nat.le_refl _⟩
theorem MExt.trans {hi:Nat} {A B C:Env} {a b c:Mem} (h:MExt hi A a B b) (k:MExt hi B b C c):MExt hi A a C c :=
 ⟨h.le.trans k.le,fun x hx e=>let ⟨e1,g1⟩:=h.pend x hx e;let ⟨e2,g2⟩:=k.pend x hx e1; ⟨e2,g2.trans g1⟩,Nat.le_trans h.next k.next⟩
theorem MExt.lower {hi lo:Nat} {A B:Env} {a b:Mem} (h:MExt hi A a B b) (hl:lo≤hi):MExt lo A a B b :=
 ⟨h.le,fun x hx=>h.pend x (by omega),h.next⟩
theorem get_putObj (m:Mem) (b:Nat) (o:AObj) (k:Nat):(putObj m b o).objs.get k=if k=b then some o else m.objs.get k:=T.get_set _ _ _ _
theorem next_putObj (m:Mem) (b:Nat) (o:AObj):(putObj m b o).next=m.next:=rfl
theorem get_newObjA (m:Mem) (o:AObj) (k:Nat):(newObjA m o).objs.get k=if k=m.next then some o else m.objs.get k:=T.get_set _ _ _ _
theorem next_newObjA (m:Mem) (o:AObj):(newObjA m o).next=m.next+1:=rfl
theorem rowOf_some {m:Mem} {b:Nat} {r:Row} (h:rowOf m b=some r):m.objs.get b=some (.row r)∨m.objs.get b=some (.glob r):=by
 unfold rowOf at h
 split at h<;>simp_all
theorem rowW_some {m:Mem} {b:Nat} {r:Row} (h:rowW m b=some r):m.objs.get b=some (.row r):=by
 unfold rowW at h
 split at h<;>simp_all
theorem rowOf_of_rowW {m:Mem} {b:Nat} {r:Row} (h:rowW m b=some r):rowOf m b=some r:=by
 unfold rowOf;rw [rowW_some h]
section
variable {P:Program} {N:Nat} {w0:World} {E:Env} {m:Mem} {w:World}
theorem MR.row (H:MR P N w0 E m w) {b:Nat} {i:Info} {r:Row} (hE:E b=some i) (h:rowOf m b=some r) :
  ∃ cells elem fr,w.heap[i.blk]? = some (.cells cells elem fr)∧RowR (P.cellsOf r.elem) E r i cells elem fr:=by
 rcases rowOf_some h with h|h
 ·obtain⟨ob,h1,h2⟩:=H.objs b i _ hE h rfl
  cases h2 with|row h2=>exact⟨_,_,_,h1,h2⟩
 ·obtain⟨ob,h1,h2⟩:=H.objs b i _ hE h rfl
  cases h2 with|glob h2 _=>exact⟨_,_,_,h1,h2⟩
theorem MR.cell (H:MR P N w0 E m w) {b:Nat} {i:Info} {r:Row} (hE:E b=some i) (h:rowOf m b=some r) {j:Nat} {v:Value} (hv:cellAt r j=some v) :
  ∃ v',w.cell? ⟨i.blk,i.shift+j,none⟩=some v'∧VR E v v':=by
 obtain⟨cells,elem,fr,h1,h2⟩:=H.row hE h
 obtain⟨v',h3,h4⟩:=h2.cell j v hv
 exact⟨v',by simp [World.cell?,h1,h3],h4⟩
theorem cellAt_lt {r:Row} {j:Nat} {v:Value} (h:cellAt r j=some v):j<r.n:=by
 obtain⟨ov,n,z,e,f,x⟩:=r
 simp only [cellAt] at h
 split at h
 ·rename_i hb;simpa [Nat.blt_eq] using hb
 ·simp at h
theorem MR.put (H:MR P N w0 E m w) {b:Nat} {i:Info} {o o':AObj} {w':World} (hE:E b=some i) (hg:m.objs.get b=some o) (hl:o.own=true) (hl':o'.own=true∨o'.live=false)
  (hsize:w'.heap.size=w.heap.size) (hother:∀ k,k≠i.blk→w'.heap[k]? = w.heap[k]?) (hos:w'.os=w.os) (htape:w'.tape=w.tape) (hout:w'.output=w.output)
  (hob:o'.live=true→∃ ob,w'.heap[i.blk]? = some ob∧ObjR P E i o' ob):MR P N w0 E (putObj m b o') w':=by
 have hlive:o.live=true:=by cases o<;>simp_all [AObj.own,AObj.live]
 refine⟨?_,?_,?_,?_,?_,?_,?_⟩
 ·intro c j q hc hq hql
  rw [get_putObj] at hq
  by_cases e:c=b
  ·subst e
   rw [if_pos rfl] at hq
   obtain rfl:=Option.some.inj hq
   obtain rfl:=Option.some.inj (hE.symm.trans hc)
   exact hob hql
  ·rw [if_neg e] at hq
   obtain⟨ob,h1,h2⟩:=H.objs c j q hc hq hql
   exact⟨ob,by rw [hother _ (H.inj c b j i q o e hc hE hq hg hql hlive)];exact h1,h2⟩
 ·intro c j hc;rw [hsize];exact H.ub c j hc
 ·intro c hc
  rw [next_putObj] at hc
  rw [get_putObj]
  obtain⟨h1,h2⟩:=H.dom c hc
  have:c≠b:=by intro e;subst e;rw [h1] at hg;simp at hg
  rw [if_neg this];exact⟨h1,h2⟩
 ·intro c c' j j' q q' hne hc hc' hq hq' hl1 hl2
  rw [get_putObj] at hq hq'
  have key:∀ x y,(if x=b then some o' else m.objs.get x)=some y→y.live=true→∃ z,m.objs.get x=some z∧z.live=true:=by
   intro x y h hy
   by_cases e:x=b
   ·subst e;exact⟨o,hg,hlive⟩
   ·rw [if_neg e] at h;exact⟨y,h,hy⟩
  obtain⟨z,hz,hzl⟩:=key _ _ hq hl1
  obtain⟨z',hz',hzl'⟩:=key _ _ hq' hl2
  exact H.inj c c' j j' z z' hne hc hc' hz hz' hzl hzl'
 ·intro c j q hc hq hqo
  rw [get_putObj] at hq
  by_cases e:c=b
  ·subst e
   obtain rfl:=Option.some.inj (hE.symm.trans hc)
   exact H.own c _ o hE hg hl
  ·rw [if_neg e] at hq;exact H.own c j q hc hq hqo
 ·exact⟨hos.trans H.base.os,htape.trans H.base.tape,hout.trans H.base.output,by rw [hsize];exact H.base.size,fun k hk=>by
   rw [hother k (by have:=H.own b i o hE hg hl;omega)];exact H.base.block k hk⟩
 ·rw [hsize];exact H.size
theorem MExt.put {hi:Nat} {b:Nat} {i:Info} (o:AObj) (hE:E b=some i):MExt hi E m E (putObj m b o) :=
 ⟨.refl E,fun c _ hc=>⟨hc,by rw [get_putObj,if_neg (by intro e;subst e;rw [hE] at hc;simp at hc)]⟩,Nat.le_refl _⟩
def Env.add (E:Env) (b:Nat) (i:Info):Env:=fun c=>if c=b then some i else E c
theorem Env.add_le {E:Env} {b:Nat} {i:Info} (h:E b=none):Env.le E (E.add b i):=by
 intro c j hc
 unfold Env.add
 rw [if_neg (by intro e;subst e;rw [h] at hc;simp at hc)];exact hc
theorem Env.add_at {E:Env} {b:Nat} {i:Info}:E.add b i b=some i:=by simp [Env.add]
theorem MR.mat (H:MR P N w0 E m w) {b:Nat} {o:AObj} {ob:Obj} {w':World} (hE:E b=none) (hg:m.objs.get b=some o) (hlt:b<m.next) (hown:o.own=true)
  (hheap:w'.heap=w.heap.push ob) (hos:w'.os=w.os) (htape:w'.tape=w.tape) (hout:w'.output=w.output) {sh ex:Nat}
  (hob:ObjR P (E.add b ⟨w.heap.size,sh,ex⟩) ⟨w.heap.size,sh,ex⟩ o ob):MR P N w0 (E.add b ⟨w.heap.size,sh,ex⟩) m w':=by
 have hle:=Env.add_le (i:=⟨w.heap.size,sh,ex⟩) hE
 have hold:∀ k,k<w.heap.size→w'.heap[k]? = w.heap[k]? := fun k hk=>by rw [hheap,Array.getElem?_push,if_neg (by omega)]
 refine⟨?_,?_,?_,?_,?_,?_,?_⟩
 ·intro c j q hc hq hql
  by_cases e:c=b
  ·subst e
   obtain rfl:=Option.some.inj (Env.add_at.symm.trans hc)
   obtain rfl:=Option.some.inj (hg.symm.trans hq)
   exact⟨ob,by rw [hheap,Array.getElem?_push];simp,hob⟩
  ·simp only [Env.add,if_neg e] at hc
   obtain⟨ob',h1,h2⟩:=H.objs c j q hc hq hql
   exact⟨ob',by rw [hold _ (H.ub c j hc)];exact h1,h2.mono hle⟩
 ·intro c j hc
  rw [hheap,Array.size_push]
  by_cases e:c=b
  ·subst e;obtain rfl:=Option.some.inj (Env.add_at.symm.trans hc);simp
  ·simp only [Env.add,if_neg e] at hc;have:=H.ub c j hc;omega
 ·intro c hc
  obtain⟨h1,h2⟩:=H.dom c hc
  exact⟨h1,by simp only [Env.add];rw [if_neg (by omega)];exact h2⟩
 ·intro c c' j j' q q' hne hc hc' hq hq' hl1 hl2
  by_cases e:c=b
  ·subst e
   obtain rfl:=Option.some.inj (Env.add_at.symm.trans hc)
   simp only [Env.add,if_neg (Ne.symm hne)] at hc'
   have:=H.ub c' j' hc'
   simp only;omega
  ·simp only [Env.add,if_neg e] at hc
   by_cases e':c'=b
   ·subst e'
    obtain rfl:=Option.some.inj (Env.add_at.symm.trans hc')
    have:=H.ub c j hc
    simp only;omega
   ·simp only [Env.add,if_neg e'] at hc'
    exact H.inj c c' j j' q q' hne hc hc' hq hq' hl1 hl2
 ·intro c j q hc hq hqo
  by_cases e:c=b
  ·subst e;obtain rfl:=Option.some.inj (Env.add_at.symm.trans hc);exact H.size
  ·simp only [Env.add,if_neg e] at hc;exact H.own c j q hc hq hqo
 ·have:=H.size
  exact⟨hos.trans H.base.os,htape.trans H.base.tape,hout.trans H.base.output,by rw [hheap,Array.size_push];have:=H.base.size;omega,fun k hk=>by
   rw [hold k (by omega)];exact H.base.block k hk⟩
 ·rw [hheap,Array.size_push];have:=H.size;omega
theorem MR.lay (H:MR P N w0 E m w) (o:AObj):MR P N w0 E (newObjA m o) w:=by
 have hn:=(H.dom m.next (Nat.le_refl _)).2
 have key:∀ c i,E c=some i→c≠m.next:=fun c i hc e=>by subst e;rw [hn] at hc;simp at hc
 refine⟨?_,H.ub,?_,?_,?_,H.base,H.size⟩
 ·intro c i q hc hq hl;rw [get_newObjA,if_neg (key c i hc)] at hq;exact H.objs c i q hc hq hl
 ·intro c hc;rw [next_newObjA] at hc;rw [get_newObjA,if_neg (by omega)];exact H.dom c (by omega)
 ·intro c c' i i' q q' hne hc hc' hq hq'
  rw [get_newObjA,if_neg (key _ _ hc)] at hq
  rw [get_newObjA,if_neg (key _ _ hc')] at hq'
  exact H.inj c c' i i' q q' hne hc hc' hq hq'
 ·intro c i q hc hq;rw [get_newObjA,if_neg (key _ _ hc)] at hq;exact H.own c i q hc hq
theorem MExt.lay (H:MR P N w0 E m w) (o:AObj):MExt m.next E m E (newObjA m o) :=
 ⟨.refl E,fun c hc hn=>⟨hn,by rw [get_newObjA,if_neg (by omega)]⟩,by rw [next_newObjA];omega⟩
theorem MExt.mat {b hi:Nat} {i:Info} (hE:E b=none) (hb:hi≤b):MExt hi E m (E.add b i) m :=
 ⟨Env.add_le hE,fun c hc hn=>⟨by simp only [Env.add];rw [if_neg (by omega)];exact hn,rfl⟩,Nat.le_refl _⟩
theorem MR.same (H:MR P N w0 E m w) {w':World} (hh:w'.heap=w.heap) (hos:w'.os=w.os) (htape:w'.tape=w.tape) (hout:w'.output=w.output):MR P N w0 E m w' :=
 ⟨fun b i o h1 h2 h3=>by rw [hh];exact H.objs b i o h1 h2 h3,fun b i h=>by rw [hh];exact H.ub b i h,H.dom,H.inj,H.own,
  ⟨hos.trans H.base.os,htape.trans H.base.tape,hout.trans H.base.output,by rw [hh];exact H.base.size,fun k hk=>by rw [hh];exact H.base.block k hk⟩,by rw [hh];exact H.size⟩
end
end Go.Ev

namespace Go.Ev
theorem putT_some {t t':T Value} {nt d:Nat} {v:Value} (h:putT t nt (some d) v=some t'):d<nt∧t'=t.set d v:=by
 unfold putT at h
 simp only at h
 split at h<;>first|(simp at h;done)|skip
 rename_i hb
 refine⟨by simpa [Nat.blt_eq] using hb,?_⟩
 split at h
 ·rename_i he;simp only [Option.some.injEq] at h;rw [he];exact h.symm
 ·rename_i he;simp only [Option.some.injEq] at h;rw [he];exact h.symm
theorem putT_none {t t':T Value} {nt:Nat} {v:Value} (h:putT t nt none v=some t'):t'=t:=by
 unfold putT at h
 simp only [Option.some.injEq] at h;exact h.symm
theorem ev_set (t:T Value) (d:Nat) (v:Value) (x:Nat):ev (t.set d v) (.tmp x)=if x=d then v else ev t (.tmp x):=by
 simp only [ev,T.get_set]
 by_cases h:x=d
 ·rw [if_pos h,if_pos h]
 ·rw [if_neg h,if_neg h]
theorem ev_put {t t':T Value} {nt:Nat} {dst:Option Tmp} {v:Value} (h:putT t nt dst v=some t') (x:Nat):ev t' (.tmp x)=if dst=some x then v else ev t (.tmp x):=by
 cases dst with
 |none=>rw [putT_none h];simp
 |some d =>
  rw [(putT_some h).2,ev_set]
  by_cases e:x=d
  ·subst e;simp
  ·rw [if_neg e,if_neg (by simpa using fun h:d=x=>e h.symm)]
theorem ev_const (t t':T Value):∀ x:Operand,(∀ d,x=.tmp d→ev t (.tmp d)=ev t' (.tmp d))→ev t x=ev t' x
 | .tmp d,h=>h d rfl
 | .const v,_=>rfl
 | .global g,_=>rfl
 | .func f,_=>rfl
def reads (ops:Array Oper) (o:Oper) (d:Nat):Prop:=.tmp d∈o.op.operands.toList∨∃ j wn oj,o.guard=some (j,wn)∧ops.toList[j]? = some oj∧oj.dst=some d
theorem bit_or (k t d:Nat):Nat.testBit (Nat.lor k (Nat.shiftLeft 1 t)) d=true↔Nat.testBit k d=true∨t=d:=by
 show (k ||| (1 <<< t)).testBit d=true↔_
 rw [Nat.testBit_or,Bool.or_eq_true,Nat.one_shiftLeft,Nat.testBit_two_pow]
 simp
theorem maskOp_bit:∀ (l:List Operand) (k d:Nat),Nat.testBit (maskOp l k) d=true↔Nat.testBit k d=true∨Operand.tmp d∈l
 | [],k,d=>by simp [maskOp]
 |x::l,k,d=>by
  cases x with
  |tmp t =>
   simp only [maskOp]
   rw [maskOp_bit l,bit_or]
   constructor
   ·rintro ((h|h)|h)
    ·exact .inl h
    ·subst h;exact .inr (by simp)
    ·exact .inr (List.mem_cons_of_mem _ h)
   ·rintro (h|h)
    ·exact .inl (.inl h)
    ·rcases List.mem_cons.1 h with h|h
     ·injection h with h;exact .inl (.inr h.symm)
     ·exact .inr h
  |const v=>simp only [maskOp];rw [maskOp_bit l];simp
  |global g=>simp only [maskOp];rw [maskOp_bit l];simp
  |func f=>simp only [maskOp];rw [maskOp_bit l];simp
theorem namesA_bit (ops:Array Oper) (o:Oper) (k d:Nat):Nat.testBit (namesA ops o k) d=true↔Nat.testBit k d=true∨reads ops o d:=by
 unfold namesA reads
 cases hg:o.guard with
 |none=>simp only;rw [maskOp_bit];simp
 |some g =>
  obtain⟨j,wn⟩:=g
  simp only
  cases hj:ops.toList[j]? with
  |none =>
   simp only;rw [maskOp_bit]
   constructor
   ·rintro (h|h);exact .inl h;exact .inr (.inl h)
   ·rintro (h|h|⟨j',wn',oj,h1,h2,h3⟩)
    ·exact .inl h
    ·exact .inr h
    ·simp only [Option.some.injEq,Prod.mk.injEq] at h1;obtain⟨rfl,rfl⟩:=h1;rw [hj] at h2;simp at h2
  |some oj =>
   simp only
   cases hd:oj.dst with
   |none =>
    simp only;rw [maskOp_bit]
    constructor
    ·rintro (h|h);exact .inl h;exact .inr (.inl h)
    ·rintro (h|h|⟨j',wn',oj',h1,h2,h3⟩)
     ·exact .inl h
     ·exact .inr h
     ·simp only [Option.some.injEq,Prod.mk.injEq] at h1;obtain⟨rfl,rfl⟩:=h1;rw [hj] at h2;obtain rfl:=Option.some.inj h2;rw [hd] at h3;simp at h3
   |some q =>
    simp only;rw [maskOp_bit,bit_or]
    constructor
    ·rintro ((h|h)|h)
     ·exact .inl h
     ·subst h;exact .inr (.inr ⟨j,wn,oj,rfl,hj,hd⟩)
     ·exact .inr (.inl h)
    ·rintro (h|h|⟨j',wn',oj',h1,h2,h3⟩)
     ·exact .inl (.inl h)
     ·exact .inr h
     ·simp only [Option.some.injEq,Prod.mk.injEq] at h1;obtain⟨rfl,rfl⟩:=h1;rw [hj] at h2;obtain rfl:=Option.some.inj h2;rw [hd] at h3;exact .inl (.inr (Option.some.inj h3))
theorem maskA_some {ops:Array Oper} {o:Oper} {k k':Nat} (h:maskA ops o k=some k') :
  (∀ d,o.dst=some d→Nat.testBit k d=false∧¬ reads ops o d)∧(∀ d,Nat.testBit k d=true→Nat.testBit k' d=true)∧(∀ d,reads ops o d→Nat.testBit k' d=true)∧(∀ d,o.dst=some d→Nat.testBit k' d=true):=by
 unfold maskA at h
 cases hd:o.dst with
 |none =>
  rw [hd] at h
  simp only [Option.some.injEq] at h;subst h
  exact⟨by simp,fun d h=>(namesA_bit _ _ _ _).2 (.inl h),fun d h=>(namesA_bit _ _ _ _).2 (.inr h),by simp⟩
 |some q =>
  rw [hd] at h
  simp only at h
  split at h<;>first|(simp at h;done)|skip
  rename_i hb
  simp only [Option.some.injEq] at h;subst h
  refine⟨?_,fun d h=>(bit_or _ _ _).2 (.inl ((namesA_bit _ _ _ _).2 (.inl h))),fun d h=>(bit_or _ _ _).2 (.inl ((namesA_bit _ _ _ _).2 (.inr h))),?_⟩
  ·intro d he
   obtain rfl:=Option.some.inj he
   refine⟨?_,fun hr=>?_⟩
   ·cases hk:Nat.testBit k q with
    |false=>rfl
    |true=>rw [(namesA_bit ops o k q).2 (.inl hk)] at hb;simp at hb
   ·rw [(namesA_bit ops o k q).2 (.inr hr)] at hb;simp at hb
  ·intro d he
   exact (bit_or _ _ _).2 (.inr (Option.some.inj he))
theorem edgeFrom_some {i:Nat}:∀ {l:List Edge},edgeFrom i l=true→∃ e∈l,e.on=i∧Region.binds .any e=true
 | [],h=>by simp [edgeFrom] at h
 |e::l,h=>by
  simp only [edgeFrom] at h
  split at h
  ·rename_i hb
   split at h
   ·rename_i hq
    exact⟨e,by simp,Nat.eq_of_beq_eq_true hb,hq⟩
   ·obtain⟨e',h1,h2⟩:=edgeFrom_some h;exact⟨e',List.mem_cons_of_mem _ h1,h2⟩
  ·obtain⟨e',h1,h2⟩:=edgeFrom_some h;exact⟨e',List.mem_cons_of_mem _ h1,h2⟩
theorem depsOk_some {ops:Array Oper} {o:Oper}:∀ {l:List Hist},depsOk ops o l=true→∀ h∈l,∀ d,h.o.dst=some d→reads ops o d→edgeFrom h.i o.after.toList=true
 | [],_,_,hm=>by simp at hm
 |g::l,hk,h,hm=>by
  intro d hd hr
  simp only [depsOk] at hk
  rcases List.mem_cons.1 hm with rfl|hm
  ·rw [hd] at hk
   simp only at hk
   rw [(namesA_bit ops o 0 d).2 (.inr hr)] at hk
   simp only at hk
   split at hk
   ·assumption
   ·simp at hk
  ·split at hk
   ·exact depsOk_some hk h hm d hd hr
   ·split at hk
    ·exact depsOk_some hk h hm d hd hr
    ·split at hk
     ·exact depsOk_some hk h hm d hd hr
     ·simp at hk
theorem blockedBy_some {bl:List Nat}:∀ {l:List Edge},blockedBy bl l=true→∃ e∈l,e.on∈bl∧Region.binds .any e=true
 | [],h=>by simp [blockedBy] at h
 |e::l,h=>by
  simp only [blockedBy] at h
  split at h
  ·rename_i hq
   split at h
   ·rename_i hb
    rw [List.any_eq_true] at hb
    obtain⟨y,hy,he⟩:=hb
    have:=Nat.eq_of_beq_eq_true he
    exact⟨e,by simp,by rw [this];exact hy,hq⟩
   ·obtain⟨e',h1,h2⟩:=blockedBy_some h;exact⟨e',List.mem_cons_of_mem _ h1,h2⟩
  ·obtain⟨e',h1,h2⟩:=blockedBy_some h;exact⟨e',List.mem_cons_of_mem _ h1,h2⟩
theorem alone_head {ops:Array Oper} {x:Nat} {sched:List Nat} (hv:Valid ops (x::sched)):∀ {rem:List (Nat × Oper)} {bl:List Nat},alone bl rem=true→(∀ y∈bl,y∈x::sched)→(∀ z∈rem,z.1∈x::sched∧ops.toList[z.1]? = some z.2)→∀ z∈rem,z.1≠x
 | [],bl,_,_,_=>by simp
 | (i,o)::l,bl,h,hbl,hrem=>by
   simp only [alone] at h
   split at h<;>first|(simp at h;done)|skip
   rename_i hb
   obtain⟨hi,ho⟩:=hrem (i,o) (by simp)
   intro z hz
   rcases List.mem_cons.1 hz with rfl|hz
   ·intro e
    simp only at e;subst e
    obtain⟨e,he,h1,h2⟩:=blockedBy_some hb
    exact hv.2.1 o ho e he h2 (hbl _ h1)
   ·exact alone_head hv h (fun y hy=>by
     rcases List.mem_cons.1 hy with rfl|hy
     ·exact hi
     ·exact hbl y hy) (fun z hz=>hrem z (List.mem_cons_of_mem _ hz)) z hz
theorem wantedA_iff {t:T Value} {ops:Array Oper} {j:Nat} {wn:Bool}:wantedA t ops (some (j,wn))=true↔∃ oj d,ops.toList[j]? = some oj∧oj.dst=some d∧ev t (.tmp d)=.bool wn:=by
 unfold wantedA
 simp only
 cases hj:ops.toList[j]? with
 |none=>simp
 |some oj =>
  simp only
  cases hd:oj.dst with
  |none=>simp [hd]
  |some d =>
   simp only
   constructor
   ·intro h
    refine⟨oj,d,rfl,hd,?_⟩
    simp only [ev]
    split at h<;>first|(simp at h;done)|skip
    rename_i b hb
    rw [hb]
    simp only
    split at h<;>first|rfl|(simp at h)
   ·rintro⟨oj',d',h1,h2,h3⟩
    obtain rfl:=Option.some.inj h1
    rw [hd] at h2
    obtain rfl:=Option.some.inj h2
    simp only [ev] at h3
    cases hg:t.get d with
    |none=>rw [hg] at h3;simp [undef] at h3
    |some v =>
     rw [hg] at h3
     simp only at h3
     subst h3
     cases wn<;>rfl
section
variable {tb:Tabs} {ops:Array Oper} {o:Oper} {t t':T Value} (h:∀ d,reads ops o d→ev t (.tmp d)=ev t' (.tmp d))
include h
theorem wantedA_congr:wantedA t ops o.guard=wantedA t' ops o.guard:=by
 cases hg:o.guard with
 |none=>rfl
 |some g =>
  obtain⟨j,wn⟩:=g
  have:wantedA t ops (some (j,wn))=true↔wantedA t' ops (some (j,wn))=true:=by
   rw [wantedA_iff,wantedA_iff]
   constructor
   ·rintro⟨oj,d,h1,h2,h3⟩
    exact⟨oj,d,h1,h2,by rw [← h d (.inr ⟨j,wn,oj,hg,h1,h2⟩)];exact h3⟩
   ·rintro⟨oj,d,h1,h2,h3⟩
    exact⟨oj,d,h1,h2,by rw [h d (.inr ⟨j,wn,oj,hg,h1,h2⟩)];exact h3⟩
  cases h1:wantedA t ops (some (j,wn))<;>cases h2:wantedA t' ops (some (j,wn))<;>simp_all
theorem ops_congr:∀ x∈o.op.operands.toList,ev t x=ev t' x:=fun x hx=>ev_const t t' x fun d e=>h d (.inl (by rw [← e];exact hx))
theorem opA_congr' (m:Mem):opA o.op tb t m=opA o.op tb t' m:=opA_congr (ops_congr h) m
theorem evs_congr':evs t o.op.operands.toList=evs t' o.op.operands.toList:=evs_congr (ops_congr h)
end
end Go.Ev

namespace Go.Ev
open Go.RowKit
section
variable (tb:Tabs) (E:Env) (m:Mem) (lo hi:Nat) (ops:Array Oper) (t:T Value) (nt:Nat)
def HFact (h:Hist):Prop :=
 (∀ d,h.o.dst=some d→ev t (.tmp d)=h.v∧d<nt) ∧
 match h.k with
 | .s=>wantedA t ops h.o.guard=false∧h.v=undef
 | .r=>wantedA t ops h.o.guard=true∧evs t h.o.op.operands.toList=h.vs∧(isPure h.o.op=true→∀ m,opA h.o.op tb t m=.r h.v)
 | .f b=>wantedA t ops h.o.guard=true∧evs t h.o.op.operands.toList=h.vs∧lo≤b∧b<hi∧E b=none∧∃ ob mk,(∀ m,opA h.o.op tb t m=.f ob mk)∧h.v=mk b∧m.objs.get b=some ob
def HNow (h:Hist):Prop :=
 match h.k with
 | .r=>opA h.o.op tb t m=.r h.v
 |_=>True
structure DrI (wait:Bool) (rem:List (Nat × Oper)) (hist:List Hist) (mask:Nat) (sched:List Nat):Prop where
 valid:Valid ops sched
 remOps:∀ x∈rem,ops.toList[x.1]? = some x.2
 remIn:∀ x∈rem,x.1∈sched
 remNd:(rem.map (·.1)).Nodup
 histOps:∀ h∈hist,ops.toList[h.i]? = some h.o
 histNd:(hist.map (·.i)).Nodup
 apart:∀ h∈hist,∀ x∈rem,h.i≠x.1
 all:∀ k∈sched,(∃ x∈rem,x.1=k)∨∃ h∈hist,h.i=k
 fact:∀ h∈hist,h.i∈sched→HFact tb E m lo hi ops t nt h
 now:wait=false→∀ h∈hist,h.i∈sched→HNow tb m t h
 deps:∀ h∈hist,∀ g∈hist,g.i≠h.i→∀ d,g.o.dst=some d→reads ops h.o d→edgeFrom g.i h.o.after.toList=true
 names:∀ h∈hist,(∀ d,reads ops h.o d→Nat.testBit mask d=true)∧∀ d,h.o.dst=some d→Nat.testBit mask d=true
 ids:∀ h∈hist,∀ g∈hist,∀ b,h.k=.f b→g.k=.f b→h.i=g.i
 idlt:∀ h∈hist,∀ b,h.k=.f b→b<hi
 own:∀ h∈hist,∀ d,h.o.dst=some d→¬ reads ops h.o d
end
section
variable {tb:Tabs} {E:Env} {m m':Mem} {lo hi hi':Nat} {ops:Array Oper} {t t':T Value} {nt:Nat}
theorem HFact.step {h:Hist} (H:HFact tb E m lo hi ops t nt h) (hr:∀ d,reads ops h.o d→ev t (.tmp d)=ev t' (.tmp d)) (hd:∀ d,h.o.dst=some d→ev t (.tmp d)=ev t' (.tmp d)) (S:Sub m m') (hh:hi≤hi'):HFact tb E m' lo hi' ops t' nt h:=by
 obtain⟨h1,h2⟩:=H
 refine⟨fun d e=>⟨by rw [← hd d e];exact (h1 d e).1,(h1 d e).2⟩,?_⟩
 cases hk:h.k with
 |s=>rw [hk] at h2;exact⟨by rw [← wantedA_congr hr];exact h2.1,h2.2⟩
 |r =>
  rw [hk] at h2
  exact⟨by rw [← wantedA_congr hr];exact h2.1,by rw [← evs_congr' hr];exact h2.2.1,fun hp m=>by rw [← opA_congr' hr];exact h2.2.2 hp m⟩
 |f b =>
  rw [hk] at h2
  obtain⟨g1,g2,g3,g4,g5,ob,mk,g6,g7,g8⟩:=h2
  exact⟨by rw [← wantedA_congr hr];exact g1,by rw [← evs_congr' hr];exact g2,g3,by omega,g5,ob,mk,fun m=>by rw [← opA_congr' hr];exact g6 m,g7,S _ _ g8⟩
theorem HNow.step {h:Hist} (H:HNow tb m t h) (hr:∀ d,reads ops h.o d→ev t (.tmp d)=ev t' (.tmp d)) (S:Sub m m'):HNow tb m' t' h:=by
 unfold HNow at H ⊢
 cases hk:h.k with
 |r=>rw [hk] at H;simp only at H ⊢;rw [← opA_congr' hr];exact opA_sub S H
 |_=>trivial
theorem DrI.exec {rem rem':List (Nat × Oper)} {hist:List Hist} {mask mask':Nat} {sched:List Nat} {x:Nat × Oper} {v:Value} {k:HK} {vs:List Value} (H:DrI tb E m lo hi ops t nt false rem hist mask sched)
  (hx:x∈rem) (hrem:∀ y∈rem',y∈rem∧y.1≠x.1) (hnd:(rem'.map (·.1)).Nodup) (hall:∀ y∈rem,y=x∨y∈rem') (hp:putT t nt x.2.dst v=some t') (hm:maskA ops x.2 mask=some mask') (hdeps:depsOk ops x.2 hist=true)
  (S:Sub m m') (hh:hi≤hi') (hid:∀ b,k=.f b→hi≤b∧b<hi')
  (hnew:HFact tb E m' lo hi' ops t' nt ⟨x.1,x.2,vs,k,v⟩) (hnow:HNow tb m' t' ⟨x.1,x.2,vs,k,v⟩):DrI tb E m' lo hi' ops t' nt false rem' (⟨x.1,x.2,vs,k,v⟩::hist) mask' sched:=by
 obtain⟨m1,m2,m3,m4⟩:=maskA_some hm
 have hev:∀ d,Nat.testBit mask d=true→ev t (.tmp d)=ev t' (.tmp d):=by
  intro d hd
  rw [ev_put hp,if_neg]
  intro e
  rw [(m1 d e).1] at hd;simp at hd
 have hrd:∀ h∈hist,∀ d,reads ops h.o d→ev t (.tmp d)=ev t' (.tmp d):=fun h hh d hr=>hev d ((H.names h hh).1 d hr)
 have hds:∀ h∈hist,∀ d,h.o.dst=some d→ev t (.tmp d)=ev t' (.tmp d):=fun h hh d hr=>hev d ((H.names h hh).2 d hr)
 refine⟨H.valid,fun y hy=>H.remOps y (hrem y hy).1,fun y hy=>H.remIn y (hrem y hy).1,hnd,?_,?_,?_,?_,?_,?_,?_,?_,?_,?_,?_⟩
 ·intro h hm
  rcases List.mem_cons.1 hm with rfl|hm
  ·exact H.remOps x hx
  ·exact H.histOps h hm
 ·rw [List.map_cons,List.nodup_cons]
  refine⟨fun hm=>?_,H.histNd⟩
  obtain⟨h,h1,h2⟩:=List.mem_map.1 hm
  exact H.apart h h1 x hx h2
 ·intro h hm y hy
  rcases List.mem_cons.1 hm with rfl|hm
  ·exact fun e=>(hrem y hy).2 e.symm
  ·exact H.apart h hm y (hrem y hy).1
 ·intro j hj
  rcases H.all j hj with ⟨y,hy,e⟩|⟨h,hm,e⟩
  ·rcases hall y hy with rfl|hy
   ·exact .inr ⟨_,List.mem_cons_self,e⟩
   ·exact .inl ⟨y,hy,e⟩
  ·exact .inr ⟨h,List.mem_cons_of_mem _ hm,e⟩
 ·intro h hm hs
  rcases List.mem_cons.1 hm with rfl|hm
  ·exact hnew
  ·exact (H.fact h hm hs).step (hrd h hm) (hds h hm) S hh
 ·intro _ h hm hs
  rcases List.mem_cons.1 hm with rfl|hm
  ·exact hnow
  ·exact (H.now rfl h hm hs).step (hrd h hm) S
 ·intro h hm g gm hne d hd hr
  rcases List.mem_cons.1 hm with rfl|hm
  ·rcases List.mem_cons.1 gm with rfl|gm
   ·exact absurd rfl hne
   ·exact depsOk_some hdeps g gm d hd hr
  ·rcases List.mem_cons.1 gm with rfl|gm
   ·have h1:=(H.names h hm).1 d hr
    rw [(m1 d hd).1] at h1;simp at h1
   ·exact H.deps h hm g gm hne d hd hr
 ·intro h hm
  rcases List.mem_cons.1 hm with rfl|hm
  ·exact⟨m3,m4⟩
  ·exact⟨fun d hr=>m2 d ((H.names h hm).1 d hr),fun d hr=>m2 d ((H.names h hm).2 d hr)⟩
 ·intro h hm g gm b hk gk
  rcases List.mem_cons.1 hm with rfl|hm
  ·rcases List.mem_cons.1 gm with rfl|gm
   ·rfl
   ·have:=H.idlt g gm b gk;have:=hid b hk;omega
  ·rcases List.mem_cons.1 gm with rfl|gm
   ·have:=H.idlt h hm b hk;have:=hid b gk;omega
   ·exact H.ids h hm g gm b hk gk
 ·intro h hm b hk
  rcases List.mem_cons.1 hm with rfl|hm
  ·exact (hid b hk).2
  ·have:=H.idlt h hm b hk;omega
 ·intro h hm d hd
  rcases List.mem_cons.1 hm with rfl|hm
  ·exact (m1 d hd).2
  ·exact H.own h hm d hd
theorem sub_newObjA {o:AObj} (hn:m.objs.get m.next=none):Sub m (newObjA m o):=by
 intro b q hq
 rw [get_newObjA,if_neg (by intro e;subst e;rw [hn] at hq;simp at hq)];exact hq
theorem drPut_ok {tt:Option (T Value)} {mk:Option Nat} {bl:List Nat} {rem:List (Nat × Oper)} {hist:List Hist} {ih:DrF} {t1:T Value} {m1:Mem} {rem1:List (Nat × Oper)} {hist1:List Hist} {mask1:Nat}
  (h:drPut tt mk bl rem m hist ih=.ok t1 m1 rem1 hist1 mask1):∃ t' mask',tt=some t'∧mk=some mask'∧ih bl rem t' m hist mask'=.ok t1 m1 rem1 hist1 mask1:=by
 unfold drPut at h
 split at h
 ·exact⟨_,_,rfl,rfl,h⟩
 ·simp at h
end
section
variable {tb:Tabs} {N:Nat} {w0:World} {E:Env} {w:World} {lo:Nat} {ops:Array Oper} {nt:Nat} {sched:List Nat}
theorem perm_take {rem l:List (Nat × Oper)} {x:Nat × Oper} (h:((rem.reverse++x::l).map (·.1)).Nodup):(∀ y∈rem.reverse++l,y∈rem.reverse++x::l∧y.1≠x.1)∧((rem.reverse++l).map (·.1)).Nodup∧(∀ y∈rem.reverse++x::l,y=x∨y∈rem.reverse++l):=by
 rw [List.map_append,List.map_cons,List.nodup_append,List.nodup_cons] at h
 obtain⟨h1,⟨h2,h3⟩,h4⟩:=h
 refine⟨?_,?_,?_⟩
 ·intro y hy
  rcases List.mem_append.1 hy with hy|hy
  ·exact⟨List.mem_append.2 (.inl hy),h4 _ (List.mem_map.2 ⟨y,hy,rfl⟩) _ List.mem_cons_self⟩
  ·exact⟨List.mem_append.2 (.inr (List.mem_cons_of_mem _ hy)),fun e=>h2 (by rw [← e];exact List.mem_map.2 ⟨y,hy,rfl⟩)⟩
 ·rw [List.map_append,List.nodup_append]
  exact⟨h1,h3,fun a ha b hb=>h4 a ha b (List.mem_cons_of_mem _ hb)⟩
 ·intro y hy
  rcases List.mem_append.1 hy with hy|hy
  ·exact .inr (List.mem_append.2 (.inl hy))
  ·rcases List.mem_cons.1 hy with rfl|hy
   ·exact .inl rfl
   ·exact .inr (List.mem_append.2 (.inr hy))
def PassOut (tb:Tabs) (N:Nat) (w0:World) (E:Env) (w:World) (lo:Nat) (ops:Array Oper) (nt:Nat) (sched:List Nat) (t:T Value) (m:Mem) (hist:List Hist) (t1:T Value) (m1:Mem) (rem1:List (Nat × Oper)) (hist1:List Hist) (mask1:Nat):Prop :=
 lo≤m1.next∧MR tb.p N w0 E m1 w∧MExt lo E m E m1∧DrI tb E m1 lo m1.next ops t1 nt false rem1 hist1 mask1 sched ∧
   (∀ X:Nat→Prop,(∀ h∈hist1,∀ d,h.o.dst=some d→h.i∈sched→X d)→∀ x,¬ X x→ev t1 (.tmp x)=ev t (.tmp x))∧∀ h∈hist,h∈hist1
theorem drPass_ok:∀ (l:List (Nat × Oper)) (bl:List Nat) (rem:List (Nat × Oper)) (t:T Value) (m:Mem) (hist:List Hist) (mask:Nat) (t1:T Value) (m1:Mem) (rem1:List (Nat × Oper)) (hist1:List Hist) (mask1:Nat),
  drPass tb ops nt l bl rem t m hist mask=.ok t1 m1 rem1 hist1 mask1→lo≤m.next→MR tb.p N w0 E m w→DrI tb E m lo m.next ops t nt false (rem.reverse++l) hist mask sched →
  PassOut tb N w0 E w lo ops nt sched t m hist t1 m1 rem1 hist1 mask1
 | [],bl,rem,t,m,hist,mask,t1,m1,rem1,hist1,mask1,h,hlo,HM,HD=>by
   have h:DrR.ok t m rem.reverse hist mask=.ok t1 m1 rem1 hist1 mask1:=h
   simp only [DrR.ok.injEq] at h
   obtain⟨rfl,rfl,rfl,rfl,rfl⟩:=h
   exact⟨hlo,HM,.refl _ _ _,by simpa using HD,fun X _ x _=>rfl,fun h hh=>hh⟩
 |x::l,bl,rem,t,m,hist,mask,t1,m1,rem1,hist1,mask1,h,hlo,HM,HD=>by
  have h:drStep tb ops nt x l (drPass tb ops nt l) bl rem t m hist mask=.ok t1 m1 rem1 hist1 mask1:=h
  have keep:drPass tb ops nt l (x.1::bl) (x::rem) t m hist mask=.ok t1 m1 rem1 hist1 mask1→PassOut tb N w0 E w lo ops nt sched t m hist t1 m1 rem1 hist1 mask1:=fun h=>drPass_ok l _ _ t m hist mask t1 m1 rem1 hist1 mask1 h hlo HM (by simpa using HD)
  have hx:x∈rem.reverse++x::l:=by simp
  obtain⟨p1,p2,p3⟩:=perm_take HD.remNd
  have hxs:x.1∈sched:=HD.remIn x hx
  unfold drStep at h
  split at h
  ·exact keep h
  ·split at h
   ·simp at h
   ·rename_i hdeps
    have go:∀ (t':T Value) (m':Mem) (mask':Nat) (v:Value) (k:HK) (vs:List Value),putT t nt x.2.dst v=some t'→maskA ops x.2 mask=some mask'→Sub m m'→m.next≤m'.next→MR tb.p N w0 E m' w→MExt lo E m E m'→(∀ b,k=.f b→m.next≤b∧b<m'.next) →
      HFact tb E m' lo m'.next ops t' nt ⟨x.1,x.2,vs,k,v⟩→HNow tb m' t' ⟨x.1,x.2,vs,k,v⟩→drPass tb ops nt l bl rem t' m' (⟨x.1,x.2,vs,k,v⟩::hist) mask'=.ok t1 m1 rem1 hist1 mask1→PassOut tb N w0 E w lo ops nt sched t m hist t1 m1 rem1 hist1 mask1:=by
     intro t' m' mask' v k vs hp hm S hn HM' hx' hid hf hnow h
     have HD':=HD.exec hx p1 p2 p3 hp hm hdeps S hn hid hf hnow
     obtain⟨r1,r2,r3,r4,r5,r6⟩:=drPass_ok l bl rem t' m' _ mask' t1 m1 rem1 hist1 mask1 h (by omega) HM' HD'
     refine⟨r1,r2,hx'.trans r3,r4,fun X hX y hy=>?_,fun g hg=>r6 g (List.mem_cons_of_mem _ hg)⟩
     rw [r5 X hX y hy,ev_put hp,if_neg]
     intro e
     exact hy (hX _ (r6 _ List.mem_cons_self) y e hxs)
    split at h
    ·rename_i hw
     obtain⟨t',mask',e1,e2,h⟩:=drPut_ok h
     have hr:∀ d,reads ops x.2 d→ev t (.tmp d)=ev t' (.tmp d):=fun d hr=>by
      rw [ev_put e1,if_neg];intro e;exact ((maskA_some e2).1 d e).2 hr
     refine go t' m mask' undef .s [] e1 e2 (Sub.refl m) (Nat.le_refl _) HM (.refl _ _ _) (by simp) ⟨fun d e=>⟨by rw [ev_put e1];simp only at e;rw [if_pos e],?_⟩,by rw [← wantedA_congr hr];exact hw,rfl⟩ trivial h
     simp only at e;rw [e] at e1;exact (putT_some e1).1
    ·rename_i hw
     unfold drK at h
     split at h
     ·rename_i v hop
      obtain⟨t',mask',e1,e2,h⟩:=drPut_ok h
      have hr:∀ d,reads ops x.2 d→ev t (.tmp d)=ev t' (.tmp d):=fun d hr=>by
       rw [ev_put e1,if_neg];intro e;exact ((maskA_some e2).1 d e).2 hr
      refine go t' m mask' v .r _ e1 e2 (Sub.refl m) (Nat.le_refl _) HM (.refl _ _ _) (by simp) ⟨fun d e=>⟨by rw [ev_put e1];simp only at e;rw [if_pos e],?_⟩,by rw [← wantedA_congr hr];exact hw,by rw [← evs_congr' hr],fun hp m2=>?_⟩ ?_ h
      ·simp only at e;rw [e] at e1;exact (putT_some e1).1
      ·rw [← opA_congr' hr,opA_pure hp t m2 m];exact hop
      ·show opA x.2.op tb t' m=.r v
       rw [← opA_congr' hr];exact hop
     ·rename_i ob mk hop
      obtain⟨t',mask',e1,e2,h⟩:=drPut_ok h
      have hr:∀ d,reads ops x.2 d→ev t (.tmp d)=ev t' (.tmp d):=fun d hr=>by
       rw [ev_put e1,if_neg];intro e;exact ((maskA_some e2).1 d e).2 hr
      have hdom:=HM.dom m.next (Nat.le_refl _)
      refine go t' (newObjA m ob) mask' (mk m.next) (.f m.next) _ e1 e2 (sub_newObjA hdom.1) (by rw [next_newObjA];omega) (HM.lay ob) ((MExt.lay HM ob).lower hlo) (by intro b e;cases e;rw [next_newObjA];omega)
       ⟨fun d e=>⟨by rw [ev_put e1];simp only at e;rw [if_pos e],?_⟩,by rw [← wantedA_congr hr];exact hw,by rw [← evs_congr' hr],hlo,by rw [next_newObjA];omega,hdom.2,ob,mk,fun m2=>?_,rfl,by rw [get_newObjA,if_pos rfl]⟩ trivial h
      ·simp only at e;rw [e] at e1;exact (putT_some e1).1
      ·rw [← opA_congr' hr];exact opA_f hop m2
     ·exact keep h
     ·exact keep h
     ·simp at h
end
end Go.Ev

namespace Go.Ev
section
variable {P:Program} {fr:Frame} {cs:List Frame} {w w':World} {k:List Item} {ops:Array Oper} {i:Nat} {rest:List Nat}
theorem st_region_nil (hm:fr.mode=.run) (ht:fr.todo=.inRegion ops []::k):step P (lone fr cs w)=.next (lone { fr with todo:=k } cs w):=by
 obtain⟨fn,tmps,todo,defers,mode,kind,ro⟩:=fr
 simp only at hm ht;subst hm;subst ht
 exact step_lone_go (by simp [stepG,stepG.exec])
theorem st_skip (hm:fr.mode=.run) (ht:fr.todo=.inRegion ops (i::rest)::k) (h:((ops[i]?).map (Region.wanted · (yielded ops fr.tmps))).getD false=false):step P (lone fr cs w)=.next (lone (fr.finish undef) cs w):=by
 obtain⟨fn,tmps,todo,defers,mode,kind,ro⟩:=fr
 simp only at hm ht h;subst hm;subst ht
 exact step_lone_go (by simp [stepG,stepG.exec,h])
theorem stG_op (hm:fr.mode=.run) (ht:fr.todo=.inRegion ops (i::rest)::k) {o:Oper} (ho:ops[i]? = some o) (hw:Region.wanted o (yielded ops fr.tmps)=true) (hd:fr.roundOf=none∨∀ c,o.op≠.defer c) :
  stepG P true { frame:=fr,callers:=cs,status:=.running,dying:=none } w=stepG.apply P true fr cs none (execOp fr.eval o) w:=by
 obtain⟨fn,tmps,todo,defers,mode,kind,ro⟩:=fr
 simp only at hm ht hw hd;subst hm;subst ht
 rcases hd with rfl|hd
 ·simp [stepG,stepG.exec,stepG.oper,Frame.oper?,ho,hw]
 ·cases ro with
  |none=>simp [stepG,stepG.exec,stepG.oper,Frame.oper?,ho,hw]
  |some l =>
   cases hop:o.op<;>first|(exact absurd hop (hd _))|simp [stepG,stepG.exec,stepG.oper,Frame.oper?,ho,hw,hop]
theorem st_apply_value {s:Sem Next} {nx:Next} {v:Value} (hr:s.run P w=.ok nx w') (hn:nx=.value v∨(nx=.skip∧v=undef)) (hg:stepG P true { frame:=fr,callers:=cs,status:=.running,dying:=none } w=stepG.apply P true fr cs none s w) :
  step P (lone fr cs w)=.next (lone (fr.finish v) cs w'):=by
 refine step_lone_go ?_
 rw [hg]
 rcases hn with rfl|⟨rfl,rfl⟩<;>simp [stepG.apply,Sem.runT_eq,hr]
end
end Go.Ev

namespace Go.Ev
theorem addI_eq (x y:Int):addI x y=x+y:=by cases x<;>cases y<;>rfl
theorem subI_eq (x y:Int):subI x y=x-y:=by
 cases x with
 |ofNat a=>cases y with
  |ofNat b =>
   simp only [subI]
   split
   ·rename_i h
    have h':b≤a:=by simpa [Nat.ble_eq] using h
    simp only [Int.ofNat_eq_natCast];omega
   ·rename_i h
    have h':¬ b≤a:=fun e=>by rw [Nat.ble_eq_true_of_le e] at h;simp at h
    simp only [Int.ofNat_eq_natCast,Int.negSucc_eq];omega
  |negSucc b=>rfl
 |negSucc a=>rfl
theorem mulI_eq (x y:Int):mulI x y=x*y:=by cases x<;>cases y<;>rfl
theorem quoI_some {x y r:Int} (h:quoI x y=some r):y≠0∧r=x.tdiv y:=by
 cases y with
 |ofNat b =>
  cases b with
  |zero=>cases x<;>simp [quoI] at h
  |succ b =>
   refine⟨by simp only [Int.ofNat_eq_natCast];omega,?_⟩
   cases x<;>(simp only [quoI,Option.some.injEq] at h;rw [← h];try rfl)
 |negSucc b =>
  refine⟨by simp [Int.negSucc_eq];omega,?_⟩
  cases x<;>(simp only [quoI,Option.some.injEq] at h;rw [← h])
theorem remI_some {x y r:Int} (h:remI x y=some r):y≠0∧r=x.tmod y:=by
 cases y with
 |ofNat b =>
  cases b with
  |zero=>cases x<;>simp [remI] at h
  |succ b =>
   refine⟨by simp only [Int.ofNat_eq_natCast];omega,?_⟩
   cases x<;>(simp only [remI,Option.some.injEq] at h;rw [← h];try rfl)
 |negSucc b =>
  refine⟨by simp [Int.negSucc_eq];omega,?_⟩
  cases x<;>(simp only [remI,Option.some.injEq] at h;rw [← h])
theorem kEq_true {a b:IntKind} (h:kEq a b=true):a=b:=by cases a<;>cases b<;>first|rfl|(simp [kEq] at h)
theorem intEq_eq (x y:Int):intEq x y=(x==y):=by
 rw [Bool.eq_iff_iff,beq_iff_eq]
 cases x<;>cases y<;>simp [intEq]<;>omega
theorem intLt_eq (x y:Int):intLt x y=decide (x<y):=by
 rw [Bool.eq_iff_iff,decide_eq_true_iff]
 cases x<;>cases y<;>simp only [intLt,Nat.blt_eq,Int.ofNat_eq_natCast,Int.negSucc_eq,Bool.false_eq_true,true_iff,false_iff]<;>omega
theorem wrap_u64 (n:Int):IntKind.wrap .u64 n=n%18446744073709551616:=by
 simp [IntKind.wrap,IntKind.signed,IntKind.bits]
theorem wrap_u32 (n:Int):IntKind.wrap .u32 n=n%4294967296:=by simp [IntKind.wrap,IntKind.signed,IntKind.bits]
theorem wrap_u16 (n:Int):IntKind.wrap .u16 n=n%65536:=by simp [IntKind.wrap,IntKind.signed,IntKind.bits]
theorem wrap_u8 (n:Int):IntKind.wrap .u8 n=n%256:=by simp [IntKind.wrap,IntKind.signed,IntKind.bits]
theorem wrap_i64 (n:Int):IntKind.wrap .i64 n=if n%18446744073709551616≥9223372036854775808 then n%18446744073709551616-18446744073709551616 else n%18446744073709551616:=by
 simp [IntKind.wrap,IntKind.signed,IntKind.bits]
theorem wrap_i32 (n:Int):IntKind.wrap .i32 n=if n%4294967296≥2147483648 then n%4294967296-4294967296 else n%4294967296:=by
 simp [IntKind.wrap,IntKind.signed,IntKind.bits]
theorem wrap_i16 (n:Int):IntKind.wrap .i16 n=if n%65536≥32768 then n%65536-65536 else n%65536:=by
 simp [IntKind.wrap,IntKind.signed,IntKind.bits]
theorem wrap_i8 (n:Int):IntKind.wrap .i8 n=if n%256≥128 then n%256-256 else n%256:=by
 simp [IntKind.wrap,IntKind.signed,IntKind.bits]
theorem wrapN_eq (k:IntKind) (m:Nat):wrapN k m=k.wrap (.ofNat m):=by
 cases k<;>simp only [wrapN]
 all_goals first
  | (
    split
    ·rename_i h
     have h':=h
     simp only [Nat.blt_eq] at h'
     simp only [wrap_i64,wrap_i32,wrap_i16,wrap_i8,Int.ofNat_eq_natCast]
     omega
    ·rfl)
  | (simp only [wrap_u64,wrap_u32,wrap_u16,wrap_u8,Int.ofNat_eq_natCast];omega)
theorem wrapF_eq (k:IntKind) (n:Int):wrapF k n=k.wrap n:=by
 cases n with
 |ofNat m=>exact wrapN_eq k m
 |negSucc m =>
  cases k<;>simp only [wrapF]
  ·split
   ·rename_i h
    have h':=h
    simp only [Nat.blt_eq] at h'
    simp only [wrap_i64,Int.negSucc_eq]
    omega
   ·rfl
  ·simp only [wrap_u64,Int.ofNat_eq_natCast,Int.negSucc_eq];omega
theorem vInt_eq (k:IntKind) (n:Int):vInt k n=.int k n:=fInt_eq _ _
theorem oI_some {k:IntKind} {x:Option Int} {v:Value} (h:oI k x=some v):∃ n,x=some n∧v=.int k n:=by
 cases x with
 |none=>simp [oI] at h
 |some n=>simp only [oI,vInt_eq,Option.some.injEq] at h;exact⟨n,rfl,h.symm⟩
theorem wrap_mod (k:IntKind) (n:Nat):k.wrap ((n%2 ^ k.bits:Nat):Int)=k.wrap (n:Int):=by
 simp only [IntKind.wrap]
 have:(((n%2 ^ k.bits:Nat):Int)%(2 ^ k.bits:Int))=((n:Int)%(2 ^ k.bits:Int)):=by
  rw [Int.natCast_emod];simp
 rw [this]
theorem ofInt_nat (w a:Nat):(BitVec.ofInt w (.ofNat a)).toNat=a%2 ^ w:=by
 simp
theorem bitsF_eq (op:BinOp) (k:IntKind) (x y:Int):bitsF op k x y=bitsI op k x y:=by
 cases x with
 |negSucc a=>rfl
 |ofNat a=>cases y with
  |negSucc b=>rfl
  |ofNat b =>
   cases op<;>simp only [bitsF,bitsI]
   ·rw [wrapN_eq,BitVec.toNat_and,ofInt_nat,ofInt_nat,← Nat.and_mod_two_pow,wrap_mod];rfl
   ·rw [wrapN_eq,BitVec.toNat_or,ofInt_nat,ofInt_nat,← Nat.or_mod_two_pow,wrap_mod];rfl
   ·rw [wrapN_eq,BitVec.toNat_xor,ofInt_nat,ofInt_nat,← Nat.xor_mod_two_pow,wrap_mod];rfl
theorem bytesEq_eq:∀ (a b:List UInt8),bytesEq a b=(a==b)
 | [],[]=>rfl
 | [],_::_=>rfl
 |_::_,[]=>rfl
 |x::a,y::b=>by
  have ih:=bytesEq_eq a b
  simp only [bytesEq]
  rw [Bool.eq_iff_iff,beq_iff_eq]
  cases h:Nat.beq x.toNat y.toNat with
  |true =>
   have:=Nat.eq_of_beq_eq_true h
   have hxy:x=y:=UInt8.toNat_inj.1 this
   subst hxy
   simp [ih]
  |false =>
   have:=Nat.ne_of_beq_eq_false h
   simp
   intro e;subst e;exact absurd rfl this
theorem toList_eq (s:ByteArray):s.toList=s.data.toList:=Go.ByteArray.toList_eq s
end Go.Ev

namespace Go.Ev
open Go.RowKit
structure TabsOk (tb:Tabs):Prop where
 types:∀ t i,ti tb t=some i→mkTI tb.p t=some i
 funcs:∀ f fn,tb.funcs.get f=some fn→tb.p.funcs[f]? = some fn
theorem mkTI_some {P:Program} {t:TypeId} {i:TI} (h:mkTI P t=some i) :
  P.info? t=some i.inf∧P.underlying t=some i.d∧i.agg=isAggD i.d∧i.zc=(match i.inf.zero with|some z=>cellsOfV z|none=>[])∧i.hasZ=hasZ0 P i.inf i.d ∧
  i.flds=(match i.d with | .struct fs=>fs.toList.map fun f=>(f.offset,P.cellsOf f.type,f.type,f.name == "_")|_=>[])∧i.guard=P.eqGuardType P.depth t∧i.held=P.stoodInHeld t:=by
 unfold mkTI at h
 split at h
 ·rename_i inf d h1 h2
  simp only [Option.some.injEq] at h
  subst h
  exact⟨h1,h2,rfl,rfl,rfl,rfl,rfl,rfl⟩
 ·simp at h
theorem flatV_self {E:Env} {v:Value} (h:flatV v=true):VR E v v:=by
 unfold flatV at h
 split at h<;>first|constructor|(simp at h)
theorem flatVs_self {E:Env}:∀ {l:List Value},l.all flatV=true→VRs E l l
 | [],_=>.nil
 |v::l,h=>by
  rw [List.all_cons,Bool.and_eq_true] at h
  exact .cons (flatV_self h.1) (flatVs_self h.2)
theorem cellsOfV_self {E:Env} {z:Value} (h:(cellsOfV z).all flatV=true):VR E z z:=by
 cases z with
 |agg cs=>obtain⟨cs⟩:=cs;exact .agg (flatVs_self (by simpa [cellsOfV] using h))
 |_=>exact flatV_self (by simpa [cellsOfV] using h)
section
variable {tb:Tabs} (ok:TabsOk tb)
include ok
theorem zeroV_some {t:TypeId} {i:TI} (h:ti tb t=some i) {z:Value} (hz:zeroV i=some z) (E:Env):i.inf.zero=some z∧VR E z z:=by
 unfold zeroV at hz
 split at hz
 ·rename_i hh
  obtain⟨_,_,_,_,h2,_⟩:=mkTI_some (ok.types t i h)
  unfold hasZ0 at h2
  rw [h2,hz] at hh
  simp only [Bool.and_eq_true] at hh
  exact⟨hz,cellsOfV_self hh.1.1⟩
 ·simp at hz
theorem TabsOk.info {t:TypeId} {i:TI} (h:ti tb t=some i):tb.p.info? t=some i.inf:=(mkTI_some (ok.types t i h)).1
theorem TabsOk.und {t:TypeId} {i:TI} (h:ti tb t=some i):tb.p.underlying t=some i.d:=(mkTI_some (ok.types t i h)).2.1
theorem TabsOk.agg {t:TypeId} {i:TI} (h:ti tb t=some i):i.agg=isAggD i.d:=(mkTI_some (ok.types t i h)).2.2.1
theorem TabsOk.zc {t:TypeId} {i:TI} (h:ti tb t=some i) (hz:i.hasZ=true):∃ z,i.inf.zero=some z∧i.zc=cellsOfV z∧(cellsOfV z).all flatV=true∧i.zc.length=i.inf.size∧∀ fs,i.d=.struct fs→∀ f∈fs.toList,(tb.p.info? f.type).isSome=true:=by
 obtain⟨_,_,_,h1,h2,_⟩:=mkTI_some (ok.types t i h)
 unfold hasZ0 at h2
 rw [h2] at hz
 cases hq:i.inf.zero with
 |none=>rw [hq] at hz;simp at hz
 |some z =>
  rw [hq] at hz
  simp only [Bool.and_eq_true] at hz
  refine⟨z,rfl,by rw [h1,hq],hz.1.1,by rw [h1,hq];exact Nat.eq_of_beq_eq_true hz.1.2,fun fs hd=>?_⟩
  have:=hz.2
  rw [hd] at this
  exact List.all_eq_true.1 this
theorem TabsOk.cellsOf {t:TypeId} {i:TI} (h:ti tb t=some i):tb.p.cellsOf t=i.inf.size:=by
 simp [Program.cellsOf,ok.info h]
variable {w:World}
theorem run_ty {t:TypeId} {i:TI} (h:ti tb t=some i):(underlying t).run tb.p w=.ok i.d w:=by
 simp [underlying,ok.und h]
theorem run_inf {t:TypeId} {i:TI} (h:ti tb t=some i):(typeInfo t).run tb.p w=.ok i.inf w:=by
 simp [typeInfo,ok.info h]
theorem run_size {t:TypeId} {i:TI} (h:ti tb t=some i):(sizeOf t).run tb.p w=.ok i.inf.size w:=by
 simp [sizeOf,run_inf ok h]
theorem run_zero {t:TypeId} {i:TI} (h:ti tb t=some i) {z:Value} (hz:i.inf.zero=some z):(zeroValue t).run tb.p w=.ok z w:=by
 simp [zeroValue,run_inf ok h,hz]
theorem run_isAgg {t:TypeId} {i:TI} (h:ti tb t=some i):(isAgg t).run tb.p w=.ok i.agg w:=by
 rw [ok.agg h]
 unfold isAgg
 simp only [Sem.run_bind,run_ty ok h,Result.andThen_ok]
 cases i.d<;>rfl
end
end Go.Ev

