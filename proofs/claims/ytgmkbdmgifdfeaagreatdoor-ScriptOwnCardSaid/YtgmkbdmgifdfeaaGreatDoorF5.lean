/- A part of a proof: ScriptOwn. -/
import Derived.Test.YtgmkbdmgifdfeaaGreatDoorF4
set_option linter.unusedVariables false
set_option linter.unusedSimpArgs false
namespace Go.Ev
open Go.RowKit
theorem VR.slice_inv {E:Env} {p:Option Addr} {l c:Nat} {x':Value} (h:VR E (.slice p l c) x') :
  (p=none∧x'=.slice none l c)∨(∃ a i o' c',p=some a∧E a.block=some i∧x'=.slice (some ⟨i.blk,o',none⟩) l c'∧(l≠0→o'=i.shift+a.off))∨(∃ a a',p=some a∧l=0∧x'=.slice (some a') 0 0):=by
 cases h with
 |slNil=>exact .inl ⟨rfl,rfl⟩
 |sl l c h=>exact .inr (.inl ⟨_,_,_,_,rfl,h,rfl,fun _=>rfl⟩)
 |slX l c h=>exact .inr (.inl ⟨_,_,_,_,rfl,h,rfl,fun _=>rfl⟩)
 |slE0 h hx=>exact .inr (.inl ⟨_,_,_,_,rfl,h,rfl,fun h=>absurd rfl h⟩)
 |slE1 h hx=>exact .inr (.inl ⟨_,_,_,_,rfl,h,rfl,fun h=>absurd rfl h⟩)
 |slD a b=>exact .inr (.inr ⟨_,_,rfl,rfl,rfl⟩)
theorem repl_get (z:List Value):∀ (n j:Nat),(repl z n)[j]? = if j<n*z.length then z[j%z.length]? else none
 |0,j=>by simp [repl]
 |n+1,j=>by
  have e:(n+1)*z.length=n*z.length+z.length:=by rw [Nat.add_mul,Nat.one_mul]
  rw [e]
  simp only [repl]
  by_cases h:j<z.length
  ·rw [List.getElem?_append_left h,if_pos (by omega),Nat.mod_eq_of_lt h]
  ·rw [List.getElem?_append_right (by omega),repl_get z n]
   by_cases h2:j<n*z.length+z.length
   ·rw [if_pos (by omega),if_pos h2,← Nat.mod_eq_sub_mod (by omega)]
   ·rw [if_neg (by omega),if_neg h2]
theorem repl_length (z:List Value):∀ n,(repl z n).length=n*z.length
 |0=>by simp [repl]
 |n+1=>by simp [repl,repl_length z n,Nat.add_mul];omega
theorem zeroCells_eq (z:Array Value) (n:Nat):(Builtin.zeroCells z n).toList=repl z.toList n:=by
 apply List.ext_getElem?
 intro j
 rw [repl_get]
 simp only [Builtin.zeroCells,Array.toList_map,Array.toList_range,List.getElem?_map,Array.length_toList]
 by_cases h:j<n*z.size
 ·rw [if_pos h,List.getElem?_range h]
  have hz:j%z.size<z.size:=Nat.mod_lt _ (by
   rcases Nat.eq_zero_or_pos z.size with h0|h0
   ·rw [h0] at h;omega
   ·exact h0)
  simp [hz]
 ·rw [if_neg h,List.getElem?_eq_none (by simp;omega)]
  rfl
section
variable {tb:Tabs} {N:Nat} {w0:World} {E:Env} {m:Mem} {w:World}
theorem run_lenOf {P:Program} {x x':Value} (hx:VR E x x') {n:Nat} (h:lenOfA x=some n):(Builtin.lenOf x').run P w=.ok n w∧∀ a l c,x=.slice a l c→n=l:=by
 unfold lenOfA at h
 split at h
 ·simp only [Option.some.injEq] at h;subst h
  rcases hx.slice_inv with ⟨_,rfl⟩|⟨a,i,o',c',_,_,rfl,_⟩|⟨a,a',_,rfl,rfl⟩
  ·exact⟨rfl,fun a l c e=>by cases e;rfl⟩
  ·exact⟨rfl,fun a l c e=>by cases e;rfl⟩
  ·exact⟨rfl,fun a l c e=>by cases e;rfl⟩
 ·simp only [Option.some.injEq] at h;subst h
  cases hx
  exact⟨rfl,fun a l c e=>by cases e⟩
 ·simp at h
theorem run_copyA (ok:TabsOk tb) (H:MR tb.p N w0 E m w) {tys:List TypeId} {d d' s s' v:Value} {m':Mem} (hd:VR E d d') (hs:VR E s s') (h:copyA tb tys m d s=some (v,m')) (ty:TypeId) :
  WrOk tb N w0 E m w v m' (Builtin.copy_ ⟨tys⟩ ty #[d',s']):=by
 unfold copyA at h
 split at h<;>first|(simp at h;done)|skip
 rename_i dt tys'
 obtain⟨i,hi,h1⟩:=oB_some.1 h
 split at h1<;>first|(simp at h1;done)|skip
 rename_i elem base dl dc hid
 obtain⟨e,he,h2⟩:=oB_some.1 h1
 obtain⟨sl,hsl,h3⟩:=oB_some.1 h2
 obtain⟨cells,hc,h4⟩:=oB_some.1 h3
 obtain⟨q1,q2⟩:=run_lenOf (P:=tb.p) (w:=w) hs hsl
 obtain⟨cells',r1,r2⟩:=run_firstA H (sz:=e.inf.size) (n:=Nat.min sl dl) rfl hs (fun a l c ex=>by have:=q2 a l c ex;have:=Nat.min_le_left sl dl;simp only [Nat.min_def] at this ⊢;split<;>omega) hc
 have r2:=r2 w rfl
 have hdef:∀ x y,Builtin.copy_ ⟨dt::tys'⟩ ty #[x,y]=(do
   let .slice elem ← underlying dt|stuck "copy: slice type expected"
   let .slice base dLen _:=x|stuck "copy: slice expected"
   let n:=Nat.min (← Builtin.lenOf y) dLen
   let cells ← Builtin.firstCells (← sizeOf elem) n y
   if let some a:=base then storeCells a cells.toList
   pure (goInt n)):=fun x y=>rfl
 have hv:∀ n:Nat,VR E (vInt .i64 (.ofNat n)) (goInt n):=fun n=>by rw [vInt_eq];exact .int _ _
 rcases hd.slice_inv with ⟨rfl,rfl⟩|⟨a,j,o',c',rfl,hE,rfl,ho⟩|⟨a,a',rfl,rfl,rfl⟩
 ·simp only [Option.some.injEq,Prod.mk.injEq] at h4
  obtain⟨rfl,rfl⟩:=h4
  refine⟨_,w,E,?_,hv _,H,.refl _ _ _⟩
  rw [hdef]
  simp [run_ty ok hi,hid,q1,run_size ok he,r2]
 ·cases cells with
  |nil =>
   cases r1
   simp only [Option.some.injEq,Prod.mk.injEq] at h4
   obtain⟨rfl,rfl⟩:=h4
   refine⟨_,w,E,?_,hv _,H,.refl _ _ _⟩
   rw [hdef]
   simp [run_ty ok hi,hid,q1,run_size ok he,r2,storeCells]
  |cons c1 cs =>
   obtain⟨m1,hm1,h5⟩:=oB_some.1 h4
   simp only [Option.some.injEq,Prod.mk.injEq] at h5
   obtain⟨rfl,rfl⟩:=h5
   have hl0:dl≠0:=by
    intro e0;subst e0
    simp only [Nat.min_def] at hc
    rw [show (if sl≤0 then sl else 0)=0 from by split<;>omega,Nat.zero_mul] at hc
    unfold firstA at hc
    split at hc<;>simp at hc
    simp [u8s] at hc
   obtain rfl:=ho hl0
   obtain⟨w',p1,p2,p3⟩:=run_storeCellsA H hE r1 hm1
   refine⟨_,w',E,?_,hv _,p2,p3⟩
   rw [hdef]
   simp [run_ty ok hi,hid,q1,run_size ok he,r2,p1]
 ·cases cells with
  |nil =>
   cases r1
   simp only [Option.some.injEq,Prod.mk.injEq] at h4
   obtain⟨rfl,rfl⟩:=h4
   refine⟨_,w,E,?_,hv _,H,.refl _ _ _⟩
   have e0:Nat.min sl 0=0:=by simp only [Nat.min_def];split<;>omega
   rw [e0] at r2 ⊢
   rw [hdef]
   simp [run_ty ok hi,hid,q1,run_size ok he,e0,r2,storeCells]
  |cons c1 cs =>
   exfalso
   simp only [Nat.min_def] at hc
   rw [show (if sl≤0 then sl else 0)=0 from by split<;>omega,Nat.zero_mul] at hc
   unfold firstA at hc
   split at hc<;>simp at hc
   simp [u8s] at hc
theorem MR.putMap (H:MR tb.p N w0 E m w) {r:Nat} {i:Info} (hE:E r=some i) {es:List MapEntry} {c:Nat} (hm:mapOf m r=some (es,c)) {es2 es2':List MapEntry} {c2:Nat} (h2:EntR E es2 es2') :
  (setObj i.blk (.map ⟨es2'⟩ c2)).run tb.p w=.ok () { w with heap:=w.heap.setIfInBounds i.blk (.map ⟨es2'⟩ c2) }∧MR tb.p N w0 E (putObj m r (.map es2 c2)) { w with heap:=w.heap.setIfInBounds i.blk (.map ⟨es2'⟩ c2) }:=by
 obtain⟨es',hh,_⟩:=H.map hE hm
 have hlt:i.blk<w.heap.size:=(Array.getElem?_eq_some_iff.1 hh).1
 refine⟨by simp [setObj,Sem.run,hh],?_⟩
 refine H.put hE (mapOf_some hm) rfl (.inl rfl) (by simp) ?_ rfl rfl rfl fun _=>⟨_,by simp [hlt],.map h2⟩
 intro k hk
 simp only [Array.getElem?_setIfInBounds]
 rw [if_neg (fun e=>hk e.symm)]
theorem run_clearA (ok:TabsOk tb) (H:MR tb.p N w0 E m w) {t:TypeId} {tys:List TypeId} {x x':Value} {m':Mem} (hx:VR E x x') (h:clearA tb t m x=some m') (ty:TypeId) :
  WrOk tb N w0 E m w undef m' (Builtin.clear_ ⟨t::tys⟩ ty #[x']):=by
 have hdef:∀ x,Builtin.clear_ ⟨t::tys⟩ ty #[x]=(do
   match ← underlying t,x with
   |_,.map none|_,.slice none _ _|_,.slice _ 0 _=>pure ()
   |_,.map (some r) =>
    let .map _ clock ← getObj r|stuck "clear: map expected"
    setObj r (.map #[] clock)
   | .slice elem,.slice (some a) n _ =>
     storeCells a (Builtin.zeroCells (← zeroValue elem).cells n).toList
   |_,_=>stuck "clear: map or slice expected"
   pure (.tuple #[])):=fun x=>rfl
 unfold clearA at h
 obtain⟨i,hi,h1⟩:=oB_some.1 h
 rw [hdef]
 cases hx with
 |mapNil =>
  simp only [Option.some.injEq] at h1;subst h1
  exact⟨undef,w,E,by simp [run_ty ok hi,undef],.undef E,H,.refl _ _ _⟩
 | @map r j hE =>
   obtain⟨⟨es,c⟩,hm,h2⟩:=oB_some.1 h1
   simp only [Option.some.injEq] at h2;subst h2
   obtain⟨es',hh,_⟩:=H.map hE hm
   obtain⟨p1,p2⟩:=H.putMap hE hm (es2:=[]) (es2':=[]) (c2:=c) .nil
   exact⟨undef,_,E,by simp [run_ty ok hi,undef,run_getMap hh,p1],.undef E,p2,.put _ hE⟩
 |slNil l c =>
  simp only [Option.some.injEq] at h1;subst h1
  exact⟨undef,w,E,by simp [run_ty ok hi,undef],.undef E,H,.refl _ _ _⟩
 |slD _ _ =>
  simp only [Option.some.injEq] at h1;subst h1
  exact⟨undef,w,E,by simp [run_ty ok hi,undef],.undef E,H,.refl _ _ _⟩
 |slE0 h hx =>
  simp only [Option.some.injEq] at h1;subst h1
  exact⟨undef,w,E,by simp [run_ty ok hi,undef],.undef E,H,.refl _ _ _⟩
 |slE1 h hx =>
  simp only [Option.some.injEq] at h1;subst h1
  exact⟨undef,w,E,by simp [run_ty ok hi,undef],.undef E,H,.refl _ _ _⟩
 |sl l c hE =>
  cases l with
  |zero =>
   simp only [Option.some.injEq] at h1;subst h1
   exact⟨undef,w,E,by simp [run_ty ok hi,undef],.undef E,H,.refl _ _ _⟩
  |succ l =>
   simp only at h1
   split at h1<;>first|(simp at h1;done)|skip
   rename_i el hd
   obtain⟨j,hj,h2⟩:=oB_some.1 h1
   split at h2<;>first|(simp at h2;done)|skip
   rename_i z1 zs hz hzc
   obtain⟨z,g1,g2,g3,g4,_⟩:=ok.zc hj hz
   have hzc':z.cells.toList=j.zc:=by rw [g2];cases z<;>rfl
   have hrel:VRs E (repl (z1::zs) (l+1)) (Builtin.zeroCells z.cells (l+1)).toList:=by
    rw [zeroCells_eq,hzc',hzc]
    exact VRs.repl (flatVs_self (by rw [← hzc,g2];exact g3)) _
   obtain⟨w',p1,p2,p3⟩:=run_storeCellsA H hE hrel h2
   exact⟨undef,w',E,by simp [run_ty ok hi,undef,hd,run_zero ok hj g1,p1],.undef E,p2,p3⟩
 |slX l c hE =>
  cases l with
  |zero =>
   simp only [Option.some.injEq] at h1;subst h1
   exact⟨undef,w,E,by simp [run_ty ok hi,undef],.undef E,H,.refl _ _ _⟩
  |succ l =>
   simp only at h1
   split at h1<;>first|(simp at h1;done)|skip
   rename_i el hd
   obtain⟨j,hj,h2⟩:=oB_some.1 h1
   split at h2<;>first|(simp at h2;done)|skip
   rename_i z1 zs hz hzc
   obtain⟨z,g1,g2,g3,g4,_⟩:=ok.zc hj hz
   have hzc':z.cells.toList=j.zc:=by rw [g2];cases z<;>rfl
   have hrel:VRs E (repl (z1::zs) (l+1)) (Builtin.zeroCells z.cells (l+1)).toList:=by
    rw [zeroCells_eq,hzc',hzc]
    exact VRs.repl (flatVs_self (by rw [← hzc,g2];exact g3)) _
   obtain⟨w',p1,p2,p3⟩:=run_storeCellsA H hE hrel h2
   exact⟨undef,w',E,by simp [run_ty ok hi,undef,hd,run_zero ok hj g1,p1],.undef E,p2,p3⟩
 |_=>simp at h1
end
end Go.Ev

namespace Go.Ev
open Go.RowKit
theorem growBy_le (need:Nat):∀ (r c:Nat),c≤need→Builtin.growBy need r c≤2*need+192
 |0,c,h=>by simp only [Builtin.growBy];omega
 |r+1,c,h=>by
  simp only [Builtin.growBy]
  by_cases h0:c=need
  ·rw [if_pos (by omega)];omega
  rw [if_neg (by omega)]
  by_cases h2:c+(c+768) / 4≤need
  ·exact growBy_le need r _ h2
  ·cases r with
   |zero=>simp only [Builtin.growBy];omega
   |succ r=>simp only [Builtin.growBy];rw [if_pos (by omega)];omega
theorem nextslicecap_le {need old:Nat} (h:old<need):Builtin.nextslicecap need old≤2*need+192:=by
 unfold Builtin.nextslicecap
 split
 ·omega
 ·split
  ·omega
  ·exact growBy_le need 4 old (by omega)
section
variable {tb:Tabs} {N:Nat} {w0:World} {E:Env} {m:Mem} {w:World}
inductive CntOk (P:Program) (w:World) (xt elem:TypeId) (size:Nat) (x:Value) (n:Nat) (new:List Value):Prop where
 |z (kd k:IntKind) (h3:∀ w,(underlying xt).run P w=.ok (.int kd) w) (hx:x=.int k (n:Int)) (hw:IntKind.i64.wrap (n:Int)=(n:Int)) {inf:TypeInfo} (hi:∀ w,(typeInfo elem).run P w=.ok inf w)
    (hb:¬ ((281474976710656:Int)<(n:Int)*(inf.bytes:Int))) {zv:Value} (hz:∀ w,(zeroValue elem).run P w=.ok zv w) (h0:n*size=0→new=[]) (hn:new=(Builtin.zeroCells zv.cells n).toList)
 |o (d:TypeDesc) (hd:∀ k,d≠.int k) (h3:∀ w,(underlying xt).run P w=.ok d w) (hl:∀ w,(Builtin.lenOf x).run P w=.ok n w) (hf:(Builtin.firstCells size n x).run P w=.ok ⟨new⟩ w) (hf':(Builtin.firstCells size n x).run P w.drew=.ok ⟨new⟩ w.drew)
set_option maxHeartbeats 4000000 in
theorem append_fits {P:Program} {w w':World} {st xt elem:TypeId} {tys:List TypeId} {ty:TypeId} {base:Option Addr} {sLen sCap size:Nat} {x:Value} {n:Nat} {new:List Value}
  (h1:∀ w,(underlying st).run P w=.ok (.slice elem) w) (h2:∀ w,(sizeOf elem).run P w=.ok size w) (hc:CntOk P w xt elem size x n new) (hle:sLen+n≤sCap)
  (hs:match base with|some a=>(storeCells (a.add (sLen*size)) new).run P w=.ok () w'|none=>w'=w) :
  (Builtin.append_ ⟨st::xt::tys⟩ ty #[.slice base sLen sCap,x]).run P w=.ok (.slice base (sLen+n) sCap) w':=by
 cases hc with
 |z kd k h3 hx hw hi hb hz h0 hn =>
  subst hx
  have hneg:¬ ((n:Int)<0):=by omega
  by_cases hn0:n*size=0
  ·have hnew:=h0 hn0
   rw [hnew] at hs
   have h00:n=0∨size=0:=Nat.mul_eq_zero.1 hn0
   cases base with
   |none=>subst hs;simp [Builtin.append_,h1,h2,h3,asInt,asIntOf,hw,hneg,hi,hb,hle,hn0,h00]
   |some a=>simp [Builtin.append_,h1,h2,h3,asInt,asIntOf,hw,hneg,hi,hb,hle,hn0,h00,hs]
  ·have h00:¬ (n=0∨size=0):=fun h=>hn0 (Nat.mul_eq_zero.2 h)
   rw [hn] at hs
   cases base with
   |none =>
    subst hs
    simp [Builtin.append_,h1,h2,h3,asInt,asIntOf,hw,hneg,hi,hb,hle,h00,hz]
    try (intro h;exact absurd h hn0)
   |some a =>
    simp only at hs
    simp [Builtin.append_,h1,h2,h3,asInt,asIntOf,hw,hneg,hi,hb,hle,h00,hz,hs]
    intro h;exact absurd h hn0
 |o d hd h3 hl hf hf' =>
  cases base with
  |none=>subst hs;cases d<;>first|(exact absurd rfl (hd _))|simp [Builtin.append_,h1,h2,h3,hl,hf,hle]
  |some a=>cases d<;>first|(exact absurd rfl (hd _))|simp [Builtin.append_,h1,h2,h3,hl,hf,hle,hs]
set_option maxHeartbeats 4000000 in
theorem append_grow {P:Program} {w:World} {st xt elem:TypeId} {tys:List TypeId} {ty:TypeId} {base:Option Addr} {sLen sCap size:Nat} {x:Value} {n:Nat} {old new:List Value}
  (h1:∀ w,(underlying st).run P w=.ok (.slice elem) w) (h2:∀ w,(sizeOf elem).run P w=.ok size w) (hc:CntOk P w xt elem size x n new) (hgt:¬ sLen+n≤sCap)
  {inf:TypeInfo} (hi:∀ w,(typeInfo elem).run P w=.ok inf w) (hb0:inf.bytes≠0) (hmax:sLen+n<9223372036854775808) (hcap:¬ 281474976710656<Builtin.nextslicecap (sLen+n) sCap*inf.bytes)
  {zv:Value} (hz:∀ w,(zeroValue elem).run P w=.ok zv w) (hold:(Builtin.firstCells size sLen (.slice base sLen sCap)).run P w.drew=.ok ⟨old⟩ w.drew) :
  ∃ q,(Builtin.append_ ⟨st::xt::tys⟩ ty #[.slice base sLen sCap,x]).run P w=.ok (.slice (some ⟨w.heap.size,0,none⟩) (sLen+n) (sLen+n+q))
    { w with drawn:=w.drawn+1,heap:=w.heap.push (.cells ⟨old++new++repl zv.cells.toList q⟩ elem) }:=by
 have hfo:(Question.appendCap (sLen+n) sCap elem).forced=false:=rfl
 generalize hq:w.tape w.drawn (.appendCap (sLen+n) sCap elem)%(2 ^ 63-(sLen+n))=q
 have hcut:(Question.appendCap (sLen+n) sCap elem).cut (w.tape w.drawn (.appendCap (sLen+n) sCap elem))=sLen+n+q:=by
  show (sLen+n)+_%(2 ^ 63-(sLen+n))=_
  rw [hq]
 have hrest:(⟨old++new++repl zv.cells.toList q⟩:Array Value)=(⟨old⟩:Array Value)++((⟨new⟩:Array Value)++Builtin.zeroCells zv.cells q):=by
  apply Array.ext'
  simp [zeroCells_eq]
 have hi63:¬ ((9223372036854775807:Int)<(sLen:Int)+(n:Int)):=by omega
 refine⟨q,?_⟩
 rw [hrest]
 cases hc with
 | @z kd k h3 hx hw inf2 hi2 hb zv2 hz2 h0 hn =>
   subst hx
   obtain rfl:inf2=inf:=by have:=(hi2 w).symm.trans (hi w);simpa using this
   obtain rfl:zv2=zv:=by have:=(hz2 w).symm.trans (hz w);simpa using this
   have hneg:¬ ((n:Int)<0):=by omega
   have hnew1:(⟨new⟩:Array Value)=Builtin.zeroCells zv2.cells n:=by rw [hn]
   rw [hnew1]
   by_cases hn0:n*size=0
   ·have hnew:=h0 hn0
    have h00:n=0∨size=0:=Nat.mul_eq_zero.1 hn0
    have he:Builtin.zeroCells zv2.cells n = #[]:=by rw [← hnew1,hnew]
    rw [he]
    simp [Builtin.append_,h1,h2,h3,asInt,asIntOf,hw,hneg,hi,hb,hgt,hn0,h00,hi63,hcap,hfo,hcut,hold,hz,newRow]
    rfl
   ·have h00:¬ (n=0∨size=0):=fun h=>hn0 (Nat.mul_eq_zero.2 h)
    simp [Builtin.append_,h1,h2,h3,asInt,asIntOf,hw,hneg,hi,hb,hgt,h00,hi63,hcap,hfo,hcut,hold,hz,newRow,hn0]
    rfl
 |o d hd h3 hl hf hf' =>
  cases d<;>first|(exact absurd rfl (hd _))|(simp [Builtin.append_,h1,h2,h3,hl,hf,hf',hgt,hi,hb0,hi63,hcap,hfo,hcut,hold,hz,newRow];rfl)
end
end Go.Ev

namespace Go.Ev
open Go.RowKit
section
variable {tb:Tabs} {N:Nat} {w0:World} {E:Env} {m:Mem} {w:World}
theorem run_appended (ok:TabsOk tb) (H:MR tb.p N w0 E m w) {xt elem:TypeId} {e:TI} (he:ti tb elem=some e) {x x':Value} (hx:VR E x x') {n:Nat} {new:List Value} (h:appended tb m xt elem e.inf.size x=some (n,new)) :
  ∃ new',VRs E new new'∧CntOk tb.p w xt elem e.inf.size x' n new':=by
 unfold appended at h
 obtain⟨j,hj,h1⟩:=oB_some.1 h
 clear h
 split at h1
 ·rename_i k hd
  split at h1<;>first|(simp at h1;done)|skip
  rename_i k' l
  cases hx
  obtain⟨e',he',h2⟩:=oB_some.1 h1
  obtain rfl:=Option.some.inj (he.symm.trans he')
  split at h2<;>first|(simp at h2;done)|skip
  rename_i hz hb hlt
  simp only [Option.some.injEq,Prod.mk.injEq] at h2
  obtain⟨rfl,rfl⟩:=h2
  have hb:=Nat.le_of_ble_eq_true hb
  have hlt:l<9223372036854775808:=by simpa [Nat.blt_eq] using hlt
  obtain⟨z,g1,g2,g3,g4,_⟩:=ok.zc he hz
  have hzc':z.cells.toList=e.zc:=by rw [g2];cases z<;>rfl
  refine⟨repl e.zc l,VRs.repl (flatVs_self (by rw [g2];exact g3)) _,.z k k' (fun w=>by rw [run_ty ok hj,hd]) rfl ?_ (fun w=>run_inf ok he) ?_ (fun w=>run_zero ok he g1) ?_ ?_⟩
  ·rw [wrap_i64];split<;>omega
  ·have:((l*e.inf.bytes:Nat):Int)=(l:Int)*(e.inf.bytes:Int):=by push_cast;rfl
   rw [← this];omega
  ·intro hn
   exact List.eq_nil_of_length_eq_zero (by rw [repl_length,g4];exact hn)
  ·rw [zeroCells_eq,hzc']
 ·rename_i hnd
  obtain⟨n',hn',h2⟩:=oB_some.1 h1
  obtain⟨l,hl,h3⟩:=oB_some.1 h2
  simp only [Option.some.injEq,Prod.mk.injEq] at h3
  obtain⟨rfl,rfl⟩:=h3
  have hcnt:∀ w,(Builtin.lenOf x').run tb.p w=.ok n' w∧∀ a l c,x=.slice a l c→n'=l:=fun w=>run_lenOf hx hn'
  have hbnd:∀ a l c,x=.slice a l c→n'≤l:=fun a l c ex=>by rw [(hcnt w).2 a l c ex];exact Nat.le_refl _
  obtain⟨new',r1,r2⟩:=run_firstA H (sz:=e.inf.size) (n:=n') rfl hx hbnd hl
  exact⟨new',r1,.o j.d (fun k e=>hnd k e) (fun w=>run_ty ok hj) (fun w=>(hcnt w).1) (r2 w rfl) (r2 w.drew rfl)⟩
theorem MR.newRow (H:MR tb.p N w0 E m w) (elem:TypeId) {cells cells' rest:List Value} (hc:VRs E cells cells') {q:Nat} (hr:rest.length=q*tb.p.cellsOf elem) {d:Nat} :
  ∃ E',E' m.next=some ⟨w.heap.size,0,q⟩∧MR tb.p N w0 E' (newObjA m (rowObj elem cells .none true)) { w with drawn:=d,heap:=w.heap.push (.cells ⟨cells'++rest⟩ elem) }∧MExt m.next E m E' (newObjA m (rowObj elem cells .none true)):=by
 have hn:=(H.dom m.next (Nat.le_refl _)).2
 have HL:=H.lay (rowObj elem cells .none true)
 have HM:=HL.mat (b:=m.next) (o:=rowObj elem cells .none true) (ob:=.cells ⟨cells'++rest⟩ elem) (w' := { w with drawn:=d,heap:=w.heap.push (.cells ⟨cells'++rest⟩ elem) }) (sh:=0) (ex:=q)
  hn (by rw [get_newObjA,if_pos rfl]) (by rw [next_newObjA];omega) rfl rfl rfl rfl rfl (rowObj_new (cells_freshE hn hc) hr (by simp) rfl)
 refine⟨_,Env.add_at,HM,?_⟩
 exact (MExt.lay H _).trans (MExt.mat hn (Nat.le_refl _))
theorem MExt.kill {hi:Nat} {b:Nat} {i:Info} (hE:E b=some i):MExt hi E m E (putObj m b .dead):=MExt.put _ hE
theorem MR.kill (H:MR tb.p N w0 E m w) {b:Nat} {i:Info} {r:Row} (hE:E b=some i) (hr:rowW m b=some r):MR tb.p N w0 E (putObj m b .dead) w :=
 H.put hE (rowW_some hr) rfl (.inr rfl) rfl (fun _ _=>rfl) rfl rfl rfl (fun h=>by simp [AObj.live] at h)
theorem MR.regrow (H:MR tb.p N w0 E m w) {b:Nat} {i:Info} {r:Row} (hE:E b=some i) (hr:rowW m b=some r) (hz:r.fz=.none) {o:Nat} {new new':List Value} {old:List Value} {w':World} {cells cells':Array Value} {el:TypeId} {fr:Nat × Nat}
  (hg:w.heap[i.blk]? = some (.cells cells el fr)) (hone:OneR w w' i.blk (.cells cells' el fr)) (hsz:cells'.size=cells.size) {ex:Nat}
  (hcell:∀ j v,(old++new)[j]? = some v→∃ v',cells'[i.shift+o+j]? = some v'∧VR E v v') (hn:cells.size=i.shift+o+(old++new).length+ex*tb.p.cellsOf r.elem) :
  ∃ E',E' m.next=some ⟨i.blk,i.shift+o,ex⟩∧MR tb.p N w0 E' (newObjA (putObj m b .dead) (rowObj r.elem (old++new) .none true)) w'∧MExt m.next E m E' (newObjA (putObj m b .dead) (rowObj r.elem (old++new) .none true)):=by
 obtain⟨c0,e0,f0,g1,g2⟩:=H.row hE (rowOf_of_rowW hr)
 rw [hg] at g1
 obtain⟨rfl,rfl,rfl⟩:cells=c0∧el=e0∧fr=f0:=by
  have:=Option.some.inj g1
  injection this with a b c
  exact⟨a,b,c⟩
 have hK:MR tb.p N w0 E (putObj m b .dead) w':=H.put hE (rowW_some hr) rfl (.inr rfl) hone.size hone.other hone.os hone.tape hone.output (fun h=>by simp [AObj.live] at h)
 have hnx:=(H.dom m.next (Nat.le_refl _)).2
 have hle:=Env.add_le (i:=⟨i.blk,i.shift+o,ex⟩) hnx
 have hbn:b≠m.next:=by intro e;subst e;rw [hnx] at hE;simp at hE
 refine⟨E.add m.next ⟨i.blk,i.shift+o,ex⟩,Env.add_at,⟨?_,?_,?_,?_,?_,hK.base,hK.size⟩,?_⟩
 ·intro c j q hc hq hql
  rw [get_newObjA,next_putObj] at hq
  by_cases e:c=m.next
  ·subst e
   rw [if_pos rfl] at hq
   obtain rfl:=Option.some.inj hq
   obtain rfl:=Option.some.inj (Env.add_at.symm.trans hc)
   refine⟨_,hone.at_,.row ⟨g2.elem,?_,?_,fun h=>by simp at h,?_⟩⟩
   ·intro j v hv
    simp only [cellAt,T.get_ofList] at hv
    split at hv<;>first|(simp at hv;done)|skip
    split at hv
    ·rename_i u hu
     simp only [Option.some.injEq] at hv;subst hv
     obtain⟨v',h1,h2⟩:=hcell j u hu
     exact⟨v',h1,h2.mono hle⟩
    ·simp at hv
   ·rw [hsz];exact hn
   ·have:=g2.fz;rw [hz] at this;exact this
  ·rw [if_neg e] at hq
   simp only [Env.add,if_neg e] at hc
   obtain⟨ob,h1,h2⟩:=hK.objs c j q hc hq hql
   exact⟨ob,h1,h2.mono hle⟩
 ·intro c j hc
  by_cases e:c=m.next
  ·subst e
   obtain rfl:=Option.some.inj (Env.add_at.symm.trans hc)
   exact hK.ub b i hE
  ·simp only [Env.add,if_neg e] at hc;exact hK.ub c j hc
 ·intro c hc
  rw [next_newObjA,next_putObj] at hc
  obtain⟨h1,h2⟩:=hK.dom c (by rw [next_putObj];omega)
  rw [get_newObjA,next_putObj,if_neg (by omega)]
  exact⟨h1,by simp only [Env.add];rw [if_neg (by omega)];exact h2⟩
 ·intro c c' j j' q q' hne hc hc' hq hq' hl1 hl2
  rw [get_newObjA,next_putObj] at hq hq'
  have key:∀ x k y,x≠m.next→(E.add m.next ⟨i.blk,i.shift+o,ex⟩) x=some k→(putObj m b .dead).objs.get x=some y→y.live=true→k.blk≠i.blk:=by
   intro x k y hx hk hy hyl
   simp only [Env.add,if_neg hx] at hk
   rw [get_putObj] at hy
   have hxb:x≠b:=by intro e;subst e;rw [if_pos rfl] at hy;obtain rfl:=Option.some.inj hy;simp [AObj.live] at hyl
   rw [if_neg hxb] at hy
   exact H.inj x b k i y _ hxb hk hE hy (rowW_some hr) hyl rfl
  by_cases e:c=m.next
  ·subst e
   obtain rfl:=Option.some.inj (Env.add_at.symm.trans hc)
   rw [if_neg (Ne.symm hne)] at hq'
   exact (key c' j' q' (Ne.symm hne) hc' hq' hl2).symm
  ·by_cases e':c'=m.next
   ·subst e'
    obtain rfl:=Option.some.inj (Env.add_at.symm.trans hc')
    rw [if_neg e] at hq
    exact key c j q e hc hq hl1
   ·rw [if_neg e] at hq
    rw [if_neg e'] at hq'
    simp only [Env.add,if_neg e] at hc
    simp only [Env.add,if_neg e'] at hc'
    exact hK.inj c c' j j' q q' hne hc hc' hq hq' hl1 hl2
 ·intro c j q hc hq hqo
  rw [get_newObjA,next_putObj] at hq
  by_cases e:c=m.next
  ·subst e
   obtain rfl:=Option.some.inj (Env.add_at.symm.trans hc)
   exact H.own b i _ hE (rowW_some hr) rfl
  ·rw [if_neg e] at hq
   simp only [Env.add,if_neg e] at hc
   exact hK.own c j q hc hq hqo
 ·refine⟨hle,fun c hc hn=>⟨by simp only [Env.add];rw [if_neg (by omega)];exact hn,?_⟩,by rw [next_newObjA,next_putObj];omega⟩
  rw [get_newObjA,next_putObj,if_neg (by omega),get_putObj,if_neg (by intro e;subst e;rw [hE] at hn;simp at hn)]
end
end Go.Ev

namespace Go.Ev
open Go.RowKit
section
variable {tb:Tabs} {N:Nat} {w0:World} {E:Env} {m:Mem} {w:World}
theorem appendFits_some {p:Option Addr} {sl sc n bytes:Nat} (h:appendFits (.slice p sl sc) n bytes=true) (hb:0<bytes) {c:Nat} (hc:c<sl+n) :
  sl+n<9223372036854775808∧¬ 281474976710656<Builtin.nextslicecap (sl+n) c*bytes:=by
 have h:=Nat.le_of_ble_eq_true h
 have h1:=nextslicecap_le hc
 have h2:sl+n+1000≤(sl+n+1000)*bytes:=Nat.le_mul_of_pos_right _ hb
 have h3:Builtin.nextslicecap (sl+n) c*bytes≤(2*(sl+n+1000))*bytes:=Nat.mul_le_mul_right _ (by omega)
 rw [Nat.mul_assoc] at h3
 omega
theorem appended_nil {m:Mem} {xt elem:TypeId} {sz:Nat} {x:Value} {n:Nat} {new:List Value} (h:appended tb m xt elem sz x=some (n,new)):n=0→new=[]:=by
 unfold appended at h
 obtain⟨j,hj,h1⟩:=oB_some.1 h
 clear h
 split at h1
 ·split at h1<;>first|(simp at h1;done)|skip
  obtain⟨e',he',h2⟩:=oB_some.1 h1
  split at h2<;>first|(simp at h2;done)|skip
  simp only [Option.some.injEq,Prod.mk.injEq] at h2
  obtain⟨rfl,rfl⟩:=h2
  intro e;subst e;rfl
 ·obtain⟨n',hn',h2⟩:=oB_some.1 h1
  obtain⟨l,hl,h3⟩:=oB_some.1 h2
  simp only [Option.some.injEq,Prod.mk.injEq] at h3
  obtain⟨rfl,rfl⟩:=h3
  intro e;subst e
  rw [Nat.zero_mul] at hl
  unfold firstA at hl
  split at hl
  ·simp at hl;exact hl
  ·simp at hl;exact hl
  ·simp [u8s] at hl;exact hl
  ·simp at hl
theorem VR.slice_len {E:Env} {a:Addr} {l c l1:Nat} {x':Value} (h:VR E (.slice (some a) l c) x') (hl:l1≤c):∃ p' c',x'=.slice (some p') l c'∧c≤c'∧VR E (.slice (some a) l1 c) (.slice (some p') l1 c'):=by
 cases h with
 |sl l c h=>exact⟨_,_,rfl,by omega,.sl _ _ h⟩
 |slX l c h=>exact⟨_,_,rfl,by omega,.slX _ _ h⟩
 |slD a h=>obtain rfl:l1=0:=(by omega);exact⟨_,_,rfl,by omega,.slD _ h⟩
 |slE0 h hx=>obtain rfl:l1=0:=(by omega);exact⟨_,_,rfl,by omega,.slE0 h hx⟩
 |slE1 h hx=>obtain rfl:l1=0:=(by omega);exact⟨_,_,rfl,by omega,.slE1 h hx⟩
theorem run_appendTo (ok:TabsOk tb) (H:MR tb.p N w0 E m w) {st xt elem:TypeId} {e:TI} {i:TI} (hi:ti tb st=some i) (hid:i.d=.slice elem) (he:ti tb elem=some e) {s s' x' v:Value} {m':Mem} (hs:VR E s s')
  {n:Nat} {new new':List Value} (hnew:VRs E new new') (hc:CntOk tb.p w xt elem e.inf.size x' n new') (hsz:0<e.inf.size) (hby:0<e.inf.bytes) (hz:e.hasZ=true) (hfit:appendFits s n e.inf.bytes=true) (hn0:n=0→new=[])
  (h:appendTo m elem e.inf.size s n new=some (v,m')) (tys:List TypeId) (ty:TypeId):WrOk tb N w0 E m w v m' (Builtin.append_ ⟨st::xt::tys⟩ ty #[s',x']):=by
 obtain⟨z,g1,g2,g3,g4,_⟩:=ok.zc he hz
 have hzc':z.cells.toList=e.zc:=by rw [g2];cases z<;>rfl
 have hst:∀ w,(underlying st).run tb.p w=.ok (.slice elem) w:=fun w=>by rw [run_ty ok hi,hid]
 have hrl:∀ q,(repl z.cells.toList q).length=q*tb.p.cellsOf elem:=fun q=>by rw [repl_length,hzc',g4,ok.cellsOf he]
 have grow:∀ (p:Option Addr) (sl c:Nat) (old old':List Value),s'=.slice p sl c→c<sl+n→appendFits (.slice p sl 0) n e.inf.bytes=true→VRs E old old' →
   (Builtin.firstCells e.inf.size sl (.slice p sl c)).run tb.p w.drew=.ok ⟨old'⟩ w.drew→∀ m1,MR tb.p N w0 E m1 w→m1.next=m.next→MExt m.next E m E m1→v=.slice (some ⟨m.next,0,none⟩) (sl+n) (sl+n)→m'=newObjA m1 (rowObj elem (old++new) .none true) →
   WrOk tb N w0 E m w v m' (Builtin.append_ ⟨st::xt::tys⟩ ty #[s',x']):=by
  intro p sl c old old' hs' hlt hft hold hrun m1 H1 hnx hx1 hv hm'
  obtain⟨b1,b2⟩:=appendFits_some hft hby hlt
  obtain⟨q,hq⟩:=append_grow (P:=tb.p) (w:=w) (st:=st) (xt:=xt) (elem:=elem) (tys:=tys) (ty:=ty) hst (fun w=>run_size ok he) hc (by omega) (fun w=>run_inf ok he) (by omega) b1 b2 (fun w=>run_zero ok he g1) hrun
  obtain⟨E',e1,e2,e3⟩:=H1.newRow elem (hold.append hnew) (rest:=repl z.cells.toList q) (hrl q) (d:=w.drawn+1)
  refine⟨_,_,E',by rw [hs'];exact hq,?_,by rw [hm'];exact e2,by rw [hm'];exact hx1.trans (by rw [← hnx];exact e3)⟩
  rw [hv,← hnx]
  have:=VR.sl (E:=E') (b:=m1.next) (o:=0) (sl+n) (sl+n) e1
  simpa using this
 have inplace:∀ (b:Nat) (i:Info) (r:Row) (o sl c:Nat) (old:List Value),E b=some i→rowW m b=some r→r.fz=.none→r.elem=elem→s'=.slice (some ⟨i.blk,i.shift+o,none⟩) sl c→sl+n≤c →
   (∀ j u,old[j]? = some u→cellAt r (o+j)=some u)→old.length=sl*e.inf.size→new.length=n*e.inf.size→new.all oneC=true→r.n+i.extra*e.inf.size=o+c*e.inf.size →
   v=.slice (some ⟨m.next,0,none⟩) (sl+n) (sl+n)→m'=newObjA (putObj m b .dead) (rowObj elem (old++new) .none true)→WrOk tb N w0 E m w v m' (Builtin.append_ ⟨st::xt::tys⟩ ty #[s',x']):=by
  intro b i r o sl c old hE hr hfz hel hs' hle hold hol hnl hone hn hv hm'
  obtain⟨cells,el,fr,q1,q2⟩:=H.row hE (rowOf_of_rowW hr)
  have hcs:tb.p.cellsOf r.elem=e.inf.size:=by rw [hel,ok.cellsOf he]
  have hsize:=q2.size
  rw [hcs] at hsize
  obtain⟨ex,rfl⟩:∃ ex,c=sl+n+ex:=⟨c-(sl+n),by omega⟩
  rw [Nat.add_mul,Nat.add_mul] at hn
  have hfr:fr.1=fr.2:=by have:=q2.fz;rw [hfz] at this;exact this
  have hlen:=hnew.length
  by_cases hnn:new'=[]
  ·subst hnn
   have hnew0:new=[]:=List.eq_nil_of_length_eq_zero (by rw [hlen];rfl)
   have hns:n*e.inf.size=0:=by rw [← hnl,hnew0];rfl
   have hrun:=append_fits (w':=w) (tys:=tys) (ty:=ty) (base:=some ⟨i.blk,i.shift+o,none⟩) hst (fun w=>run_size ok he) hc hle (by rfl)
   obtain⟨E',e1,e2,e3⟩:=H.regrow (o:=o) (new:=new) (new':=[]) (old:=old) (ex:=ex) hE hr hfz q1 ⟨q1,fun _ _=>rfl,rfl,rfl,rfl,rfl⟩ rfl (by
    intro j u hu
    rw [hnew0,List.append_nil] at hu
    rw [Nat.add_assoc]
    exact q2.cell _ _ (hold j u hu)) (by rw [hcs,List.length_append,hol,hnl];omega)
   refine⟨_,w,E',by rw [hs'];exact hrun,?_,by rw [hm',← hel];exact e2,by rw [hm',← hel];exact e3⟩
   rw [hv]
   have:=VR.sl (E:=E') (b:=m.next) (o:=0) (sl+n) (sl+n) e1
   simpa using this
  ·obtain⟨cells',w',p1,p2,p3,p4⟩:=run_storeList (P:=tb.p) new' i.blk (i.shift+o+sl*e.inf.size) 0 w cells el fr q1 (by rw [hsize,← hlen,hnl];omega) (hnew.all_one hone) (by intro j hj;omega)
   have hrun:=append_fits (w':=w') (tys:=tys) (ty:=ty) (base:=some ⟨i.blk,i.shift+o,none⟩) hst (fun w=>run_size ok he) hc hle (by simp only;rw [add_none];exact p1)
   obtain⟨E',e1,e2,e3⟩:=H.regrow (o:=o) (new:=new) (new':=new') (old:=old) (ex:=ex) hE hr hfz q1 p2 p3 (by
    intro j u hu
    rw [p4]
    by_cases hj:j<old.length
    ·rw [List.getElem?_append_left hj] at hu
     rw [if_neg (by omega),Nat.add_assoc]
     exact q2.cell _ _ (hold j u hu)
    ·rw [List.getElem?_append_right (by omega)] at hu
     obtain⟨u',h3,h4⟩:=hnew.get _ u hu
     have hlt:=(List.getElem?_eq_some_iff.1 h3).1
     rw [if_pos (by omega)]
     exact⟨u',by rw [show i.shift+o+j-(i.shift+o+sl*e.inf.size+0)=j-old.length from by omega];exact h3,h4⟩) (by rw [hcs,List.length_append,hol,hnl];omega)
   refine⟨_,w',E',by rw [hs'];exact hrun,?_,by rw [hm',← hel];exact e2,by rw [hm',← hel];exact e3⟩
   rw [hv]
   have:=VR.sl (E:=E') (b:=m.next) (o:=0) (sl+n) (sl+n) e1
   simpa using this
 unfold appendTo at h
 split at h
 ·rename_i sl sc
  have hs':s'=.slice none sl sc:=by cases hs;rfl
  split at h
  ·split at h<;>first|(simp at h;done)|skip
   rename_i hb
   obtain rfl:=Nat.eq_of_beq_eq_true hb
   simp only [Option.some.injEq,Prod.mk.injEq] at h
   obtain⟨rfl,rfl⟩:=h
   subst hs'
   refine⟨_,w,E,append_fits hst (fun w=>run_size ok he) hc (by omega) rfl,.slNil _ _,H,.refl _ _ _⟩
  ·rename_i n
   split at h<;>first|(simp at h;done)|skip
   rename_i hb
   rw [Bool.and_eq_true] at hb
   obtain rfl:=Nat.eq_of_beq_eq_true hb.1
   obtain rfl:=Nat.eq_of_beq_eq_true hb.2
   simp only [newRowV,Option.some.injEq,Prod.mk.injEq] at h
   obtain⟨hv,hm⟩:=h
   exact grow none 0 0 [] [] hs' (by omega) hfit .nil rfl m H rfl (.refl _ _ _) (by rw [← hv];simp) (by rw [← hm];rfl)
 ·rename_i a sl sc
  split at h
  ·rename_i hle
   have hle:=Nat.le_of_ble_eq_true hle
   obtain⟨p',c',rfl,hcc,hvr⟩:=hs.slice_len hle
   split at h
   ·simp only [Option.some.injEq,Prod.mk.injEq] at h
    obtain⟨rfl,rfl⟩:=h
    cases hnew
    exact⟨_,w,E,append_fits hst (fun w=>run_size ok he) hc (by omega) rfl,hvr,H,.refl _ _ _⟩
   ·rename_i v1 new1
    have hn1:n≠0:=fun e=>by have:=hn0 e;simp at this
    obtain⟨m1,hm1,h2⟩:=oB_some.1 h
    simp only [Option.some.injEq,Prod.mk.injEq] at h2
    obtain⟨rfl,rfl⟩:=h2
    have hin:∃ i,E a.block=some i∧p'=⟨i.blk,i.shift+a.off,none⟩:=by
     clear h
     cases hs with
     |sl l c h=>exact⟨_,h,rfl⟩
     |slX l c h=>exact⟨_,h,rfl⟩
     |slD _ _=>omega
     |slE0 h hx=>omega
     |slE1 h hx=>omega
    obtain⟨i,hE,rfl⟩:=hin
    obtain⟨w',p1,p2,p3⟩:=run_storeCellsA H hE hnew hm1
    refine⟨_,w',E,append_fits hst (fun w=>run_size ok he) hc (by omega) ?_,hvr,p2,p3⟩
    simp only
    rw [add_none,Nat.add_assoc];exact p1
  ·rename_i hgt
   have hgt:¬ sl+n≤sc:=fun hh=>by rw [Nat.ble_eq_true_of_le hh] at hgt;simp at hgt
   unfold growA at h
   obtain⟨r,hr,h1⟩:=oB_some.1 h
   clear h
   have hfirst:∀ old,cellsFrom r (sl*e.inf.size) a.off=some old→firstA m (sl*e.inf.size) sl (.slice (some a) sl sc)=some old:=by
    intro old ho
    unfold firstA
    simp only
    cases hk:sl*e.inf.size with
    |zero=>rw [hk,cellsFrom_zero] at ho;exact ho
    |succ k=>rw [hk] at ho;simp only [hr,oB];exact ho
   have hold:∀ old,cellsFrom r (sl*e.inf.size) a.off=some old→∃ old',VRs E old old'∧∀ w',w'.heap=w.heap→(Builtin.firstCells e.inf.size sl s').run tb.p w'=.ok ⟨old'⟩ w':=fun old ho =>
    run_firstA H rfl hs (fun a l c ex=>by cases ex;exact Nat.le_refl _) (hfirst old ho)
   have sure:∀ c p,s'=.slice p sl c→c≤sc→∀ old,cellsFrom r (sl*e.inf.size) a.off=some old→∀ m1,MR tb.p N w0 E m1 w→m1.next=m.next→MExt m.next E m E m1→newRowV m1 elem (old++new) (sl+n)=some (v,m') →
     WrOk tb N w0 E m w v m' (Builtin.append_ ⟨st::xt::tys⟩ ty #[s',x']):=by
    intro c p hs' hcc old ho m1 H1 hnx hx1 hv
    obtain⟨old',o1,o2⟩:=hold old ho
    simp only [newRowV,Option.some.injEq,Prod.mk.injEq] at hv
    obtain⟨hv,hm⟩:=hv
    exact grow p sl c old old' hs' (by omega) hfit o1 (by rw [← hs'];exact o2 w.drew rfl) m1 H1 hnx hx1 (by rw [← hv,hnx]) hm.symm
   cases hx:r.ext with
   |false =>
    rw [hx] at h1;simp only at h1
    obtain⟨old,ho,h2⟩:=oB_some.1 h1
    have hex:∀ b i,E b=some i→a.block=b→i.extra=0:=by
     intro b i hE hb
     subst hb
     obtain⟨cells,el,fr,q1,q2⟩:=H.row hE hr
     exact (q2.exact' hx).2
    cases hs with
    |sl l c h=>exact sure _ _ rfl (by rw [hex _ _ h rfl];omega) old ho m H rfl (.refl _ _ _) h2
    |slX l c h=>exact sure _ _ rfl (Nat.le_refl _) old ho m H rfl (.refl _ _ _) h2
    |slD _ h=>exact sure _ _ rfl (Nat.le_refl _) old ho m H rfl (.refl _ _ _) h2
    |slE0 h hx=>exact sure _ _ rfl (Nat.le_refl _) old ho m H rfl (.refl _ _ _) h2
    |slE1 h hx=>exact absurd (hex _ _ h rfl) hx
   |true =>
    rw [hx] at h1;simp only at h1
    cases hs with
    | @slX b o i l c hE =>
      simp only at h1
      obtain⟨old,ho,h2⟩:=oB_some.1 h1
      exact sure _ _ rfl (Nat.le_refl _) old ho m H rfl (.refl _ _ _) h2
    | @sl b o i l c hE =>
      simp only at h1
      split at h1<;>first|(simp at h1;done)|skip
      rename_i r2 hfz hrw hck
      obtain⟨old,ho,h2⟩:=oB_some.1 h1
      have hrr:r2=r:=by have:=rowOf_of_rowW hrw;rw [hr] at this;exact (Option.some.inj this).symm
      subst hrr
      simp only [Bool.and_eq_true] at hck
      obtain⟨⟨⟨k1,k2⟩,k3⟩,k4⟩:=hck
      have k1:=Nat.eq_of_beq_eq_true k1
      have k2:=Nat.eq_of_beq_eq_true k2
      have k3:=Nat.eq_of_beq_eq_true k3
      by_cases hroom:sl+n≤sc+i.extra
      ·obtain⟨c1,c2⟩:=cellsFrom_some ho
       simp only [newRowV,Option.some.injEq,Prod.mk.injEq] at h2
       exact inplace b i r2 o sl (sc+i.extra) old hE hrw hfz k2 rfl hroom c2 c1 k3 k4 (by rw [Nat.add_mul];omega) h2.1.symm h2.2.symm
      ·obtain⟨old',o1,o2⟩:=hold old ho
       simp only [newRowV,Option.some.injEq,Prod.mk.injEq] at h2
       exact grow _ sl (sc+i.extra) old old' rfl (by omega) hfit o1 (o2 w.drew rfl) (putObj m b .dead) (H.kill hE hrw) rfl (MExt.kill hE) h2.1.symm h2.2.symm
    | @slD b o s0 i a' hE =>
      simp only at h1
      split at h1
      ·obtain⟨old,ho,h2⟩:=oB_some.1 h1
       exact sure _ _ rfl (Nat.le_refl _) old ho m H rfl (.refl _ _ _) h2
      ·split at h1<;>first|(simp at h1;done)|skip
       rename_i r2 hfz hrw hck
       simp only [newRowV,Option.some.injEq,Prod.mk.injEq] at h1
       exact grow _ 0 0 [] [] rfl (by omega) hfit .nil (by simp only [Builtin.firstCells,Nat.zero_mul];rfl) (putObj m b .dead) (H.kill hE hrw) rfl (MExt.kill hE) (by rw [← h1.1,Nat.zero_add];rfl) h1.2.symm
      ·split at h1<;>first|(simp at h1;done)|skip
       rename_i r2 hfz hrw hck
       obtain⟨old,ho,h2⟩:=oB_some.1 h1
       obtain⟨old',o1,o2⟩:=hold old ho
       simp only [newRowV,Option.some.injEq,Prod.mk.injEq] at h2
       exact grow _ 0 0 old old' rfl (by omega) hfit o1 (o2 w.drew rfl) (putObj m b .dead) (H.kill hE hrw) rfl (MExt.kill hE) h2.1.symm h2.2.symm
    | @slE0 b o k i hE hxx =>
      simp only at h1
      split at h1<;>first|(simp at h1;done)|skip
      rename_i r2 hfz hrw hck
      simp only [newRowV,Option.some.injEq,Prod.mk.injEq] at h1
      exact grow _ 0 0 [] [] rfl (by omega) hfit .nil (by simp only [Builtin.firstCells,Nat.zero_mul];rfl) (putObj m b .dead) (H.kill hE hrw) rfl (MExt.kill hE) (by rw [← h1.1,Nat.zero_add];rfl) h1.2.symm
    | @slE1 b o k i hE hxx =>
      simp only at h1
      split at h1<;>first|(simp at h1;done)|skip
      rename_i r2 hfz hrw hck
      have hrr:r2=r:=by have:=rowOf_of_rowW hrw;rw [hr] at this;exact (Option.some.inj this).symm
      subst hrr
      simp only [Bool.and_eq_true] at hck
      obtain⟨⟨⟨k1,k2⟩,k3⟩,k4⟩:=hck
      have k1:=Nat.eq_of_beq_eq_true k1
      have k2:=Nat.eq_of_beq_eq_true k2
      have k3:=Nat.eq_of_beq_eq_true k3
      simp only [newRowV,Option.some.injEq,Prod.mk.injEq] at h1
      by_cases hroom:0+n≤i.extra
      ·exact inplace b i r2 (o+(k+1)) 0 i.extra [] hE hrw hfz k2 (by rw [Nat.add_assoc]) hroom (by simp) (by simp) k3 k4 (by omega) (by rw [← h1.1,Nat.zero_add];rfl) h1.2.symm
      ·exact grow _ 0 i.extra [] [] rfl (by omega) hfit .nil (by simp only [Builtin.firstCells,Nat.zero_mul];rfl) (putObj m b .dead) (H.kill hE hrw) rfl (MExt.kill hE) (by rw [← h1.1,Nat.zero_add];rfl) h1.2.symm
 ·simp at h
theorem run_appendA (ok:TabsOk tb) (H:MR tb.p N w0 E m w) {tys:List TypeId} {s s' x x' v:Value} {m':Mem} (hs:VR E s s') (hx:VR E x x') (h:appendA tb tys m s x=some (v,m')) (ty:TypeId) :
  WrOk tb N w0 E m w v m' (Builtin.append_ ⟨tys⟩ ty #[s',x']):=by
 unfold appendA at h
 split at h<;>first|(simp at h;done)|skip
 rename_i st xt tys'
 obtain⟨i,hi,h1⟩:=oB_some.1 h
 clear h
 split at h1<;>first|(simp at h1;done)|skip
 rename_i elem hid
 obtain⟨e,he,h2⟩:=oB_some.1 h1
 obtain⟨⟨n,new⟩,ha,h3⟩:=oB_some.1 h2
 clear h1 h2
 simp only at h3
 split at h3<;>first|(simp at h3;done)|skip
 rename_i k1 k2 hsz hby hz hfit
 obtain⟨new',r1,r2⟩:=run_appended ok H he hx ha
 exact run_appendTo ok H hi hid he hs r1 r2 (by omega) (by omega) hz hfit (appended_nil ha) h3 tys' ty
end
end Go.Ev

namespace Go.Ev
open Go.RowKit
section
variable {tb:Tabs} {N:Nat} {w0:World} {E:Env} {m:Mem} {w:World}
theorem sameK1_bits {E:Env} {x y x' y':Value} (hx:VR E x x') (hy:VR E y y') (h:sameK1 x y=true) (n:Nat):Instr.sameBits n x' y'=true:=by
 unfold sameK1 at h
 split at h
 ·rw [Bool.and_eq_true] at h
  cases hx;cases hy
  have h1:=kEq_true h.1
  have h2:=h.2;rw [intEq_eq] at h2
  unfold Instr.sameBits
  simp [h1]
  simpa using h2
 ·cases hx;cases hy
  rename_i a b
  rw [bytesEq_eq] at h
  unfold Instr.sameBits
  rw [beq_toListBytes,toList_eq,toList_eq];exact h
 ·simp at h
theorem sameKs_bits {E:Env} (n:Nat):∀ {l k l' k':List Value},VRs E l l'→VRs E k k'→sameKs l k=true→l'.length=k'.length∧((l'.zip k').all fun (x,y)=>Instr.sameBits n x y)=true
 | [],[],_,_,.nil,.nil,_=>⟨rfl,rfl⟩
 |x::l,y::k,_,_,.cons h t,.cons h' t',hs=>by
  simp only [sameKs] at hs
  split at hs
  ·rename_i h1
   obtain⟨i1,i2⟩:=sameKs_bits n t t' hs
   refine⟨by simp [i1],?_⟩
   simp only [List.zip_cons_cons,List.all_cons,Bool.and_eq_true]
   exact⟨sameK1_bits h h' h1 n,i2⟩
  ·simp at hs
 | [],y::k,_,_,.nil,.cons _ _,hs=>by simp [sameKs] at hs
 |x::l,[],_,_,.cons _ _,.nil,hs=>by simp [sameKs] at hs
theorem sameK_bits {E:Env} {x y x' y':Value} (hx:VR E x x') (hy:VR E y y') (h:sameK x y=true):Instr.sameBits 10000 x' y'=true:=by
 unfold sameK at h
 split at h
 ·rename_i a b
  cases hx with
  |agg hx=>cases hy with
   |agg hy =>
    obtain⟨i1,i2⟩:=sameKs_bits 9999 hx hy h
    unfold Instr.sameBits
    simp only [Array.size,i1,beq_self_eq_true,Bool.true_and]
    exact i2
 ·exact sameK1_bits hx hy h _
theorem setEntry_get (f:MapEntry→MapEntry):∀ (es:List MapEntry) (i j:Nat),(setEntry f es i)[j]? = if j=i then (es[j]?).map f else es[j]?
 | [],i,j=>by simp [setEntry]
 |e::es,0,0=>by simp [setEntry]
 |e::es,0,j+1=>by simp [setEntry]
 |e::es,i+1,0=>by simp [setEntry]
 |e::es,i+1,j+1=>by simp [setEntry,setEntry_get f es i j]
theorem setEntry_modify (f:MapEntry→MapEntry) (es:List MapEntry) (i:Nat):(⟨es⟩:Array MapEntry).modify i f=⟨setEntry f es i⟩:=by
 apply Array.ext_getElem?
 intro j
 rw [Array.getElem?_modify]
 have:(⟨setEntry f es i⟩:Array MapEntry)[j]? = (setEntry f es i)[j]? := by simp
 rw [this,setEntry_get]
 by_cases h:j=i
 ·rw [if_pos h.symm,if_pos h];simp
 ·rw [if_neg (fun e=>h e.symm),if_neg h];simp
theorem EntR.setEntry {E:Env} {f f':MapEntry→MapEntry} (hf:∀ k k' v v' b,VR E k k'→VR E v v'→VR E (f ⟨k,v,b⟩).key (f' ⟨k',v',b⟩).key∧VR E (f ⟨k,v,b⟩).val (f' ⟨k',v',b⟩).val∧(f ⟨k,v,b⟩).born=(f' ⟨k',v',b⟩).born) {l l':List MapEntry} (h:EntR E l l') :
  ∀ i,EntR E (Ev.setEntry f l i) (Ev.setEntry f' l' i):=by
 induction h with
 |nil=>intro i;exact .nil
 | @cons k k' v v' b l l' hk hv t ih =>
   intro i
   cases i with
   |zero =>
    simp only [Ev.setEntry]
    obtain⟨h1,h2,h3⟩:=hf k k' v v' b hk hv
    cases he:f ⟨k,v,b⟩ with|mk a1 a2 a3 =>
    cases he':f' ⟨k',v',b⟩ with|mk b1 b2 b3 =>
    rw [he,he'] at h1 h2 h3
    simp only at h1 h2 h3
    subst h3
    exact .cons h1 h2 t
   |succ i=>simp only [Ev.setEntry];exact .cons hk hv (ih i)
theorem EntR.eraseAt {E:Env} {l l':List MapEntry} (h:EntR E l l'):∀ i,EntR E (Ev.eraseAt l i) (Ev.eraseAt l' i):=by
 induction h with
 |nil=>intro i;exact .nil
 |cons hk hv t ih =>
  intro i
  cases i with
  |zero=>exact t
  |succ i=>exact .cons hk hv (ih i)
theorem eraseAt_eq:∀ (es:List MapEntry) (i:Nat),eraseAt es i=es.eraseIdx i
 | [],i=>by simp [eraseAt]
 |e::es,0=>by simp [eraseAt]
 |e::es,i+1=>by simp [eraseAt,eraseAt_eq es i]
theorem run_mapUpdateA (ok:TabsOk tb) (H:MR tb.p N w0 E m w) {t:TypeId} {x x' k k' v v':Value} (hx:VR E x x') (hk:VR E k k') (hv:VR E v v') {m':Mem} (h:mapUpdateA tb t m x k v=some m') :
  WuOk tb N w0 E m w m' (Instr.mapUpdate t x' k' v'):=by
 unfold mapUpdateA at h
 obtain⟨i,hi,h1⟩:=oB_some.1 h
 clear h
 split at h1<;>first|(simp at h1;done)|skip
 rename_i kt et r hd
 split at h1<;>first|(simp at h1;done)|skip
 rename_i hko
 obtain⟨⟨es,c⟩,hm,h2⟩:=oB_some.1 h1
 obtain⟨q,hq,h3⟩:=oB_some.1 h2
 cases hx with
 | @map _ j hE =>
 obtain⟨es',hh,hes⟩:=H.map hE hm
 obtain⟨q',h4,h5,h6⟩:=run_findKey ok H hk hko hes hq
 have hu:(underlying t).run tb.p w=.ok (.map kt et) w:=by rw [← hd];exact run_ty ok hi
 have hck:=fun em=>run_checkKey (tb:=tb) (w:=w) ok hk hko em 9998
 have hck':∀ em,(Instr.checkKey em 10000 kt k').run tb.p w=.ok () w:=hck
 unfold Instr.mapUpdate
 cases h5 with
 |none =>
  simp only [Option.some.injEq] at h3;subst h3
  obtain⟨p1,p2⟩:=H.putMap hE hm (es2:=es++[⟨k,v,c⟩]) (es2':=es'++[⟨k',v',c⟩]) (c2:=c+1) (hes.append (.cons hk hv .nil))
  refine⟨_,E,?_,p2,.put _ hE⟩
  have hpush:(⟨es'⟩:Array MapEntry).push ⟨k',v',c⟩=⟨es'++[⟨k',v',c⟩]⟩:=by simp
  simp only [Sem.run_bind,hu,Result.andThen_ok,run_getMap hh,hck',h4]
  rw [hpush];exact p1
 | @some i v1 v1' hv1 =>
   obtain⟨e,he,h7⟩:=oB_some.1 h3
   split at h7<;>first|(simp at h7;done)|skip
   rename_i hsame
   simp only [Option.some.injEq] at h7;subst h7
   obtain⟨e',he',hek,hev,heb⟩:=hes.get i e he
   have hbits:=sameK_bits hek hk hsame
   obtain⟨p1,p2⟩:=H.putMap hE hm (es2:=setEntry (fun e => { e with key:=k,val:=v }) es i) (es2':=setEntry (fun e => { e with key:=k',val:=v' }) es' i) (c2:=c) (hes.setEntry (fun _ _ _ _ _ _ _=>⟨hk,hv,rfl⟩) i)
   refine⟨_,E,?_,p2,.put _ hE⟩
   have he2:(⟨es'⟩:Array MapEntry)[i]? = some e':=by simpa using he'
   have hstay:(Instr.keyThatStays e'.key k').run tb.p w=.ok k' w:=by simp [Instr.keyThatStays,hbits]
   simp only [Sem.run_bind,hu,Result.andThen_ok,run_getMap hh,hck',h4,he2,Option.map_some,Option.getD_some,hstay]
   rw [setEntry_modify];exact p1
theorem run_mapEntryA (ok:TabsOk tb) (H:MR tb.p N w0 E m w) {t:TypeId} {x x' k k' v:Value} (hx:VR E x x') (hk:VR E k k') {m':Mem} (h:mapEntryA tb t m x k=some (v,m')) :
  WrOk tb N w0 E m w v m' (Instr.mapEntry t x' k'):=by
 unfold mapEntryA at h
 obtain⟨i,hi,h1⟩:=oB_some.1 h
 clear h
 split at h1<;>first|(simp at h1;done)|skip
 rename_i kt et r hd
 split at h1<;>first|(simp at h1;done)|skip
 rename_i hko
 obtain⟨⟨es,c⟩,hm,h2⟩:=oB_some.1 h1
 obtain⟨q,hq,h3⟩:=oB_some.1 h2
 cases hx with
 | @map _ j hE =>
 obtain⟨es',hh,hes⟩:=H.map hE hm
 obtain⟨q',h4,h5,h6⟩:=run_findKey ok H hk hko hes hq
 have hu:(underlying t).run tb.p w=.ok (.map kt et) w:=by rw [← hd];exact run_ty ok hi
 have hck:=fun em=>run_checkKey (tb:=tb) (w:=w) ok hk hko em 9998
 have hck':∀ em,(Instr.checkKey em 10000 kt k').run tb.p w=.ok () w:=hck
 have hgo:∀ n:Nat,VR E (vInt .i64 (.ofNat n)) (goInt n):=fun n=>by rw [vInt_eq];exact .int _ _
 unfold Instr.mapEntry
 cases h5 with
 |none =>
  obtain⟨j2,hj2,h7⟩:=oB_some.1 h3
  obtain⟨z,hz,h8⟩:=oB_some.1 h7
  simp only [Option.some.injEq,Prod.mk.injEq] at h8
  obtain⟨rfl,rfl⟩:=h8
  obtain⟨hz1,hz2⟩:=zeroV_some ok hj2 hz E
  obtain⟨p1,p2⟩:=H.putMap hE hm (es2:=es++[⟨k,z,c⟩]) (es2':=es'++[⟨k',z,c⟩]) (c2:=c+1) (hes.append (.cons hk hz2 .nil))
  have hpush:(⟨es'⟩:Array MapEntry).push ⟨k',z,c⟩=⟨es'++[⟨k',z,c⟩]⟩:=by simp
  refine⟨.tuple #[z,goInt c],_,E,?_,.tuple (.cons hz2 (.cons (hgo c) .nil)),p2,.put _ hE⟩
  simp only [Sem.run_bind,hu,Result.andThen_ok,run_getMap hh,hck',h4,run_zero ok hj2 hz1]
  rw [hpush,p1];rfl
 | @some i v1 v1' hv1 =>
   obtain⟨e,he,h7⟩:=oB_some.1 h3
   split at h7<;>first|(simp at h7;done)|skip
   rename_i hsame
   simp only [Option.some.injEq,Prod.mk.injEq] at h7
   obtain⟨rfl,rfl⟩:=h7
   obtain⟨e',he',hek,hev,heb⟩:=hes.get i e he
   have hbits:=sameK_bits hek hk hsame
   obtain⟨p1,p2⟩:=H.putMap hE hm (es2:=setEntry (fun e => { e with key:=k }) es i) (es2':=setEntry (fun e => { e with key:=k' }) es' i) (c2:=c) (hes.setEntry (fun _ _ _ _ _ _ hv=>⟨hk,hv,rfl⟩) i)
   have he2:(⟨es'⟩:Array MapEntry)[i]? = some e':=by simpa using he'
   have hstay:(Instr.keyThatStays e'.key k').run tb.p w=.ok k' w:=by simp [Instr.keyThatStays,hbits]
   refine⟨.tuple #[v1',goInt e'.born],_,E,?_,.tuple (.cons hv1 (.cons (by rw [heb];exact hgo _) .nil)),p2,.put _ hE⟩
   simp only [Sem.run_bind,hu,Result.andThen_ok,run_getMap hh,hck',h4,he2,Option.map_some,Option.getD_some,hstay]
   rw [setEntry_modify,p1];rfl
theorem bornIdx_some {s:Nat}:∀ {es:List MapEntry} {i j:Nat},bornIdx s es i=some j→i≤j∧∀ {E:Env} {es':List MapEntry},EntR E es es'→es'.findIdx? (fun e=>(e.born:Int)==(s:Int))=some (j-i)
 | [],i,j,h=>by simp [bornIdx] at h
 |e::es,i,j,h=>by
  simp only [bornIdx] at h
  split at h
  ·rename_i hb
   simp only [Option.some.injEq] at h;subst h
   have hb:=Nat.eq_of_beq_eq_true hb
   refine⟨Nat.le_refl _,fun hes=>?_⟩
   cases hes
   simp only at hb;subst hb
   simp [List.findIdx?_cons]
  ·rename_i hb
   obtain⟨h1,h2⟩:=bornIdx_some h
   refine⟨by omega,fun hes=>?_⟩
   cases hes with
   | @cons k k' v v' b l l' hk hv t =>
     have hne:¬ b=s:=by
      intro e2;simp only at hb;subst e2
      rw [beq_dec] at hb;simp at hb
     have h3:=h2 t
     rw [List.findIdx?_cons]
     simp only
     rw [if_neg (by simpa using (show ¬ ((b:Int)=(s:Int)) from by omega)),h3]
     simp only [Option.map_some]
     congr 1;omega
theorem run_entryStoreA (ok:TabsOk tb) (H:MR tb.p N w0 E m w) {t:TypeId} {x x' s s' v v':Value} (hx:VR E x x') (hs:VR E s s') (hv:VR E v v') {m':Mem} (h:entryStoreA m x s v=some m') :
  WuOk tb N w0 E m w m' (Instr.entryStore t x' s' v'):=by
 unfold entryStoreA at h
 split at h<;>first|(simp at h;done)|skip
 rename_i r k s
 obtain⟨⟨es,c⟩,hm,h2⟩:=oB_some.1 h
 obtain⟨i,hi,h3⟩:=oB_some.1 h2
 simp only [Option.some.injEq] at h3;subst h3
 cases hx with
 | @map _ j hE =>
 cases hs
 obtain⟨es',hh,hes⟩:=H.map hE hm
 have hf:=(bornIdx_some hi).2 hes
 simp only [Nat.sub_zero] at hf
 obtain⟨p1,p2⟩:=H.putMap hE hm (es2:=setEntry (fun e => { e with val:=v }) es i) (es2':=setEntry (fun e => { e with val:=v' }) es' i) (c2:=c) (hes.setEntry (fun _ _ _ _ _ hk _=>⟨hk,hv,rfl⟩) i)
 refine⟨_,E,?_,p2,.put _ hE⟩
 unfold Instr.entryStore
 have hf':(⟨es'⟩:Array MapEntry).findIdx? (fun e=>(e.born:Int)==(s:Int))=some i:=by rw [List.findIdx?_toArray];exact hf
 have hf2:(⟨es'⟩:Array MapEntry).findIdx? (fun e=>(e.born:Int)==Int.ofNat s)=some i:=hf'
 simp only [Sem.run_bind,run_getMap hh,Result.andThen_ok,asInt,asIntOf,Sem.run_pure,hf2]
 rw [setEntry_modify];exact p1
theorem run_deleteA (ok:TabsOk tb) (H:MR tb.p N w0 E m w) {tys:List TypeId} {x x' k k':Value} (hx:VR E x x') (hk:VR E k k') {m':Mem} (h:deleteA tb tys m x k=some m') (ty:TypeId) :
  WrOk tb N w0 E m w undef m' (Builtin.delete_ ⟨tys⟩ ty #[x',k']):=by
 unfold deleteA at h
 split at h<;>first|(simp at h;done)|skip
 rename_i mt tys'
 have hdef:∀ x k,Builtin.delete_ ⟨mt::tys'⟩ ty #[x,k]=(do
   let .map keyType _ ← underlying mt|stuck "delete: map type expected"
   match x with
   | .map none=>Instr.checkKey true 10000 keyType k
   | .map (some r) =>
     let .map es clock ← getObj r|stuck "delete: map expected"
     Instr.checkKey es.isEmpty 10000 keyType k
     match ← Instr.findKey keyType k es.toList with
     |some (i,_)=>setObj r (.map (es.eraseIdxIfInBounds i) clock)
     |none=>setObj r (.map es clock)
   |_=>stuck "delete: map expected"
   pure (.tuple #[])):=fun x k=>rfl
 obtain⟨i,hi,h1⟩:=oB_some.1 h
 clear h
 split at h1<;>first|(simp at h1;done)|skip
 rename_i kt et r hd
 split at h1<;>first|(simp at h1;done)|skip
 rename_i hko
 obtain⟨⟨es,c⟩,hm,h2⟩:=oB_some.1 h1
 obtain⟨q,hq,h3⟩:=oB_some.1 h2
 cases hx with
 | @map _ j hE =>
 obtain⟨es',hh,hes⟩:=H.map hE hm
 obtain⟨q',h4,h5,h6⟩:=run_findKey ok H hk hko hes hq
 have hu:(underlying mt).run tb.p w=.ok (.map kt et) w:=by rw [← hd];exact run_ty ok hi
 have hck:=fun em=>run_checkKey (tb:=tb) (w:=w) ok hk hko em 9998
 have hck':∀ em,(Instr.checkKey em 10000 kt k').run tb.p w=.ok () w:=hck
 rw [hdef]
 cases h5 with
 |none =>
  simp only [Option.some.injEq] at h3;subst h3
  obtain⟨p1,p2⟩:=H.putMap hE hm (es2:=es) (es2':=es') (c2:=c) hes
  refine⟨undef,{ w with heap:=w.heap.setIfInBounds j.blk (.map ⟨es'⟩ c) },E,?_,.undef E,?_,.refl _ _ _⟩
  ·simp only [Sem.run_bind,hu,Result.andThen_ok,run_getMap hh,hck',h4,p1];rfl
  ·have:w.heap.setIfInBounds j.blk (.map ⟨es'⟩ c)=w.heap:=by
    apply Array.ext_getElem?
    intro k
    rw [Array.getElem?_setIfInBounds]
    by_cases e:j.blk=k
    ·subst e
     have hlt:j.blk<w.heap.size:=(Array.getElem?_eq_some_iff.1 hh).1
     rw [if_pos rfl,if_pos hlt,hh]
    ·rw [if_neg e]
   exact H.same this rfl rfl rfl
 | @some i v1 v1' hv1 =>
   simp only [Option.some.injEq] at h3;subst h3
   obtain⟨p1,p2⟩:=H.putMap hE hm (es2:=eraseAt es i) (es2':=eraseAt es' i) (c2:=c) (hes.eraseAt i)
   refine⟨undef,_,E,?_,.undef E,p2,.put _ hE⟩
   have her:(⟨es'⟩:Array MapEntry).eraseIdxIfInBounds i=⟨eraseAt es' i⟩:=by
    rw [eraseAt_eq];simp
   simp only [Sem.run_bind,hu,Result.andThen_ok,run_getMap hh,hck',h4]
   rw [her,p1];rfl
end
end Go.Ev

