/- A part of a proof: ScriptBack. -/
import Derived.Test.YtgmkbdmgifdfeaaGreatDoorD5
set_option linter.unusedVariables false
set_option linter.unusedSimpArgs false
namespace Go.Ev
open Go.RowKit
def NxR (E:Env) (v:Value) (nx:Next):Prop:=(∃ v',nx=.value v'∧VR E v v')∨(nx=.skip∧v=undef)
def Qcl (tb:Tabs) (N:Nat) (w0:World) (E:Env) (m:Mem) (w:World) (r:OR) (s:Sem Next):Prop :=
 match r with
 | .r v=>∃ nx,s.run tb.p w=.ok nx w∧NxR E v nx
 | .f ob mk=>∀ b,E b=none→∃ v' w' o' sh ex,s.run tb.p w=.ok (.value v') w'∧w'.heap=w.heap.push o'∧w'.os=w.os∧w'.tape=w.tape∧w'.output=w.output ∧
   ObjR tb.p (E.add b ⟨w.heap.size,sh,ex⟩) ⟨w.heap.size,sh,ex⟩ ob o'∧VR (E.add b ⟨w.heap.size,sh,ex⟩) (mk b) v'∧ob.own=true
 | .e v m'=>∃ nx w' E',s.run tb.p w=.ok nx w'∧NxR E' v nx∧MR tb.p N w0 E' m' w'∧MExt m.next E m E' m'
 | .c=>True
 | .bad=>True
section
variable {tb:Tabs} {N:Nat} {w0:World} {E:Env} {m:Mem} {w:World}
theorem Qcl.of {r:OR} {s:Sem Value} (h:Qcw tb N w0 E m w r s):Qcl tb N w0 E m w r (do pure (.value (← s))):=by
 cases r with
 |r v=>obtain⟨v',h1,h2⟩:=h;exact⟨_,by simp [h1],.inl ⟨v',rfl,h2⟩⟩
 |f ob mk =>
  intro b hb
  obtain⟨v',w',o',sh,ex,h1,h2⟩:=h b hb
  exact⟨v',w',o',sh,ex,by simp [h1],h2⟩
 |e v m' =>
  obtain⟨v',w',E',h1,h2,h3⟩:=h
  exact⟨_,w',E',by simp [h1],.inl ⟨v',rfl,h2⟩,h3⟩
 |c=>trivial
 |bad=>trivial
theorem Qcl.ofU {r:OR} {s:Sem Unit} (h:Qly tb N w0 E m w r s):Qcl tb N w0 E m w r (do s;pure .skip):=by
 cases r with
 |r v=>exact h.elim
 |f ob mk=>exact h.elim
 |e v m' =>
  obtain⟨rfl,w',E',h1,h2⟩:=h
  exact⟨.skip,w',E',by simp [h1],.inr ⟨rfl,rfl⟩,h2⟩
 |c=>trivial
 |bad=>trivial
theorem Qcw.ofR {x:Option Value} {s:Sem Value} (h:∀ v,x=some v→RdOk tb E w v s):Qcw tb N w0 E m w (oR x) s:=by
 cases x with
 |none=>exact trivial
 |some v=>exact h v rfl
theorem Qcw.ofE {x:Option (Value × Mem)} {s:Sem Value} (h:∀ v m',x=some (v,m')→WrOk tb N w0 E m w v m' s):Qcw tb N w0 E m w (oE x) s:=by
 cases x with
 |none=>exact trivial
 |some x=>obtain⟨v,m'⟩:=x;exact h v m' rfl
theorem Qlf {t:T Value} {ρ : Operand→Value}:∀ {l:List Operand},(∀ x∈l,VR E (ev t x) (ρ x))→VRs E (evs t l) (l.map ρ)
 | [],_=>.nil
 |x::l,h=>.cons (h x (by simp)) (Qlf fun y hy=>h y (by simp [hy]))
theorem Qur {t:T Value} {ρ : Operand→Value}:∀ {l:List (Nat × Operand)},(∀ x∈l.map (·.2),VR E (ev t x) (ρ x))→PartsR E (evP t l) (l.map fun (i,x)=>(i,ρ x))
 | [],_=>.nil
 | (i,x)::l,h=>.cons (h x (by simp)) (Qur fun y hy=>h y (by simp at hy ⊢;exact .inr hy))
theorem Qqw {t:T Value} {ρ : Operand→Value}:∀ {o:Option Operand},(∀ x,o=some x→VR E (ev t x) (ρ x))→OVR E (evO t o) (o.map ρ)
 |none,_=>.none
 |some x,h=>.some (h x rfl)
def Jaf (x:Value):Sem Next :=
 match x with
  | .pointer none | .nilIface | .nilFunc=>runtimePanic .nilDeref
  | .func (.method name) first captured =>
    match (first[0]? : Option Value) with
    |some .nilIface=>runtimePanic .nilDeref
    |some (.iface t w)=>do
     if (← nilAhead ((← program).types.size+Made.depth) t w name) != some false then
      unsupported (.noEntry "op/nilCheck.the method's receiver behind this interface value is a nil pointer, or cannot be seen to be none, and the arguments act or may panic (ledger 612)")
     pure (.value (.func (.method name) first captured))
    |_=>pure (.value (.func (.method name) first captured))
  |x=>pure (.value x)
theorem VRs.one {E:Env} {x:Value} {l':List Value} (h:VRs E [x] l'):∃ x',l'=[x']∧VR E x x':=by
 cases h with|cons h t=>cases t;exact⟨_,rfl,h⟩
theorem VRs.two {E:Env} {x y:Value} {l':List Value} (h:VRs E [x,y] l'):∃ x' y',l'=[x',y']∧VR E x x'∧VR E y y':=by
 cases h with|cons h t=>cases t with|cons h2 t=>cases t;exact⟨_,_,rfl,h,h2⟩
theorem VRs.hd {E:Env} {x:Value} {l l':List Value} (h:VRs E (x::l) l'):∃ x' k',l'=x'::k'∧VR E x x'∧VRs E l k':=by
 cases h with|cons h t=>exact⟨_,_,rfl,h,t⟩
theorem Qol {x x':Value} (hx:VR E x x'):Qcl tb N w0 E m w (Qg2 x) (Jaf x'):=by
 unfold Qg2
 split
 ·exact trivial
 ·exact trivial
 ·exact trivial
 ·exact trivial
 ·rename_i h1 h2 h3 h4
  refine⟨.value x',?_,.inl ⟨x',rfl,hx⟩⟩
  cases hx<;>first|rfl|(exact absurd rfl h1)|(exact absurd rfl h2)|(exact absurd rfl h3)|skip
  rename_i fn _ _ _ _ _ _ _
  cases fn<;>first|rfl|(exact absurd rfl (h4 _ _ _))
theorem Qo4 {k:IntKind} {n:Int} {l l':List Value} (hl:VRs E l l') (tys:Array TypeId) (ty:TypeId) :
  Qcw tb N w0 E m w (oR (maxI k n l)) (Builtin.max_ tys ty ⟨.int k n::l'⟩)∧Qcw tb N w0 E m w (oR (minI k n l)) (Builtin.min_ tys ty ⟨.int k n::l'⟩) :=
 ⟨Qcw.ofR fun v hv=>let ⟨h1,h2⟩:=run_maxI (P:=tb.p) (w:=w) hl hv; ⟨v,h1,h2⟩,Qcw.ofR fun v hv=>let ⟨h1,h2⟩:=run_minI (P:=tb.p) (w:=w) hl hv; ⟨v,h1,h2⟩⟩
theorem Qp9 (ok:TabsOk tb) (H:MR tb.p N w0 E m w) {b:Builtin} {tys:List TypeId} {ty:TypeId} {cs:Array Bool} {args args':List Value} (ha:VRs E args args') :
  Qcl tb N w0 E m w (Qcm tb m b tys args) (builtin b ⟨tys⟩ ty cs ⟨args'⟩):=by
 unfold Qcm
 cases b<;>try exact trivial
 case append =>
  simp only
  split<;>first|exact trivial|skip
  obtain⟨_,_,rfl,h1,h2⟩:=ha.two
  exact Qcl.of (Qcw.ofE fun v m' h=>Qt8 ok H h1 h2 h ty)
 case cap =>
  simp only
  split<;>first|exact trivial|skip
  obtain⟨_,rfl,h1⟩:=ha.one
  exact Qcl.of (Qcw.ofR fun v h=>let ⟨q1,q2⟩:=run_capA ok H h1 h; ⟨v,q1,q2⟩)
 case clear =>
  simp only
  split<;>first|exact trivial|skip
  obtain⟨_,rfl,h1⟩:=ha.one
  split<;>first|exact trivial|skip
  rename_i h
  exact Qcl.of (r:=.e undef _) (Qw9 ok H h1 h ty)
 case copy =>
  simp only
  split<;>first|exact trivial|skip
  obtain⟨_,_,rfl,h1,h2⟩:=ha.two
  exact Qcl.of (Qcw.ofE fun v m' h=>Qzj ok H h1 h2 h ty)
 case delete =>
  simp only
  split<;>first|exact trivial|skip
  obtain⟨_,_,rfl,h1,h2⟩:=ha.two
  split<;>first|exact trivial|skip
  rename_i h
  exact Qcl.of (r:=.e undef _) (Qt5 ok H h1 h2 h ty)
 case len =>
  simp only
  split<;>first|exact trivial|skip
  obtain⟨_,rfl,h1⟩:=ha.one
  exact Qcl.of (Qcw.ofR fun v h=>let ⟨q1,q2⟩:=run_lenA ok H h1 h; ⟨v,q1,q2⟩)
 case max =>
  simp only
  split<;>first|exact trivial|skip
  obtain⟨_,_,rfl,h1,h3⟩:=ha.hd
  cases h1
  exact Qcl.of (Qo4 h3 _ _).1
 case min =>
  simp only
  split<;>first|exact trivial|skip
  obtain⟨_,_,rfl,h1,h3⟩:=ha.hd
  cases h1
  exact Qcl.of (Qo4 h3 _ _).2
 case unsafeSliceData =>
  simp only
  split<;>first|exact trivial|skip
  ·obtain⟨_,rfl,h1⟩:=ha.one
   cases h1
   exact Qcl.of (r:=.r (.pointer none)) ⟨.pointer none,rfl,.ptrNil⟩
  ·obtain⟨_,rfl,h1⟩:=ha.one
   split<;>first|exact trivial|skip
   ·rename_i hsp
    cases h1 with
    | @sl b o q l c h =>
      refine Qcl.of (r:=.r _) ⟨.pointer (some ⟨q.blk,q.shift+o,none⟩),?_,.ptr h⟩
      rename_i k _
      obtain⟨k',hk⟩:∃ k',k+1+q.extra=k'+1:=⟨k+q.extra,by omega⟩
      rw [hk];rfl
    |slX l c h=>simp at hsp
   ·rename_i hsp
    cases h1 with
    |sl l c h=>simp at hsp
    |slX l c h=>exact Qcl.of (r:=.r _) ⟨_,rfl,.ptr h⟩
 case unsafeString =>
  simp only
  split<;>first|exact trivial|skip
  obtain⟨_,_,rfl,h1,h2⟩:=ha.two
  cases h2
  exact Qcl.of (Qj0 ok H h1 ty)
theorem Qty (ok:TabsOk tb) (H:MR tb.p N w0 E m w) {t:T Value} {ρ : Operand→Value} {o:Oper} (hρ : ∀ x∈o.op.operands.toList,VR E (ev t x) (ρ x)):Qcl tb N w0 E m w (opA o.op tb t m) (execOp ρ o):=by
 unfold execOp opA
 cases ho:o.op<;>simp only [ho]<;>rw [ho] at hρ <;> simp only [Op.operands] at hρ <;> try exact trivial
 case move x=>exact⟨_,rfl,.inl ⟨_,rfl,hρ x (by simp)⟩⟩
 case assign x=>exact⟨_,w,E,rfl,.inl ⟨_,rfl,hρ x (by simp)⟩,H,.refl _ _ _⟩
 case pick c a b =>
  unfold kPick Qvx
  have hc:=hρ c (by simp);have ha:=hρ a (by simp);have hb:=hρ b (by simp)
  split<;>first|exact trivial|skip
  ·rename_i h;rw [h] at hc
   generalize ρ c=c' at hc
   cases hc
   exact⟨_,by simp [asBool],.inl ⟨_,rfl,ha⟩⟩
  ·rename_i h;rw [h] at hc
   generalize ρ c=c' at hc
   cases hc
   exact⟨_,by simp [asBool],.inl ⟨_,rfl,hb⟩⟩
 case alloc e=>exact Qcl.of (Qtx ok)
 case box e x=>exact Qcl.of (Qze (hρ x (by simp)))
 case build ty ps =>
  have hp:(ps.map fun (i,x)=>(i,ρ x))=⟨ps.toList.map fun (i,x)=>(i,ρ x)⟩:=by apply Array.ext';simp
  rw [hp]
  exact Qcl.of (Qcw.ofR fun v h=>Qxa ok (Qur (ρ := ρ) (by simpa using hρ)) h)
 case buildSlice ty n ps =>
  have hp:(ps.map fun (i,x)=>(i,ρ x))=⟨ps.toList.map fun (i,x)=>(i,ρ x)⟩:=by apply Array.ext';simp
  rw [hp]
  exact Qcl.of (Qlz ok (Qur (ρ := ρ) (by simpa using hρ)))
 case load ty a =>
  unfold Jat Qdz
  have ha:=hρ a (by simp)
  split<;>first|exact trivial|skip
  rename_i h;rw [h] at ha
  generalize ρ a=a' at ha
  cases ha with
  |ptr hE =>
   refine Qcl.of (Qcw.ofR fun v hv=>?_)
   obtain⟨v',q1,q2⟩:=Qrv ok H hE hv
   exact⟨v',by simpa [Instr.loadAt,Instr.sureAddr] using q1,q2⟩
 case store ty a x=>exact Qcl.ofU (Qtw ok H (hρ a (by simp)) (hρ x (by simp)))
 case nilCheck x=>exact Qol (x' := ρ x) (hρ x (by simp))
 case binOp op ty x y yt=>exact Qcl.of (Qcw.ofR fun v h=>let ⟨q1,q2⟩:=run_binA ok H (hρ x (by simp)) (hρ y (by simp)) h; ⟨v,q1,q2⟩)
 case unOp op ty x =>
  refine Qcl.of (Qcw.ofR fun v h=>?_)
  have hx:=hρ x (by simp)
  have hflat : ρ x=ev t x∧VR E v v:=by
   unfold unA at h
   split at h
   ·rename_i hh;rw [hh] at hx;rw [hh]
    generalize ρ x=x' at hx
    cases hx
    simp only [Kaj] at h;subst h
    exact⟨rfl,by rw [Qa3];exact .int _ _⟩
   ·rename_i hh;rw [hh] at hx;rw [hh]
    generalize ρ x=x' at hx
    cases hx
    obtain⟨n,_,rfl⟩:=Qid h
    exact⟨rfl,.int _ _⟩
   ·rename_i hh;rw [hh] at hx;rw [hh]
    generalize ρ x=x' at hx
    cases hx
    simp only [Kaj] at h;subst h
    exact⟨rfl,.bool _⟩
   ·simp at h
  rw [hflat.1]
  exact⟨v,run_unA h,hflat.2⟩
 case convert s d x=>exact Qcl.of (Qw3 ok H (hρ x (by simp)))
 case makeInterface ty x =>
  unfold Qgl Qj5
  split<;>first|exact trivial|skip
  rename_i i hi
  split<;>first|exact trivial|skip
  rename_i hd
  refine Qcl.of (r:=.r _) ⟨.iface ty (ρ x),?_,.iface _ (hρ x (by simp))⟩
  unfold Instr.makeInterface
  simp only [Sem.run_bind,Qap ok hi,Result.andThen_ok]
  rfl
 case makeFunc fn f c =>
  unfold Qnj
  split<;>first|exact trivial|skip
  rename_i hy
  have h1:f.map ρ = ⟨f.toList.map ρ⟩:=by apply Array.ext';simp
  have h2:c.map ρ = ⟨c.toList.map ρ⟩:=by apply Array.ext';simp
  rw [h1,h2]
  exact Qcl.of (r:=.r _) ⟨_,rfl,.func (fun l=>hy l) (Qlf fun x hx=>hρ x (by simp at hx ⊢;exact .inl hx)) (Qlf fun x hx=>hρ x (by simp at hx ⊢;exact .inr hx))⟩
 case makeMap ty r=>exact Qcl.of (Qp8 (Qqw fun x hx=>hρ x (by rw [hx];simp)))
 case makeSlice ty l c=>exact Qcl.of (Qm1 ok (hρ l (by simp)) (hρ c (by simp)))
 case slice ty x lo hi mx=>exact Qcl.of (Qcw.ofR fun v h=>Qw1 ok H (hρ x (by simp)) (Qqw fun y hy=>hρ y (by rw [hy];simp)) (Qqw fun y hy=>hρ y (by rw [hy];simp)) (Qqw fun y hy=>hρ y (by rw [hy];simp)) h)
 case sliceToArrayPointer arr x=>exact Qcl.of (Qzd ok (hρ x (by simp)))
 case fieldAddr ty x f=>exact Qcl.of (Qcw.ofR fun v h=>Qon ok (hρ x (by simp)) h)
 case field ty x f=>exact Qcl.of (Qcw.ofR fun v h=>Qw5 ok (hρ x (by simp)) h)
 case indexAddr ty x i=>exact Qcl.of (Qcw.ofR fun v h=>Qom ok (hρ x (by simp)) (hρ i (by simp)) h)
 case index ty x i=>exact Qcl.of (Qcw.ofR fun v h=>Qw4 ok (hρ x (by simp)) (hρ i (by simp)) h)
 case lookup ty x k cok=>exact Qcl.of (Qcw.ofR fun v h=>Qt1 ok H (hρ x (by simp)) (hρ k (by simp)) h)
 case mapUpdate ty a k x=>exact Qcl.ofU (Qly.of fun m' h=>Qi6 ok H (hρ a (by simp)) (hρ k (by simp)) (hρ x (by simp)) h)
 case insert ty a k x=>exact Qcl.ofU (Qly.of fun m' h=>Qi6 ok H (hρ a (by simp)) (hρ k (by simp)) (hρ x (by simp)) h)
 case mapEntry ty a k=>exact Qcl.of (Qcw.ofE fun v m' h=>Qqa ok H (hρ a (by simp)) (hρ k (by simp)) h)
 case entryStore ty a s x=>exact Qcl.ofU (Qly.of fun m' h=>Qm3 ok H (hρ a (by simp)) (hρ s (by simp)) (hρ x (by simp)) h)
 case range ty x=>exact Qcl.of (Qcw.ofE fun v m' h=>Qw2 ok H (hρ x (by simp)) h)
 case next it s=>exact Qcl.of (Qcw.ofE fun v m' h=>Qzf H (hρ it (by simp)) h _)
 case entry it=>exact Qcl.of (Qcw.ofR fun v h=>Qw7 ok H (hρ it (by simp)) h)
 case typeAssert x xt a cok=>exact Qcl.of (Qcw.ofR fun v h=>Qmz ok (hρ x (by simp)) h)
 case extract x i =>
  unfold Qqm Qd0
  have hx:=hρ x (by simp)
  split<;>first|exact trivial|skip
  rename_i vs h;rw [h] at hx
  generalize ρ x=x' at hx
  cases hx with
  |tuple hx =>
   refine Qcl.of (Qcw.ofR fun v hv=>?_)
   obtain⟨v',q1,q2⟩:=hx.get i v hv
   refine⟨v',?_,q2⟩
   rename_i a'
   have:(⟨a'⟩:Array Value)[i]? = some v':=by simpa using q1
   simp [Instr.extract,this]
 case call c =>
  unfold Jav Qr7
  obtain⟨cl,⟨args⟩,⟨tys⟩⟩:=c
  cases cl with
  |builtin b =>
   simp only
   have ha:VRs E (evs t args) (args.map ρ):=Qlf fun x hx=>hρ x (by simp [Call.operands];exact hx)
   have hm:(⟨args⟩:Array Operand).map ρ = ⟨args.map ρ⟩:=by apply Array.ext';simp
   have:=Qp9 ok H (b:=b) (tys:=tys) (ty:=o.type) (cs:=(⟨args⟩:Array Operand).map fun | .const _=>true|_=>false) ha
   rw [← hm] at this
   exact this
  |_=>exact trivial
end
end Go.Ev

namespace Go.Ev
open Go.RowKit
def Qhc (G:Nat) (E:Env):Prop:=∀ g,g<G→E g=some ⟨g,0,0⟩
theorem Qfw {G:Nat} {E:Env} (HG:Qhc G E) {X:Nat→Prop} {t:T Value} {nt:Nat} {fr:Frame} (HS:TRx E X t nt fr.tmps):∀ {x:Operand},Qib G x=true→(∀ d,x=.tmp d→¬ X d)→VR E (ev t x) (fr.eval x)
 | .tmp d,_,hd=>HS.2 d (hd d rfl)
 | .const v,h,_=>Qkj h
 | .global g,h,_=>by
   have hg:=HG g (by simpa [Qib,Nat.blt_eq] using h)
   have:=VR.ptr (E:=E) (b:=g) (o:=0) hg
   simpa [ev,Frame.eval] using this
 | .func f,_,_=>.func (f:=[]) (f':=[]) (c:=[]) (c':=[]) (fun l=>by simp) .nil .nil
theorem VR.bool_inv {E:Env} {v:Value} {b:Bool} (h:VR E v (.bool b)):v=.bool b:=by cases h;rfl
theorem Qku {E:Env} {ops:Array Oper} {o:Oper} {t:T Value} {tm:Array Value} (hs:∀ d,Qgk ops o d→VR E (ev t (.tmp d)) (tm.getD d undef)):Region.wanted o (yielded ops tm)=Qbh t ops o.guard:=by
 unfold Region.wanted
 cases hg:o.guard with
 |none=>rfl
 |some g =>
  obtain⟨j,wn⟩:=g
  simp only
  have key:(yielded ops tm j=some wn)↔Qbh t ops (some (j,wn))=true:=by
   rw [Qfq]
   constructor
   ·intro h
    unfold yielded at h
    split at h<;>first|(simp at h;done)|skip
    rename_i b hb
    simp only [Kaj] at h;subst h
    cases hj:ops[j]? with
    |none=>rw [hj] at hb;simp at hb
    |some oj =>
     rw [hj] at hb
     simp only [Option.bind_some] at hb
     cases hd:oj.dst with
     |none=>rw [hd] at hb;simp at hb
     |some d =>
      rw [hd] at hb
      simp only [Option.bind_some] at hb
      have hj':ops.toList[j]? = some oj:=by simpa using hj
      refine⟨oj,d,hj',hd,?_⟩
      have:=hs d (.inr ⟨j,b,oj,hg,hj',hd⟩)
      rw [Array.getD_eq_getD_getElem?,hb,Option.getD_some] at this
      exact this.bool_inv
   ·rintro⟨oj,d,h1,h2,h3⟩
    have:=hs d (.inr ⟨j,wn,oj,hg,h1,h2⟩)
    rw [h3] at this
    have hj:ops[j]? = some oj:=by simpa using h1
    unfold yielded
    rw [hj]
    simp only [Option.bind_some,h2]
    rw [Array.getD_eq_getD_getElem?] at this
    cases hq:tm[d]? with
    |none=>rw [hq,Option.getD_none] at this;cases this
    |some q=>rw [hq,Option.getD_some] at this;cases this;rfl
  cases h1:Qbh t ops (some (j,wn)) with
  |true=>rw [key.2 h1];simp
  |false =>
   have:yielded ops tm j≠some wn:=fun h=>by rw [key.1 h] at h1;simp at h1
   simpa using this
def lagX (hist:List Hist) (sched:List Nat) (x:Nat):Prop:=∃ h∈hist,h.i∈sched∧h.o.dst=some x
theorem Qo7 {hist:List Hist} (h:(hist.map (·.i)).Nodup) {a b:Hist} (ha:a∈hist) (hb:b∈hist) (e:a.i=b.i):a=b:=by
 induction hist with
 |nil=>simp at ha
 |cons x l ih =>
  rw [List.map_cons,List.nodup_cons] at h
  rcases List.mem_cons.1 ha with ea|ma
  ·rcases List.mem_cons.1 hb with eb|mb
   ·rw [ea,eb]
   ·exact absurd (List.mem_map.2 ⟨b,mb,by rw [← e,ea]⟩) h.1
  ·rcases List.mem_cons.1 hb with eb|mb
   ·exact absurd (List.mem_map.2 ⟨a,ma,by rw [e,eb]⟩) h.1
   ·exact ih h.2 ma mb
section
variable {tb:Tabs} {N G:Nat} {w0:World} {E:Env} {m:Mem} {w:World} {lo:Nat} {ops:Array Oper} {t:T Value} {nt:Nat} {rem:List (Nat × Oper)} {hist:List Hist} {mask:Nat} {sched:List Nat} {x:Nat} {fr:Frame} {cs:List Frame} {k:List Item}
theorem Qf1 {v:Value} {o:Oper} (ht:fr.todo=.inRegion ops (x::sched)::k) (ho:ops[x]? = some o) :
  fr.finish v = { fr with tmps:=(match o.dst with|some d=>fr.tmps.setIfInBounds d v|none=>fr.tmps),todo:=.inRegion ops sched::k }:=by
 obtain⟨fn,tmps,todo,defers,mode,kind,ro⟩:=fr
 simp only at ht;subst ht
 simp only [Frame.finish,ho,Option.bind_some]
 cases o.dst<;>rfl
theorem lag_step (ok:TabsOk tb) (HM:MR tb.p N w0 E m w) (HG:Qhc G E) (HD:DrI tb E m lo m.next ops t nt false rem hist mask (x::sched)) (HS:TRx E (lagX hist (x::sched)) t nt fr.tmps) (hx:∀ z∈rem,z.1≠x)
  (hm:fr.mode=.run) (ht:fr.todo=.inRegion ops (x::sched)::k) (hops:∀ o∈ops.toList,opOk G o=true) :
  ∃ tm w' E',step tb.p (lone fr cs w)=.next (lone { fr with tmps:=tm,todo:=.inRegion ops sched::k } cs w')∧MR tb.p N w0 E' m w'∧MExt lo E m E' m∧DrI tb E' m lo m.next ops t nt false rem hist mask sched∧TRx E' (lagX hist sched) t nt tm:=by
 obtain⟨h,hh,rfl⟩:∃ h∈hist,h.i=x:=by
  rcases HD.all x (by simp) with ⟨z,hz,e⟩|h
  ·exact absurd e (hx z hz)
  ·exact h
 have hol:=HD.histOps h hh
 have ho:ops[h.i]? = some h.o:=by simpa using hol
 have hnx:h.i∉sched:=HD.valid.1
 obtain⟨hf1,hf2⟩:=HD.fact h hh (by simp)
 have hnow:=HD.now rfl h hh (by simp)
 have hread:∀ d,Qgk ops h.o d→¬ lagX hist (h.i::sched) d:=by
  rintro d hr ⟨g,hg,gi,gd⟩
  by_cases e:g.i=h.i
  ·obtain rfl:=Qo7 HD.histNd hg hh e
   exact HD.own g hg d gd hr
  ·obtain⟨ed,he,h1,h2⟩:=Qej (HD.deps h hh g hg e d gd hr)
   exact HD.valid.2.1 h.o hol ed he h2 (by rw [h1];exact gi)
 have hw:Region.wanted h.o (yielded ops fr.tmps)=Qbh t ops h.o.guard:=Qku (E:=E) fun d hr=>HS.2 d (hread d hr)
 have hρ : ∀ y∈h.o.op.operands.toList,VR E (ev t y) (fr.eval y):=fun y hy =>
  Qfw HG HS (List.all_eq_true.1 (hops h.o (List.mem_of_getElem? hol)) y hy) fun d e=>hread d (.inl (by rw [← e];exact hy))
 have hop:=Qty (o:=h.o) ok HM hρ
 have slots:∀ {E':Env} {v':Value},Env.le E E'→VR E' h.v v'→TRx E' (lagX hist sched) t nt (match h.o.dst with|some d=>fr.tmps.setIfInBounds d v'|none=>fr.tmps):=by
  intro E' v' hle hv
  have hold:∀ y,¬ lagX hist sched y→h.o.dst≠some y→VR E' (ev t (.tmp y)) (fr.tmps.getD y undef):=by
   intro y hy hne
   refine (HS.2 y ?_).mono hle
   rintro⟨g,hg,gi,gd⟩
   rcases List.mem_cons.1 gi with gi|gi
   ·obtain rfl:=Qo7 HD.histNd hg hh gi
    exact hne gd
   ·exact hy ⟨g,hg,gi,gd⟩
  cases hd:h.o.dst with
  |none=>exact⟨HS.1,fun y hy=>hold y hy (by rw [hd];simp)⟩
  |some d =>
   refine⟨by simp [HS.1],fun y hy=>?_⟩
   simp only [Array.getD_eq_getD_getElem?,Array.getElem?_setIfInBounds]
   by_cases e:d=y
   ·subst e
    obtain⟨e1,e2⟩:=hf1 d hd
    rw [if_pos rfl,if_pos (by rw [HS.1];exact e2),e1]
    exact hv
   ·rw [if_neg e]
    have:=hold y hy (by rw [hd];simpa using e)
    rw [Array.getD_eq_getD_getElem?] at this
    exact this
 have next:∀ {E':Env},(∀ b,E b=none→(∀ g∈hist,g.k=.f b→g.i∈sched→E' b=none))→DrI tb E' m lo m.next ops t nt false rem hist mask sched:=by
  intro E' hE'
  refine⟨HD.valid.2.2,HD.remOps,fun z hz=>?_,HD.remNd,HD.histOps,HD.histNd,HD.apart,fun j hj=>HD.all j (List.mem_cons_of_mem _ hj),fun g hg gi=>?_,fun _ g hg gi=>HD.now rfl g hg (List.mem_cons_of_mem _ gi),HD.deps,HD.names,HD.ids,HD.idlt,HD.own⟩
  ·rcases List.mem_cons.1 (HD.remIn z hz) with e|e
   ·exact absurd e (hx z hz)
   ·exact e
  ·obtain⟨q1,q2⟩:=HD.fact g hg (List.mem_cons_of_mem _ gi)
   refine⟨q1,?_⟩
   cases hk:g.k with
   |s=>rw [hk] at q2;exact q2
   |r=>rw [hk] at q2;exact q2
   |f b =>
    rw [hk] at q2
    obtain⟨a1,a2,a3,a4,a5,a6⟩:=q2
    exact⟨a1,a2,a3,a4,hE' b a5 g hg hk gi,a6⟩
 cases hk:h.k with
 |s =>
  rw [hk] at hf2
  obtain⟨f1,f2⟩:=hf2
  refine⟨_,w,E,?_,HM,.refl _ _ _,next fun b hb _ _ _ _=>hb,slots (v':=undef) (.refl E) (by rw [f2];exact .undef E)⟩
  rw [Qy6 hm ht (by rw [ho];simp only [Option.map_some,Option.getD_some];rw [hw,f1]),Qf1 ht ho]
 |r =>
  rw [hk] at hf2
  unfold HNow at hnow;rw [hk] at hnow;simp only at hnow
  rw [hnow] at hop
  obtain⟨nx,q1,q2⟩:=hop
  have hdf:fr.roundOf=none∨∀ c,h.o.op≠.defer c:=.inr fun c e=>by rw [e] at hnow;simp [opA,kC] at hnow
  have hg:=Qjy (cs:=cs) (w:=w) (P:=tb.p) hm ht ho (by rw [hw];exact hf2.1) hdf
  rcases q2 with ⟨v',rfl,hv⟩|⟨rfl,hv⟩
  ·refine⟨_,w,E,?_,HM,.refl _ _ _,next fun b hb _ _ _ _=>hb,slots (.refl E) hv⟩
   rw [Qb2 q1 (.inl rfl) hg,Qf1 ht ho]
  ·refine⟨_,w,E,?_,HM,.refl _ _ _,next fun b hb _ _ _ _=>hb,slots (v':=undef) (.refl E) (by rw [hv];exact .undef E)⟩
   rw [Qb2 q1 (.inr ⟨rfl,rfl⟩) hg,Qf1 ht ho]
 |f b =>
  rw [hk] at hf2
  obtain⟨f1,f2,f3,f4,f5,ob,mk,f6,f7,f8⟩:=hf2
  rw [f6 m] at hop
  obtain⟨v',w',o',sh,ex,q1,q2,q3,q4,q5,q6,q7,q8⟩:=hop b f5
  have hdf:fr.roundOf=none∨∀ c,h.o.op≠.defer c:=.inr fun c e=>by have:=f6 m;rw [e] at this;simp [opA,kC] at this
  have hg:=Qjy (cs:=cs) (w:=w) (P:=tb.p) hm ht ho (by rw [hw];exact f1) hdf
  refine⟨_,w',_,?_,HM.mat f5 f8 f4 q8 q2 q3 q4 q5 q6,MExt.mat f5 f3,next ?_,slots (Env.add_le f5) (by rw [f7];exact q7)⟩
  ·rw [Qb2 q1 (.inl rfl) hg,Qf1 ht ho]
  ·intro b' hb' g hg gk gi
   simp only [Env.add]
   rw [if_neg]
   ·exact hb'
   ·intro e;subst e
    have:=HD.ids h hh g hg b' hk gk
    rw [← this] at gi
    exact hnx gi
end
end Go.Ev

namespace Go.Ev
open Go.RowKit
theorem Qgs {f:Value→Value→Bool} (hf:∀ a b,f a b=true→a=b):∀ {l k:List Value},l.length=k.length→((l.zip k).all fun (x,y)=>f x y)=true→l=k
 | [],[],_,_=>rfl
 |x::l,y::k,hl,h=>by
  simp only [List.zip_cons_cons,List.all_cons,Kba] at h
  rw [hf _ _ h.1,Qgs hf (by simpa using hl) h.2]
 | [],y::k,hl,_=>by simp at hl
 |x::l,[],hl,_=>by simp at hl
theorem Qs9 {a b:Array Value} (h:a.toList=b.toList):a=b:=by
 obtain⟨a⟩:=a;obtain⟨b⟩:=b;simp only at h;rw [h]
theorem Qy8 {a b:Option Nat} (h:(match a,b with|none,none=>true|some x,some y=>Nat.beq x y|_,_=>false)=true):a=b:=by
 cases a<;>cases b<;>simp only at h<;>first|rfl|(simp at h;done)|(rw [Knq h])
theorem Qli:∀ (n:Nat) (a b:Value),vEq n a b=true→a=b
 |0,a,b,h=>by simp [vEq] at h
 |n+1,a,b,h=>by
  unfold vEq at h
  split at h
  ·rename_i hn;simp at hn
  ·rename_i hn;simp at h;rw [h]
  ·simp only [Kba,Qeg,beq_iff_eq] at h
   rw [Qmg h.1,h.2]
  ·rename_i a b _
   rw [Qc7] at h
   have:a.data.toList=b.data.toList:=by simpa using h
   obtain⟨⟨a⟩⟩:=a;obtain⟨⟨b⟩⟩:=b;simp only at this;rw [this]
  ·rfl
  ·rename_i a b _
   obtain⟨a1,a2,a3⟩:=a;obtain⟨b1,b2,b3⟩:=b
   simp only [Kba] at h
   obtain⟨⟨h1,h2⟩,h3⟩:=h
   rw [Knq h1,Knq h2,Qy8 h3]
  ·simp only [Kba] at h
   rw [Knq h.1,Knq h.2]
  ·rename_i a _ _ b _ _ _
   obtain⟨a1,a2,a3⟩:=a;obtain⟨b1,b2,b3⟩:=b
   simp only [Kba] at h
   obtain⟨⟨⟨⟨h1,h2⟩,h3⟩,h4⟩,h5⟩:=h
   rw [Knq h1,Knq h2,Qy8 h3,Knq h4,Knq h5]
  ·rfl
  ·rw [Knq h]
  ·rfl
  ·rfl
  ·rename_i d _ _ _ _ hn
   obtain rfl:n=d:=by simpa using hn
   simp only [Kba] at h
   rw [Knq h.1,Qli n _ _ h.2]
  ·rename_i d _ _ hn
   obtain rfl:n=d:=by simpa using hn
   simp only [Kba] at h
   rw [Qs9 (Qgs (Qli n) (Knq h.1) h.2)]
  ·rename_i d _ _ _ _ _ _ hn
   obtain rfl:n=d:=by simpa using hn
   simp only [Kba] at h
   obtain⟨⟨⟨⟨h1,h2⟩,h3⟩,h4⟩,h5⟩:=h
   rw [Knq h1,Qs9 (Qgs (Qli n) (Knq h2) h4),Qs9 (Qgs (Qli n) (Knq h3) h5)]
  ·rename_i d _ _ hn
   obtain rfl:n=d:=by simpa using hn
   simp only [Kba] at h
   rw [Qs9 (Qgs (Qli n) (Knq h.1) h.2)]
  ·simp at h
theorem Qtr:∀ {l k:List Value},vEqL l k=true→l=k
 | [],[],_=>rfl
 |x::l,y::k,h=>by
  simp only [vEqL] at h
  split at h
  ·rename_i h1;rw [Qli _ _ _ h1,Qtr h]
  ·simp at h
 | [],y::k,h=>by simp [vEqL] at h
 |x::l,[],h=>by simp [vEqL] at h
theorem Qqv {t t':T Value}:∀ {l:List Operand},evs t l=evs t' l→∀ x∈l,ev t x=ev t' x
 | [],_,x,hx=>by simp at hx
 |y::l,h,x,hx=>by
  simp only [evs,List.cons.injEq] at h
  rcases List.mem_cons.1 hx with e|hx
  ·rw [e];exact h.1
  ·exact Qqv h.2 x hx
section
variable {tb:Tabs} {ops:Array Oper} {t:T Value} {m:Mem}
theorem Qh5 {after:List Edge}:∀ {l:List Hist},Qh6 tb ops t m after l=true→∀ h∈l,Qct h.i after=true∨Qoa tb ops t m h=true
 | [],_,h,hm=>by simp at hm
 |g::l,hk,h,hm=>by
  simp only [Qh6] at hk
  split at hk
  ·rename_i he
   rcases List.mem_cons.1 hm with e|hm
   ·rw [e];exact .inl he
   ·exact Qh5 hk h hm
  ·split at hk
   ·rename_i he
    rcases List.mem_cons.1 hm with e|hm
    ·rw [e];exact .inr he
    ·exact Qh5 hk h hm
   ·simp at hk
theorem Qn9 {h:Hist} (hc:Qoa tb ops t m h=true):(∀ d,h.o.dst=some d→ev t (.tmp d)=h.v) ∧
  match h.k with
  | .s=>Qbh t ops h.o.guard=false
  | .f _=>Qbh t ops h.o.guard=true∧evs t h.o.op.operands.toList=h.vs
  | .r=>Qbh t ops h.o.guard=true∧evs t h.o.op.operands.toList=h.vs∧(Qln h.o.op=true∨opA h.o.op tb t m=.r h.v):=by
 unfold Qoa at hc
 split at hc<;>first|(simp at hc;done)|skip
 rename_i h1
 refine⟨fun d hd=>?_,?_⟩
 ·rw [hd] at h1;exact Qli _ _ _ h1
 ·cases hk:h.k with
  |s=>rw [hk] at hc;simpa using hc
  |f b =>
   rw [hk] at hc
   simp only [Kba] at hc
   exact⟨hc.1,Qtr hc.2⟩
  |r =>
   rw [hk] at hc
   simp only at hc
   split at hc<;>first|(simp at hc;done)|skip
   rename_i h2
   rw [Kba] at h2
   refine⟨h2.1,Qtr h2.2,?_⟩
   split at hc
   ·rename_i h3;exact .inl h3
   ·split at hc
    ·rename_i w hw;rw [Qli _ _ _ hc];exact .inr hw
    ·simp at hc
end
section
variable {tb:Tabs} {N G:Nat} {w0:World} {lo:Nat} {ops:Array Oper} {t:T Value} {nt:Nat} {rem:List (Nat × Oper)} {hist:List Hist} {mask:Nat} {m:Mem} {cs:List Frame} {k:List Item}
theorem Qwe (ok:TabsOk tb) (hops:∀ o∈ops.toList,opOk G o=true) (hrem:∀ i o l,rem=(i,o)::l→Qrd [i] l=true):∀ (sched:List Nat) (E:Env) (w:World) (fr:Frame),MR tb.p N w0 E m w→Qhc G E→DrI tb E m lo m.next ops t nt false rem hist mask sched →
  TRx E (lagX hist sched) t nt fr.tmps→fr.mode=.run→fr.todo=.inRegion ops sched::k →
  ∃ sched' tm w' E',Steps tb.p (lone fr cs w) (lone { fr with tmps:=tm,todo:=.inRegion ops sched'::k } cs w')∧MR tb.p N w0 E' m w'∧MExt lo E m E' m∧DrI tb E' m lo m.next ops t nt false rem hist mask sched'∧TRx E' (lagX hist sched') t nt tm ∧
    (rem=[]→sched'=[])∧∀ i o l,rem=(i,o)::l→∃ rest,sched'=i::rest
 | [],E,w,fr,HM,HG,HD,HS,hm,ht=>by
   refine⟨[],fr.tmps,w,E,?_,HM,.refl _ _ _,HD,HS,fun _=>rfl,fun i o l e=>?_⟩
   ·have:({ fr with tmps:=fr.tmps,todo:=.inRegion ops []::k }:Frame)=fr:=by obtain⟨fn,tmps,todo,defers,mode,kind,ro⟩:=fr;simp only at ht;rw [ht]
    rw [this];exact .refl _ _
   ·have:=HD.remIn (i,o) (by rw [e];simp);simp at this
 |x::s,E,w,fr,HM,HG,HD,HS,hm,ht=>by
  by_cases hx:∀ z∈rem,z.1≠x
  ·obtain⟨tm,w1,E1,h1,h2,h3,h4,h5⟩:=lag_step (cs:=cs) (k:=k) ok HM HG HD HS hx hm ht hops
   obtain⟨s',tm',w2,E2,g1,g2,g3,g4,g5,g6,g7⟩:=Qwe ok hops hrem s E1 w1 { fr with tmps:=tm,todo:=.inRegion ops s::k } h2 (fun g hg=>h3.le _ _ (HG g hg)) h4 h5 hm rfl
   exact⟨s',tm',w2,E2,.head h1 g1,g2,h3.trans g3,g4,g5,g6,g7⟩
  ·refine⟨x::s,fr.tmps,w,E,?_,HM,.refl _ _ _,HD,HS,fun e=>?_,fun i o l e=>?_⟩
   ·have:({ fr with tmps:=fr.tmps,todo:=.inRegion ops (x::s)::k }:Frame)=fr:=by obtain⟨fn,tmps,todo,defers,mode,kind,ro⟩:=fr;simp only at ht;rw [ht]
    rw [this];exact .refl _ _
   ·exact absurd (by rw [e];simp) hx
   ·by_cases e2:i=x
    ·exact⟨s,by rw [e2]⟩
    ·exfalso
     apply hx
     intro z hz
     rw [e] at hz
     rcases List.mem_cons.1 hz with e3|hz
     ·rw [e3];exact e2
     ·exact Qpt HD.valid (hrem i o l e) (fun y hy=>by
       rcases List.mem_cons.1 hy with e4|hy
       ·rw [e4];exact HD.remIn (i,o) (by rw [e];simp)
       ·simp at hy) (fun z hz=>⟨HD.remIn z (by rw [e];exact List.mem_cons_of_mem _ hz),HD.remOps z (by rw [e];exact List.mem_cons_of_mem _ hz)⟩) z hz
theorem DrI.write {E:Env} {i:Nat} {o:Oper} {l:List (Nat × Oper)} {rest:List Nat} {hi hi':Nat} {t':T Value} {v:Value} (H:DrI tb E m lo hi ops t nt true ((i,o)::l) hist mask (i::rest)) (hp:putT t nt o.dst v=some t') (hc:Qh6 tb ops t' m o.after.toList hist=true) (hh:hi≤hi') :
  DrI tb E m lo hi' ops t' nt false l hist mask rest:=by
 have hnd:=H.remNd
 rw [List.map_cons,List.nodup_cons] at hnd
 have hoi:ops.toList[i]? = some o:=H.remOps (i,o) (by simp)
 have hck:∀ h∈hist,h.i∈rest→Qoa tb ops t' m h=true:=by
  intro h hm hs
  rcases Qh5 hc h hm with he|he
  ·obtain⟨e,h1,h2,h3⟩:=Qej he
   exact absurd (by rw [h2];exact List.mem_cons_of_mem _ hs) (H.valid.2.1 o hoi e h1 h3)
  ·exact he
 refine⟨H.valid.2.2,fun z hz=>H.remOps z (List.mem_cons_of_mem _ hz),fun z hz=>?_,hnd.2,H.histOps,H.histNd,fun h hm z hz=>H.apart h hm z (List.mem_cons_of_mem _ hz),fun j hj=>?_,fun h hm hs=>?_,fun _ h hm hs=>?_,H.deps,H.names,H.ids,fun h hm b hk=>?_,H.own⟩
 ·rcases List.mem_cons.1 (H.remIn z (List.mem_cons_of_mem _ hz)) with e|e
  ·exact absurd (by rw [← e];exact List.mem_map.2 ⟨z,hz,rfl⟩) hnd.1
  ·exact e
 ·rcases H.all j (List.mem_cons_of_mem _ hj) with ⟨z,hz,e⟩|h
  ·rcases List.mem_cons.1 hz with e2|hz
   ·rw [e2] at e;simp only at e;subst e;exact absurd hj H.valid.1
   ·exact .inl ⟨z,hz,e⟩
  ·exact .inr h
 ·obtain⟨c1,c2⟩:=Qn9 (hck h hm hs)
  obtain⟨f1,f2⟩:=H.fact h hm (List.mem_cons_of_mem _ hs)
  refine⟨fun d hd=>⟨c1 d hd,(f1 d hd).2⟩,?_⟩
  cases hk:h.k with
  |s=>rw [hk] at c2 f2;exact⟨c2,f2.2⟩
  |r =>
   rw [hk] at c2 f2
   have hev:=Qqv (f2.2.1.trans c2.2.1.symm)
   exact⟨c2.1,c2.2.1,fun hp m=>by rw [← Qic hev];exact f2.2.2 hp m⟩
  |f b =>
   rw [hk] at c2 f2
   obtain⟨a1,a2,a3,a4,a5,ob,mk,a6,a7,a8⟩:=f2
   have hev:=Qqv (a2.trans c2.2.symm)
   exact⟨c2.1,c2.2,a3,by omega,a5,ob,mk,fun m=>by rw [← Qic hev];exact a6 m,a7,a8⟩
 ·obtain⟨c1,c2⟩:=Qn9 (hck h hm hs)
  obtain⟨f1,f2⟩:=H.fact h hm (List.mem_cons_of_mem _ hs)
  unfold HNow
  cases hk:h.k with
  |r =>
   rw [hk] at c2 f2
   simp only
   rcases c2.2.2 with hp|hp
   ·have hev:=Qqv (f2.2.1.trans c2.2.1.symm)
    rw [← Qic hev];exact f2.2.2 hp m
   ·exact hp
  |_=>trivial
 ·have:=H.idlt h hm b hk;omega
theorem DrI.wait {E E':Env} {m':Mem} {hi:Nat} {sched:List Nat} {b:Bool} (H:DrI tb E m lo hi ops t nt b rem hist mask sched) (hx:MExt hi E m E' m'):DrI tb E' m' lo hi ops t nt true rem hist mask sched :=
 ⟨H.valid,H.remOps,H.remIn,H.remNd,H.histOps,H.histNd,H.apart,H.all,fun h hm hs=>by
  obtain⟨f1,f2⟩:=H.fact h hm hs
  refine⟨f1,?_⟩
  cases hk:h.k with
  |s=>rw [hk] at f2;exact f2
  |r=>rw [hk] at f2;exact f2
  |f b =>
   rw [hk] at f2
   obtain⟨a1,a2,a3,a4,a5,ob,mk,a6,a7,a8⟩:=f2
   obtain⟨e1,e2⟩:=hx.pend b a4 a5
   exact⟨a1,a2,a3,a4,e1,ob,mk,a6,a7,by rw [e2];exact a8⟩,by simp,H.deps,H.names,H.ids,H.idlt,H.own⟩
theorem Jao {E E':Env} {i:Nat} {o:Oper} {l:List (Nat × Oper)} {rest:List Nat} {hi:Nat} {t':T Value} {v v':Value} {b:Bool} {tm:Array Value} (H:DrI tb E m lo hi ops t nt b ((i,o)::l) hist mask (i::rest)) (hp:putT t nt o.dst v=some t') (hv:VR E' v v') (hle:Env.le E E') (HS:TRx E (lagX hist (i::rest)) t nt tm) :
  TRx E' (lagX hist rest) t' nt (match o.dst with|some d=>tm.setIfInBounds d v'|none=>tm):=by
 have hold:∀ y,¬ lagX hist rest y→VR E' (ev t (.tmp y)) (tm.getD y undef):=by
  intro y hy
  refine (HS.2 y ?_).mono hle
  rintro⟨g,hg,gi,gd⟩
  rcases List.mem_cons.1 gi with gi|gi
  ·exact H.apart g hg (i,o) (by simp) gi
  ·exact hy ⟨g,hg,gi,gd⟩
 cases hd:o.dst with
 |none=>rw [hd] at hp;rw [Qm5 hp];exact⟨HS.1,hold⟩
 |some d =>
  rw [hd] at hp
  obtain⟨h1,h2⟩:=Qg1 hp
  refine⟨by simp [HS.1],fun y hy=>?_⟩
  rw [h2,Qv6]
  simp only [Array.getD_eq_getD_getElem?,Array.getElem?_setIfInBounds]
  by_cases e:d=y
  ·subst e
   rw [if_pos rfl,if_pos rfl,if_pos (by rw [HS.1];exact h1)]
   exact hv
  ·rw [if_neg (fun h=>e h.symm),if_neg e]
   have:=hold y hy
   rw [Array.getD_eq_getD_getElem?] at this
   exact this
end
end Go.Ev

namespace Go.Ev
open Go.RowKit
theorem Qim {G:Nat}:∀ {c:Code} {l:Nat} {r:Code},Qb6 G c=true→findLabel c l=some r→Qb6 G r=true
 | .seq a b,l,r,h,hf=>by
   simp only [Qb6,Kba] at h
   simp only [findLabel] at hf
   split at hf
   ·rename_i q hq
    simp only [Kaj] at hf;subst hf
    simp only [Qb6,Kba]
    exact⟨Qim h.1 hq,h.2⟩
   ·exact Qim h.2 hf
 | .label l',l,r,h,hf=>by
   simp only [findLabel] at hf
   split at hf
   ·simp only [Kaj] at hf;subst hf;rfl
   ·simp at hf
 | .skip,_,_,_,hf=>by simp [findLabel] at hf
 | .region _ _ _,_,_,_,hf=>by simp [findLabel] at hf
 | .cond _ _ _,_,_,_,hf=>by simp [findLabel] at hf
 | .block _ _,_,_,_,hf=>by simp [findLabel] at hf
 | .loop _,_,_,_,hf=>by simp [findLabel] at hf
 | .rangeFunc _ _ _ _,_,_,_,hf=>by simp [findLabel] at hf
 | .exit _,_,_,_,hf=>by simp [findLabel] at hf
 | .scope _,_,_,_,hf=>by simp [findLabel] at hf
 | .goto _,_,_,_,hf=>by simp [findLabel] at hf
 | .ret,_,_,_,hf=>by simp [findLabel] at hf
 | .refuse _,_,_,_,hf=>by simp [findLabel] at hf
inductive ItR (E:Env) (G:Nat):AItem→Item→Prop where
 |code {c:Code} (h:Qb6 G c=true):ItR E G (.code c) (.code c)
 |inBlock (id:Nat):ItR E G (.inBlock id) (.inBlock id)
 |inLoop {b:Code} (h:Qb6 G b=true):ItR E G (.inLoop b) (.inLoop b)
 |inScope {b:Code} (h:Qb6 G b=true):ItR E G (.inScope b) (.inScope b)
 |inRangeFunc {l:Nat} {i:Info} (h:E l=some i):ItR E G (.inRangeFunc l) (.inRangeFunc i.blk)
 |endRangeFunc {l:Nat} {i:Info} (h:E l=some i):ItR E G (.endRangeFunc l) (.endRangeFunc i.blk)
 |beginRound:ItR E G .beginRound .beginRound
inductive ItsR (E:Env) (G:Nat):List AItem→List Item→Prop where
 |nil:ItsR E G [] []
 |cons {x:AItem} {x':Item} {l:List AItem} {l':List Item} (h:ItR E G x x') (t:ItsR E G l l'):ItsR E G (x::l) (x'::l')
theorem ItR.mono {E E':Env} {G:Nat} (hE:Env.le E E') {x:AItem} {x':Item} (h:ItR E G x x'):ItR E' G x x':=by
 cases h with
 |code h=>exact .code h
 |inBlock id=>exact .inBlock id
 |inLoop h=>exact .inLoop h
 |inScope h=>exact .inScope h
 |inRangeFunc h=>exact .inRangeFunc (hE _ _ h)
 |endRangeFunc h=>exact .endRangeFunc (hE _ _ h)
 |beginRound=>exact .beginRound
theorem ItsR.mono {E E':Env} {G:Nat} (hE:Env.le E E') {l:List AItem} {l':List Item} (h:ItsR E G l l'):ItsR E' G l l':=by
 induction h with
 |nil=>exact .nil
 |cons h _ ih=>exact .cons (h.mono hE) ih
inductive TodoR (tb:Tabs) (E:Env) (m:Mem) (lo hi G:Nat) (wait:Bool) (t:T Value) (nt:Nat):List AItem→List Item→(Nat→Prop)→Prop where
 |plain {k:List AItem} {k':List Item} (h:ItsR E G k k'):TodoR tb E m lo hi G wait t nt k k' (fun _=>False)
 |ops {ops:Array Oper} {n:Nat} {k:List AItem} {k':List Item} (hk:ItsR E G k k') (hok:∀ o∈ops.toList,opOk G o=true) :
   TodoR tb E m lo hi G wait t nt (.ops ops (ops.toList.drop n)::k) (.inRegion ops (List.range' n (ops.size-n))::k') (fun _=>False)
 |dr {ops:Array Oper} {rem:List (Nat × Oper)} {hist:List Hist} {mask:Nat} {sched:List Nat} {k:List AItem} {k':List Item} (hk:ItsR E G k k') (hok:∀ o∈ops.toList,opOk G o=true)
   (hd:DrI tb E m lo hi ops t nt wait rem hist mask sched) (hw:wait=true→∃ i o l rest,rem=(i,o)::l∧sched=i::rest) :
   TodoR tb E m lo hi G wait t nt (.dr ops rem hist mask::k) (.inRegion ops sched::k') (lagX hist sched)
inductive PeR (E:Env):List PanicEntry→List PanicEntry→Prop where
 |nil:PeR E [] []
 |cons {p p':PanicEntry} {l l':List PanicEntry} (hv:VR E p.v p'.v) (h1:p.recovered=p'.recovered) (h2:p.goexit=p'.goexit) (t:PeR E l l'):PeR E (p::l) (p'::l')
theorem PeR.mono {E E':Env} (hE:Env.le E E') {l l':List PanicEntry} (h:PeR E l l'):PeR E' l l':=by
 induction h with
 |nil=>exact .nil
 |cons hv h1 h2 _ ih=>exact .cons (hv.mono hE) h1 h2 ih
theorem PeR.append {E:Env} {a a' b b':List PanicEntry} (h:PeR E a a') (k:PeR E b b'):PeR E (a++b) (a'++b'):=by
 induction h with
 |nil=>exact k
 |cons hv h1 h2 _ ih=>exact .cons hv h1 h2 ih
inductive RoR (E:Env):Option Nat→Option Nat→Prop where
 |none:RoR E none none
 |some {l:Nat} {i:Info} (h:E l=some i):RoR E (some l) (some i.blk)
theorem RoR.mono {E E':Env} (hE:Env.le E E') {a b:Option Nat} (h:RoR E a b):RoR E' a b:=by
 cases h with
 |none=>exact .none
 |some h=>exact .some (hE _ _ h)
inductive FR (tb:Tabs) (E:Env) (m:Mem) (lo hi G:Nat) (wait:Bool):AFrame→Frame→Prop where
 |run {fn:FuncId} {t:T Value} {nt:Nat} {k:List AItem} {ds:List Deferred} {kind:CallKind} {ro:Option Nat} {tm:Array Value} {k':List Item} {ds':List Deferred} {ro':Option Nat} {X:Nat→Prop}
   (hf:(tb.p.funcs[fn]?).isSome=true) (ht:TodoR tb E m lo hi G wait t nt k k' X) (hs:TRx E X t nt tm) (hd:DefsR E ds ds') (hr:RoR E ro ro') (hk:kind=.normal∨kind=.deferred) :
   FR tb E m lo hi G wait ⟨fn,t,nt,k,ds,.run,kind,ro⟩ { fn,tmps:=tm,todo:=k',defers:=ds',mode:=.run,kind,roundOf:=ro' }
 |ret {fn:FuncId} {t:T Value} {nt:Nat} {k:List AItem} {ds:List Deferred} {kind:CallKind} {ro:Option Nat} {tm:Array Value} {k':List Item} {ds':List Deferred} {ro':Option Nat}
   (hf:(tb.p.funcs[fn]?).isSome=true) (hs:TR E t nt tm) (hd:DefsR E ds ds') (hr:RoR E ro ro') (hk:kind=.normal∨kind=.deferred) :
   FR tb E m lo hi G wait ⟨fn,t,nt,k,ds,.returning,kind,ro⟩ { fn,tmps:=tm,todo:=k',defers:=ds',mode:=.returning,kind,roundOf:=ro' }
 |pan {fn:FuncId} {t:T Value} {nt:Nat} {k:List AItem} {ds:List Deferred} {kind:CallKind} {ro:Option Nat} {tm:Array Value} {k':List Item} {ds':List Deferred} {ro':Option Nat} {ch ch':List PanicEntry} {X:Nat→Prop}
   (hf:(tb.p.funcs[fn]?).isSome=true) (hs:TRx E X t nt tm) (hX:isDr k=true∨∀ x,¬ X x) (hp:PeR E ch ch') (hd:DefsR E ds ds') (hr:RoR E ro ro') (hk:kind=.normal∨kind=.deferred) :
   FR tb E m lo hi G wait ⟨fn,t,nt,k,ds,.panicking ch,kind,ro⟩ { fn,tmps:=tm,todo:=k',defers:=ds',mode:=.panicking ch',kind,roundOf:=ro' }
theorem FR.wait {tb:Tabs} {E E':Env} {m m':Mem} {lo hi G:Nat} {fr:AFrame} {fr':Frame} (h:FR tb E m lo hi G true fr fr') (hx:MExt hi E m E' m'):FR tb E' m' lo hi G true fr fr':=by
 cases h with
 |run hf ht hs hd hr hk =>
  refine .run hf ?_ (hs.mono hx.le) (hd.mono hx.le) (hr.mono hx.le) hk
  cases ht with
  |plain h=>exact .plain (h.mono hx.le)
  |ops hk hok=>exact .ops (hk.mono hx.le) hok
  |dr hk hok hd hw=>exact .dr (hk.mono hx.le) hok (hd.wait hx) hw
 |ret hf hs hd hr hk=>exact .ret hf (hs.mono hx.le) (hd.mono hx.le) (hr.mono hx.le) hk
 |pan hf hs hX hp hd hr hk=>exact .pan hf (hs.mono hx.le) hX (hp.mono hx.le) (hd.mono hx.le) (hr.mono hx.le) hk
inductive CsR (tb:Tabs) (E:Env) (m:Mem) (G:Nat) (base:List Frame):Nat→List AFrame→List Frame→Prop where
 |nil (hi:Nat):CsR tb E m G base hi [] base
 |cons {hi lo:Nat} {fr:AFrame} {fr':Frame} {cs:List AFrame} {cs':List Frame} (h:FR tb E m lo hi G true fr fr') (t:CsR tb E m G base lo cs cs') (hl:lo≤hi):CsR tb E m G base hi (fr::cs) (fr'::cs')
theorem CsR.ext {tb:Tabs} {E E':Env} {m m':Mem} {G:Nat} {base:List Frame} {hi:Nat} {cs:List AFrame} {cs':List Frame} (h:CsR tb E m G base hi cs cs') (hx:MExt hi E m E' m'):CsR tb E' m' G base hi cs cs':=by
 induction h with
 |nil hi=>exact .nil hi
 |cons h _ hl ih=>exact .cons (h.wait hx) (ih (hx.lower hl)) hl
structure StR (tb:Tabs) (N G:Nat) (w0:World) (base:List Frame) (am:AM) (fr':Frame) (cs':List Frame) (w:World) (E:Env) (lo:Nat):Prop where
 mem:MR tb.p N w0 E am.mem w
 glob:Qhc G E
 top:FR tb E am.mem lo am.mem.next G false am.fr fr'
 callers:CsR tb E am.mem G base lo am.callers cs'
 lo:lo≤am.mem.next
end Go.Ev

namespace Go.Ev
open Go.RowKit
def Qmw (dst:Option Tmp) (tm:Array Value) (v:Value):Array Value:=match dst with|some d=>tm.setIfInBounds d v|none=>tm
section
variable {tb:Tabs} {E:Env} {m:Mem} {lo hi hi' G:Nat} {w:World}
theorem Qp4 {X:Nat→Prop} {t t':T Value} {nt:Nat} {tm:Array Value} {dst:Option Tmp} {v v':Value} (HS:TRx E X t nt tm) (hp:putT t nt dst v=some t') (hv:VR E v v'):TRx E X t' nt (Qmw dst tm v'):=by
 cases dst with
 |none=>rw [Qm5 hp];exact HS
 |some d =>
  obtain⟨h1,h2⟩:=Qg1 hp
  refine⟨by simp [Qmw,HS.1],fun y hy=>?_⟩
  rw [h2,Qv6]
  simp only [Qmw,Array.getD_eq_getD_getElem?,Array.getElem?_setIfInBounds]
  by_cases e:d=y
  ·subst e
   rw [if_pos rfl,if_pos rfl,if_pos (by rw [HS.1];exact h1)]
   exact hv
  ·rw [if_neg (fun h=>e h.symm),if_neg e]
   have:=HS.2 y hy
   rw [Array.getD_eq_getD_getElem?] at this
   exact this
theorem Qny {α : Type} {l:List α} {n:Nat} {x : α} {r:List α} (h:l.drop n=x::r):l[n]? = some x∧r=l.drop (n+1)∧n<l.length:=by
 have h1:(l.drop n)[0]? = some x:=by rw [h];rfl
 rw [List.getElem?_drop,Nat.add_zero] at h1
 refine⟨h1,?_,(Kgs.1 h1).1⟩
 have:=congrArg List.tail h
 simp only [List.tail_cons,List.tail_drop] at this
 exact this.symm
theorem FR.finish {fr fr1:AFrame} {fr':Frame} {v v':Value} (h:FR tb E m lo hi G true fr fr') (hh:hi≤hi') (hv:VR E v v') (hf:Qbn tb fr v m=some fr1):FR tb E m lo hi' G false fr1 (fr'.finish v'):=by
 cases h with
 |ret=>simp [Qbn] at hf
 |pan=>simp [Qbn] at hf
 |run hfn ht hs hd hr hk =>
  cases ht with
  |plain hks =>
   cases hks with
   |nil=>simp [Qbn] at hf
   |cons hx hks =>
    cases hx<;>simp only [Qbn] at hf<;>first|(simp at hf;done)|skip
    ·rename_i hE
     simp only [Kaj] at hf;subst hf
     exact .run hfn (.plain (.cons (.endRangeFunc hE) hks)) hs hd hr hk
    ·simp only [Kaj] at hf;subst hf
     exact .run hfn (.plain hks) hs hd hr hk
  | @ops ops n k k' hks hok =>
    simp only [Qbn] at hf
    split at hf<;>first|(simp at hf;done)|skip
    rename_i o l hl
    split at hf<;>first|(simp at hf;done)|skip
    rename_i t' hp
    simp only [Kaj] at hf;subst hf
    obtain⟨h1,h2,h3⟩:=Qny hl
    have h3':n<ops.size:=by simpa using h3
    have hr':List.range' n (ops.size-n)=n::List.range' (n+1) (ops.size-(n+1)):=by
     obtain⟨q,hq⟩:∃ q,ops.size-n=q+1:=⟨ops.size-n-1,by omega⟩
     rw [hq,List.range'_succ,show ops.size-(n+1)=q from by omega]
    have ho:ops[n]? = some o:=by simpa using h1
    rw [hr',Qf1 (x:=n) (sched:=List.range' (n+1) (ops.size-(n+1))) (k:=k') (o:=o) rfl ho,h2]
    exact .run hfn (.ops hks hok) (Qp4 hs hp hv) hd hr hk
  | @dr ops rem hist mask sched k k' hks hok hdr hw =>
    obtain⟨i,o,l,rest,rfl,rfl⟩:=hw rfl
    simp only [Qbn] at hf
    split at hf<;>first|(simp at hf;done)|skip
    rename_i t' hp
    split at hf<;>first|(simp at hf;done)|skip
    rename_i hrc
    simp only [Kaj] at hf;subst hf
    have hol:=hdr.remOps (i,o) (by simp)
    have ho:ops[i]? = some o:=by simpa using hol
    rw [Qf1 (x:=i) (sched:=rest) (k:=k') (o:=o) rfl ho]
    exact .run hfn (.dr hks hok (hdr.write hp hrc hh) (by simp)) (Jao hdr hp hv (.refl E) hs) hd hr hk
end
end Go.Ev

namespace Go.Ev
section
variable {P:Program} {fn:FuncId} {tmps:Array Value} {k:List Item} {ds:List Deferred} {kind:CallKind} {ro:Option Nat} {cs:List Frame} {w w':World}
def rf (fn:FuncId) (tmps:Array Value) (ds:List Deferred) (kind:CallKind) (ro:Option Nat) (k:List Item):Frame := { fn,tmps,todo:=k,defers:=ds,mode:=.run,kind,roundOf:=ro }
theorem su_skip:step P (lone (rf fn tmps ds kind ro (.code .skip::k)) cs w)=.next (lone (rf fn tmps ds kind ro k) cs w):=step_lone_go (by simp [stepG,stepG.exec,rf])
theorem su_label {l:Nat}:step P (lone (rf fn tmps ds kind ro (.code (.label l)::k)) cs w)=.next (lone (rf fn tmps ds kind ro k) cs w):=step_lone_go (by simp [stepG,stepG.exec,rf])
theorem Qwu {i:Nat}:step P (lone (rf fn tmps ds kind ro (.inBlock i::k)) cs w)=.next (lone (rf fn tmps ds kind ro k) cs w):=step_lone_go (by simp [stepG,stepG.exec,rf])
theorem Qwt {b:Code}:step P (lone (rf fn tmps ds kind ro (.inScope b::k)) cs w)=.next (lone (rf fn tmps ds kind ro k) cs w):=step_lone_go (by simp [stepG,stepG.exec,rf])
theorem su_seq {a b:Code}:step P (lone (rf fn tmps ds kind ro (.code (.seq a b)::k)) cs w)=.next (lone (rf fn tmps ds kind ro (.code a::.code b::k)) cs w):=step_lone_go (by simp [stepG,stepG.exec,rf])
theorem Qyy {c:Operand} {a b:Code} {q:Bool} (h:(rf fn tmps ds kind ro (.code (.cond c a b)::k)).eval c=.bool q):step P (lone (rf fn tmps ds kind ro (.code (.cond c a b)::k)) cs w)=.next (lone (rf fn tmps ds kind ro (.code (if q then a else b)::k)) cs w) :=
 step_lone_go (by simp only [rf] at h;simp [stepG,stepG.exec,rf,h])
theorem su_block {i:Nat} {b:Code}:step P (lone (rf fn tmps ds kind ro (.code (.block i b)::k)) cs w)=.next (lone (rf fn tmps ds kind ro (.code b::.inBlock i::k)) cs w):=step_lone_go (by simp [stepG,stepG.exec,rf])
theorem su_loop {b:Code}:step P (lone (rf fn tmps ds kind ro (.code (.loop b)::k)) cs w)=.next (lone (rf fn tmps ds kind ro (.code b::.inLoop b::k)) cs w):=step_lone_go (by simp [stepG,stepG.exec,rf])
theorem Qyx {b:Code}:step P (lone (rf fn tmps ds kind ro (.inLoop b::k)) cs w)=.next (lone (rf fn tmps ds kind ro (.code b::.inLoop b::k)) cs w):=step_lone_go (by simp [stepG,stepG.exec,rf])
theorem su_scope {b:Code}:step P (lone (rf fn tmps ds kind ro (.code (.scope b)::k)) cs w)=.next (lone (rf fn tmps ds kind ro (.code b::.inScope b::k)) cs w):=step_lone_go (by simp [stepG,stepG.exec,rf])
theorem su_exit {i:Nat} {k2:List Item} (h:exitTo i k=some k2):step P (lone (rf fn tmps ds kind ro (.code (.exit i)::k)) cs w)=.next (lone (rf fn tmps ds kind ro k2) cs w):=step_lone_go (by simp [stepG,stepG.exec,rf,h])
theorem su_goto {i:Nat} {k2:List Item} (h:gotoIn i k=some k2):step P (lone (rf fn tmps ds kind ro (.code (.goto i)::k)) cs w)=.next (lone (rf fn tmps ds kind ro k2) cs w):=step_lone_go (by simp [stepG,stepG.exec,rf,h])
theorem Qyw {i:Nat} {ops:Array Oper}:step P (lone (rf fn tmps ds kind ro (.code (.region i ops false)::k)) cs w)=.next (lone (rf fn tmps ds kind ro (.inRegion ops (List.range ops.size)::k)) cs w):=step_lone_go (by simp [stepG,stepG.exec,rf])
theorem Qoi {i:Nat} {ops:Array Oper}:step P (lone (rf fn tmps ds kind ro (.code (.region i ops true)::k)) cs w) =
  .next (lone (rf fn tmps ds kind ro (.inRegion ops (Region.schedule (P.follows .mixedOrders) ops (w.tape w.drawn (.order fn i)))::k)) cs { w with drawn:=w.drawn+1 }) :=
 step_lone_go (by simp [stepG,stepG.exec,rf,choose,Sem.run,Question.forced,Question.cut])
theorem su_end:step P (lone (rf fn tmps ds kind none []) cs w)=.next (lone { rf fn tmps ds kind none [] with mode:=.returning } cs w):=step_lone_go (by simp [stepG,stepG.exec,rf])
theorem su_ret:step P (lone (rf fn tmps ds kind none (.code .ret::k)) cs w)=.next (lone { rf fn tmps ds kind none (.code .ret::k) with mode:=.returning } cs w):=step_lone_go (by simp [stepG,stepG.exec,rf])
end
end Go.Ev

namespace Go.Ev
open Go.RowKit
section
variable {E:Env} {G:Nat}
theorem Qle {id:Nat}:∀ {k:List AItem} {k':List Item},ItsR E G k k' →
  (∀ k2,Qfb id k=some k2→∃ k2',exitTo id k'=some k2'∧ItsR E G k2 k2')∧(Qfb id k=none→exitTo id k'=none)
 |_,_,.nil=>⟨fun k2 h=>by simp [Qfb] at h,fun _=>rfl⟩
 |_,_,.cons h t=>by
  obtain⟨i1,i2⟩:=Qle (id:=id) t
  cases h with
  |inBlock id' =>
   simp only [Qfb,exitTo]
   by_cases e:id'=id
   ·subst e
    simp only [Nat.beq_refl,beq_self_eq_true,if_true]
    exact⟨fun k2 h=>by simp only [Kaj] at h;subst h;exact⟨_,rfl,t⟩,by simp⟩
   ·rw [beqF e]
    simp only
    rw [if_neg (by simpa using e)]
    exact⟨i1,i2⟩
  |_=>exact⟨i1,i2⟩
theorem Qlb {l:Nat}:∀ {k:List AItem} {k':List Item},ItsR E G k k' →
  (∀ k2,Qgn l k=some k2→∃ k2',gotoIn l k'=some k2'∧ItsR E G k2 k2')∧(Qgn l k=none→gotoIn l k'=none)
 |_,_,.nil=>⟨fun k2 h=>by simp [Qgn] at h,fun _=>rfl⟩
 |_,_,.cons h t=>by
  obtain⟨i1,i2⟩:=Qlb (l:=l) t
  cases h with
  | @inScope b hb =>
    simp only [Qgn,gotoIn]
    cases hf:findLabel b l with
    |none=>exact⟨i1,i2⟩
    |some r =>
     simp only
     exact⟨fun k2 h=>by simp only [Kaj] at h;subst h;exact⟨_,rfl,.cons (.code (Qim hb hf)) (.cons (.inScope hb) t)⟩,by simp⟩
  |_=>exact⟨i1,i2⟩
end
section
variable {tb:Tabs} {E:Env} {m:Mem} {lo hi G:Nat} {wait:Bool} {fn:FuncId} {t:T Value} {nt:Nat} {k:List AItem} {ds:List Deferred} {kind:CallKind} {ro:Option Nat} {fr':Frame}
theorem FR.run_inv (h:FR tb E m lo hi G wait ⟨fn,t,nt,k,ds,.run,kind,ro⟩ fr'):∃ tm k' ds' ro' X,fr'=rf fn tm ds' kind ro' k'∧TodoR tb E m lo hi G wait t nt k k' X∧TRx E X t nt tm∧DefsR E ds ds'∧RoR E ro ro'∧(kind=.normal∨kind=.deferred)∧(tb.p.funcs[fn]?).isSome=true:=by
 cases h with
 |run hf ht hs hd hr hk=>exact⟨_,_,_,_,_,rfl,ht,hs,hd,hr,hk,hf⟩
theorem TodoR.item_inv {x:AItem} {k':List Item} {X:Nat→Prop} (h:TodoR tb E m lo hi G wait t nt (x::k) k' X) (h1:∀ a b,x≠.ops a b) (h2:∀ a b c d,x≠.dr a b c d):∃ x' k1,k'=x'::k1∧ItR E G x x'∧ItsR E G k k1∧X=fun _=>False:=by
 cases h with
 |plain h=>cases h with|cons h t=>exact⟨_,_,rfl,h,t,rfl⟩
 |ops hk hok=>exact absurd rfl (h1 _ _)
 |dr hk hok hd hw=>exact absurd rfl (h2 _ _ _ _)
theorem FR.plain {tm:Array Value} {k':List Item} {ds':List Deferred} {ro':Option Nat} (hk:ItsR E G k k') (hs:TR E t nt tm) (hd:DefsR E ds ds') (hr:RoR E ro ro') (hki:kind=.normal∨kind=.deferred) (hf:(tb.p.funcs[fn]?).isSome=true) :
  FR tb E m lo hi G wait ⟨fn,t,nt,k,ds,.run,kind,ro⟩ (rf fn tm ds' kind ro' k'):=.run hf (.plain hk) hs hd hr hki
end
end Go.Ev

namespace Go.Ev
open Go.RowKit
theorem Qtl {ops:List Oper} {x:Nat × Oper}:x∈(List.range ops.length).zip ops↔ops[x.1]? = some x.2:=by
 constructor
 ·intro h
  obtain⟨j,hj⟩:=List.mem_iff_getElem?.1 h
  rw [List.getElem?_zip_eq_some] at hj
  obtain⟨h1,h2⟩:=hj
  have hlt:=(Kgs.1 h2).1
  rw [List.getElem?_range hlt] at h1
  rw [← Kai h1];exact h2
 ·intro h
  have hlt:=(Kgs.1 h).1
  refine List.mem_iff_getElem?.2 ⟨x.1,?_⟩
  rw [List.getElem?_zip_eq_some]
  exact⟨List.getElem?_range hlt,h⟩
theorem DrI.start {tb:Tabs} {E:Env} {m:Mem} {lo hi:Nat} {ops:Array Oper} {t:T Value} {nt:Nat} {sched:List Nat} (h1:Qth ops sched) (h2:∀ i,i∈sched↔i<ops.size) :
  DrI tb E m lo hi ops t nt false ((List.range ops.toList.length).zip ops.toList) [] 0 sched:=by
 refine⟨h1,fun x hx=>Qtl.1 hx,fun x hx=>?_,?_,by simp,by simp,by simp,fun k hk=>?_,by simp,by simp,by simp,by simp,by simp,by simp,by simp⟩
 ·have:=(Kgs.1 (Qtl.1 hx)).1
  exact (h2 x.1).2 (by simpa using this)
 ·rw [List.map_fst_zip (by simp)]
  exact List.nodup_range
 ·have hlt:=(h2 k).1 hk
  exact .inl ⟨(k,ops[k]),Qtl.2 (by simp [hlt]),rfl⟩
def Qf9 (tb:Tabs) (N G:Nat) (w0:World) (base:List Frame) (am:AM) (fr':Frame) (cs':List Frame) (w:World):Prop :=
 ∃ fr2 cs2 w2 E2 lo2,Steps tb.p (lone fr' cs' w) (lone fr2 cs2 w2)∧StR tb N G w0 base am fr2 cs2 w2 E2 lo2
section
variable {tb:Tabs} {N G:Nat} {w0:World} {base:List Frame} {E:Env} {m:Mem} {lo:Nat} {fn:FuncId} {t:T Value} {nt:Nat} {k:List AItem} {ds:List Deferred} {kind:CallKind} {ro:Option Nat} {cs:List AFrame} {fr':Frame} {cs':List Frame} {w:World} {am:AM}
theorem codeA_ok {c:Code} (S:StR tb N G w0 base ⟨⟨fn,t,nt,.code c::k,ds,.run,kind,ro⟩,cs,m⟩ fr' cs' w E lo) (h:Qn8 tb c k fn t nt ds kind ro cs m=some am)
  (hleave:∀ j,Qkc tb (frm fn t nt k ds kind ro) cs m (some j)=some am→(c=.ret∧j=.ret)∨(∃ id,c=.exit id∧j=.exit id∧Qfb id k=none)∨(∃ l,c=.goto l∧j=.goto l∧Qgn l k=none)→Qf9 tb N G w0 base am fr' cs' w)
  (hrf:∀ f ps a b,c=.rangeFunc f ps a b→Qf9 tb N G w0 base am fr' cs' w):Qf9 tb N G w0 base am fr' cs' w:=by
 obtain⟨tm,k',ds',ro',X,rfl,ht,hs,hd,hr,hki,hf⟩:=S.top.run_inv
 obtain⟨x',k1,rfl,hx,hk,rfl⟩:=ht.item_inv (by simp) (by simp)
 cases hx with
 |code hc =>
 have stay:∀ {k2:List AItem} {k2':List Item},some (⟨⟨fn,t,nt,k2,ds,.run,kind,ro⟩,cs,m⟩:AM)=some am→ItsR E G k2 k2'→step tb.p (lone (rf fn tm ds' kind ro' (.code c::k1)) cs' w)=.next (lone (rf fn tm ds' kind ro' k2') cs' w)→Qf9 tb N G w0 base am (rf fn tm ds' kind ro' (.code c::k1)) cs' w:=by
  intro k2 k2' he hk2 hst
  obtain rfl:=Kai he
  exact⟨_,_,_,E,lo,.one hst,⟨S.mem,S.glob,FR.plain hk2 hs hd hr hki hf,S.callers,S.lo⟩⟩
 cases c with
 |skip=>exact stay h hk su_skip
 |label l=>exact stay h hk su_label
 |seq a b =>
  simp only [Qb6,Kba] at hc
  exact stay h (.cons (.code hc.1) (.cons (.code hc.2) hk)) su_seq
 |cond c a b =>
  simp only [Qb6,Kba] at hc
  simp only [Qn8,condA] at h
  have hev:=Qfw (fr:=rf fn tm ds' kind ro' (.code (.cond c a b)::k1)) S.glob hs hc.1.1 (by simp)
  split at h<;>first|(simp at h;done)|skip
  ·rename_i he;rw [he] at hev
   have hb:(rf fn tm ds' kind ro' (.code (.cond c a b)::k1)).eval c=.bool true:=by
    generalize (rf fn tm ds' kind ro' (.code (.cond c a b)::k1)).eval c=q at hev
    cases hev;rfl
   exact stay h (.cons (.code hc.1.2) hk) (Qyy hb)
  ·rename_i he;rw [he] at hev
   have hb:(rf fn tm ds' kind ro' (.code (.cond c a b)::k1)).eval c=.bool false:=by
    generalize (rf fn tm ds' kind ro' (.code (.cond c a b)::k1)).eval c=q at hev
    cases hev;rfl
   exact stay h (.cons (.code hc.2) hk) (Qyy hb)
 |block id b=>exact stay h (.cons (.code hc) (.cons (.inBlock id) hk)) su_block
 |loop b=>exact stay h (.cons (.code hc) (.cons (.inLoop hc) hk)) su_loop
 |scope b=>exact stay h (.cons (.code hc) (.cons (.inScope hc) hk)) su_scope
 |exit id =>
  simp only [Qn8,Jaw] at h
  obtain⟨i1,i2⟩:=Qle (id:=id) hk
  cases he:Qfb id k with
  |some k2 =>
   rw [he] at h
   obtain⟨k2',e1,e2⟩:=i1 k2 he
   exact stay h e2 (su_exit e1)
  |none=>rw [he] at h;exact hleave _ h (.inr (.inl ⟨id,rfl,rfl,he⟩))
 |goto l =>
  simp only [Qn8,Jaw] at h
  obtain⟨i1,i2⟩:=Qlb (l:=l) hk
  cases he:Qgn l k with
  |some k2 =>
   rw [he] at h
   obtain⟨k2',e1,e2⟩:=i1 k2 he
   exact stay h e2 (su_goto e1)
  |none=>rw [he] at h;exact hleave _ h (.inr (.inr ⟨l,rfl,rfl,he⟩))
 |ret=>exact hleave .ret h (.inl ⟨rfl,rfl⟩)
 |refuse s=>simp [Qn8] at h
 |region id ops draw =>
  simp only [Qb6,Kba,List.all_eq_true] at hc
  simp only [Qn8,Qzu] at h
  cases draw with
  |false =>
   simp only [mkA] at h
   obtain rfl:=Kai h
   refine⟨_,_,_,E,lo,.one Qyw,⟨S.mem,S.glob,?_,S.callers,S.lo⟩⟩
   have:=TodoR.ops (tb:=tb) (m:=m) (lo:=lo) (hi:=m.next) (wait:=false) (t:=t) (nt:=nt) (n:=0) hk hc.1
   rw [List.drop_zero,Nat.sub_zero,← List.range_eq_range'] at this
   exact .run hf this hs hd hr hki
  |true =>
   simp only [mkA] at h
   obtain rfl:=Kai h
   have hdo:Qpp ops=true:=by simpa using hc.2
   obtain⟨v1,v2⟩:=Qok hdo (tb.p.follows .mixedOrders) (w.tape w.drawn (.order fn id))
   refine⟨_,_,_,E,lo,.one Qoi,⟨S.mem.same rfl rfl rfl rfl,S.glob,?_,S.callers,S.lo⟩⟩
   have hX:TRx E (lagX [] (Region.schedule (tb.p.follows .mixedOrders) ops (w.tape w.drawn (.order fn id)))) t nt tm:=⟨hs.1,fun y _=>hs.2 y (by simp)⟩
   exact .run hf (.dr hk hc.1 (DrI.start v1 v2) (by simp)) hX hd hr hki
 |rangeFunc f ps a b=>exact hrf _ _ _ _ rfl
end
end Go.Ev

namespace Go.Ev
open Go.RowKit
section
variable {tb:Tabs} {N G:Nat} {w0:World} {fn:FuncId} {nt:Nat} {ds':List Deferred} {kind:CallKind} {ro':Option Nat} {cs':List Frame} {k':List Item} {ops:Array Oper} {lo:Nat}
def Qtj (tb:Tabs) (N:Nat) (w0:World) (fn:FuncId) (nt:Nat) (ds':List Deferred) (kind:CallKind) (ro':Option Nat) (cs':List Frame) (k':List Item) (ops:Array Oper) (lo:Nat) (E:Env) (m:Mem) (fr':Frame) (w:World):OpsR→Prop
 | .done t1 m1=>∃ tm1 w1 E1,Steps tb.p (lone fr' cs' w) (lone (rf fn tm1 ds' kind ro' k') cs' w1)∧MR tb.p N w0 E1 m1 w1∧MExt lo E m E1 m1∧TR E1 t1 nt tm1
 | .stop o l1 t1 m1=>∃ n1 tm1 w1 E1,Steps tb.p (lone fr' cs' w) (lone (rf fn tm1 ds' kind ro' (.inRegion ops (List.range' n1 (ops.size-n1))::k')) cs' w1)∧MR tb.p N w0 E1 m1 w1∧MExt lo E m E1 m1∧TR E1 t1 nt tm1 ∧
   ops.toList.drop n1=o::l1∧Qbh t1 ops o.guard=true
 | .bad=>True
theorem ops_ok (ok:TabsOk tb) (hops:∀ o∈ops.toList,opOk G o=true):∀ (l:List Oper) (n:Nat) (t:T Value) (m:Mem) (E:Env) (w:World) (tm:Array Value),ops.toList.drop n=l→MR tb.p N w0 E m w→Qhc G E→TR E t nt tm→lo≤m.next →
  Qtj tb N w0 fn nt ds' kind ro' cs' k' ops lo E m (rf fn tm ds' kind ro' (.inRegion ops (List.range' n (ops.size-n))::k')) w (opsA tb ops nt l t m)
 | [],n,t,m,E,w,tm,hl,HM,HG,HS,hlo=>by
   have hn:ops.size≤n:=by simpa using hl
   rw [show ops.size-n=0 from by omega]
   exact⟨tm,w,E,.one (Qjx rfl rfl),HM,.refl _ _ _,HS⟩
 |o::l,n,t,m,E,w,tm,hl,HM,HG,HS,hlo=>by
  obtain⟨h1,h2,h3⟩:=Qny hl
  have h3':n<ops.size:=by simpa using h3
  have ho:ops[n]? = some o:=by simpa using h1
  have hr':List.range' n (ops.size-n)=n::List.range' (n+1) (ops.size-(n+1)):=by
   obtain⟨q,hq⟩:∃ q,ops.size-n=q+1:=⟨ops.size-n-1,by omega⟩
   rw [hq,List.range'_succ,show ops.size-(n+1)=q from by omega]
  have hw:Region.wanted o (yielded ops tm)=Qbh t ops o.guard:=Qku (E:=E) fun d _=>HS.2 d (by simp)
  have hfin:∀ v,(rf fn tm ds' kind ro' (.inRegion ops (n::List.range' (n+1) (ops.size-(n+1)))::k')).finish v=rf fn (Qmw o.dst tm v) ds' kind ro' (.inRegion ops (List.range' (n+1) (ops.size-(n+1)))::k'):=fun v=>Qf1 rfl ho
  have go:∀ (t':T Value) (m':Mem) (E':Env) (w':World) (v v':Value),putT t nt o.dst v=some t'→VR E' v v'→MR tb.p N w0 E' m' w'→MExt lo E m E' m'→step tb.p (lone (rf fn tm ds' kind ro' (.inRegion ops (n::List.range' (n+1) (ops.size-(n+1)))::k')) cs' w)=.next (lone ((rf fn tm ds' kind ro' (.inRegion ops (n::List.range' (n+1) (ops.size-(n+1)))::k')).finish v') cs' w') →
    Qtj tb N w0 fn nt ds' kind ro' cs' k' ops lo E m (rf fn tm ds' kind ro' (.inRegion ops (n::List.range' (n+1) (ops.size-(n+1)))::k')) w (opsA tb ops nt l t' m'):=by
   intro t' m' E' w' v v' hp hv HM' hx hst
   rw [hfin] at hst
   have ih:=ops_ok ok hops l (n+1) t' m' E' w' (Qmw o.dst tm v') h2.symm HM' (fun g hg=>hx.le _ _ (HG g hg)) (Qp4 (HS.mono hx.le) hp hv) (Knt hlo hx.next)
   generalize opsA tb ops nt l t' m'=r at ih
   cases r with
   |done t1 m1=>obtain⟨tm1,w1,E1,a,b,c,d⟩:=ih;exact⟨tm1,w1,E1,.head hst a,b,hx.trans c,d⟩
   |stop o1 l1 t1 m1=>obtain⟨n1,tm1,w1,E1,a,b,c,d⟩:=ih;exact⟨n1,tm1,w1,E1,.head hst a,b,hx.trans c,d⟩
   |bad=>trivial
  have hput:∀ {v:Value} {m':Mem},(∀ t',putT t nt o.dst v=some t'→Qtj tb N w0 fn nt ds' kind ro' cs' k' ops lo E m (rf fn tm ds' kind ro' (.inRegion ops (n::List.range' (n+1) (ops.size-(n+1)))::k')) w (opsA tb ops nt l t' m')) →
    Qtj tb N w0 fn nt ds' kind ro' cs' k' ops lo E m (rf fn tm ds' kind ro' (.inRegion ops (n::List.range' (n+1) (ops.size-(n+1)))::k')) w (Qj4 (putT t nt o.dst v) m' (opsA tb ops nt l)):=by
   intro v m' h
   cases hp:putT t nt o.dst v with
   |none=>exact trivial
   |some t'=>exact h t' hp
  show Qtj tb N w0 fn nt ds' kind ro' cs' k' ops lo E m _ w (Qhk tb ops nt o l (opsA tb ops nt l) t m)
  rw [hr']
  unfold Qhk
  cases hwa:Qbh t ops o.guard with
  |false =>
   exact hput fun t' hp=>go t' m E w undef undef hp (.undef E) HM (.refl _ _ _) (Qy6 rfl rfl (by rw [ho];simp only [Option.map_some,Option.getD_some];exact hw.trans hwa))
  |true =>
   have hρ : ∀ y∈o.op.operands.toList,VR E (ev t y) ((rf fn tm ds' kind ro' (.inRegion ops (n::List.range' (n+1) (ops.size-(n+1)))::k')).eval y):=fun y hy =>
    Qfw HG HS (List.all_eq_true.1 (hops o (List.mem_of_getElem? h1)) y hy) (by simp)
   have hop:=Qty (o:=o) ok HM hρ
   simp only
   cases hoa:opA o.op tb t m with
   |c=>exact⟨n,tm,w,E,by rw [hr'];exact .refl _ _,HM,.refl _ _ _,HS,hl,hwa⟩
   |bad=>exact trivial
   |r v =>
    rw [hoa] at hop
    obtain⟨nx,q1,q2⟩:=hop
    have hg:=Qjy (cs:=cs') (w:=w) (P:=tb.p) (fr:=rf fn tm ds' kind ro' (.inRegion ops (n::List.range' (n+1) (ops.size-(n+1)))::k')) rfl rfl ho (hw.trans hwa) (.inr fun c e=>by rw [e] at hoa;simp [opA,kC] at hoa)
    refine hput fun t' hp=>?_
    rcases q2 with ⟨v',rfl,hv⟩|⟨rfl,hv⟩
    ·exact go t' m E w v v' hp hv HM (.refl _ _ _) (Qb2 q1 (.inl rfl) hg)
    ·exact go t' m E w v undef hp (by rw [hv];exact .undef E) HM (.refl _ _ _) (Qb2 q1 (.inr ⟨rfl,rfl⟩) hg)
   |f ob mk =>
    rw [hoa] at hop
    have hdom:=HM.dom m.next (Knr _)
    obtain⟨v',w',o',sh,ex,q1,q2,q3,q4,q5,q6,q7,q8⟩:=hop m.next hdom.2
    have hg:=Qjy (cs:=cs') (w:=w) (P:=tb.p) (fr:=rf fn tm ds' kind ro' (.inRegion ops (n::List.range' (n+1) (ops.size-(n+1)))::k')) rfl rfl ho (hw.trans hwa) (.inr fun c e=>by rw [e] at hoa;simp [opA,kC] at hoa)
    refine hput fun t' hp=>?_
    exact go t' _ _ w' _ v' hp q7 ((HM.lay ob).mat hdom.2 (by rw [Qan,if_pos rfl]) (by rw [Qaf];omega) q8 q2 q3 q4 q5 q6) (((MExt.lay HM ob).lower hlo).trans (MExt.mat hdom.2 hlo)) (Qb2 q1 (.inl rfl) hg)
   |e v m' =>
    rw [hoa] at hop
    obtain⟨nx,w',E',q1,q2,q3,q4⟩:=hop
    have hg:=Qjy (cs:=cs') (w:=w) (P:=tb.p) (fr:=rf fn tm ds' kind ro' (.inRegion ops (n::List.range' (n+1) (ops.size-(n+1)))::k')) rfl rfl ho (hw.trans hwa) (.inr fun c e=>by rw [e] at hoa;simp [opA,kC] at hoa)
    refine hput fun t' hp=>?_
    rcases q2 with ⟨v',rfl,hv⟩|⟨rfl,hv⟩
    ·exact go t' m' E' w' v v' hp hv q3 (q4.lower hlo) (Qb2 q1 (.inl rfl) hg)
    ·exact go t' m' E' w' v undef hp (by rw [hv];exact .undef E') q3 (q4.lower hlo) (Qb2 q1 (.inr ⟨rfl,rfl⟩) hg)
end
end Go.Ev

