/- A part of a proof: ScriptOwn. -/
import Derived.Test.YtgmkbdmgifdfeaaGreatDoorF9
set_option linter.unusedVariables false
set_option linter.unusedSimpArgs false
namespace Go.Ev
open Go.RowKit
inductive SG where
 |no
 |on (d:Tmp) (w:Bool)
 |never
structure SOp where
 dst:Option Tmp
 op:Op
 ty:TypeId
 g:SG
structure DOp where
 i:Nat
 dst:Option Tmp
 op:Op
 ty:TypeId
 g:SG
 es:List Nat
 nm:List Nat
inductive SCode where
 |skip
 |seq (a b:SCode)
 |reg (ops:List SOp)
 |drw (ops:List DOp)
 |cond (c:Operand) (a b:SCode)
 |block (id:Nat) (b:SCode)
 |loop (b:SCode)
 |exit (id:Nat)
 |ret
 |rng (f:Operand) (ps:List Tmp) (a b:SCode) (ok:Bool)
 |other (c:Code)
def stripG (ops:List Oper):Option (Nat × Bool)→SG
 |none=>.no
 |some (j,w)=>match ops[j]? with
  |some oj=>match oj.dst with
   |some d=>.on d w
   |none=>.never
  |none=>.never
def tmpsOf:List Operand→List Nat
 | []=>[]
 | .tmp t::l=>t::tmpsOf l
 |_::l=>tmpsOf l
def gNames:SG→List Nat
 | .on d _=>[d]
 |_=>[]
def bindOn (l:List Edge):List Nat:=(l.filter (Region.binds .any)).map (·.on)
def dStrip (ops:List Oper) (x:Nat × Oper):DOp:=⟨x.1,x.2.dst,x.2.op,x.2.type,stripG ops x.2.guard,bindOn x.2.after.toList,gNames (stripG ops x.2.guard)++tmpsOf x.2.op.operands.toList⟩
def stripOp (ops:List Oper) (o:Oper):SOp:=⟨o.dst,o.op,o.type,stripG ops o.guard⟩
def strip:Code→SCode
 | .skip=>.skip
 | .label _=>.skip
 | .seq a b=>.seq (strip a) (strip b)
 | .region _ ops false=>.reg (ops.toList.map (stripOp ops.toList))
 | .region _ ops true=>.drw (((List.range ops.toList.length).zip ops.toList).map (dStrip ops.toList))
 | .cond c a b=>.cond c (strip a) (strip b)
 | .block id b=>.block id (strip b)
 | .loop b=>.loop (strip b)
 | .exit id=>.exit id
 | .ret=>.ret
 | .rangeFunc f ps a b=>.rng f ps.toList (strip a) (strip b) (codeOk 8 a&&codeOk 8 b)
 |c=>.other c
def isB (v:Value) (w:Bool):Bool:=match v with | .bool b=>b==w|_=>false
noncomputable def wantX (l:List Value):SG→Bool
 | .no=>true
 | .on d w=>isB (l.getD d undef) w
 | .never=>false
theorem wantX_eq (l:List Value) (ops:Array Oper) (g:Option (Nat × Bool)):wantedL l ops g=wantX l (stripG ops.toList g):=by
 cases g with
 |none=>rfl
 |some g =>
  obtain⟨j,w⟩:=g
  have h:=slots_ofList l
  have e:wantedL l ops (some (j,w))=true↔∃ oj d,ops.toList[j]? = some oj∧oj.dst=some d∧l.getD d undef=.bool w:=by
   unfold wantedL
   rw [wantedA_iff]
   simp only [h _]
  rw [Bool.eq_iff_iff,e]
  simp only [stripG]
  constructor
  ·rintro⟨oj,d,h1,h2,h3⟩
   rw [h1];simp only [h2,wantX,h3,isB];simp
  ·intro h
   split at h<;>try (simp [wantX] at h;done)
   rename_i oj h1
   split at h<;>try (simp [wantX] at h;done)
   rename_i d h2
   simp only [wantX] at h
   unfold isB at h
   split at h<;>simp at h
   rename_i h3
   exact⟨oj,d,h1,h2,by rw [h3,h]⟩
section
variable (tb:Tabs)
noncomputable def wpCallX (F:FC) (op:Op) (ty:TypeId) (l:List Value) (ds:List Deferred) (m:Mem) (K:Value→List Deferred→Mem→Prop) (PK:List PanicEntry→Mem→Prop):Prop :=
 wpCallOp tb F ⟨none,op,ty, "",#[],none⟩ l ds m K PK
noncomputable def wpR (F:FC) (Q:PostA):List SOp→List Value→List Deferred→Mem→Prop
 | [],l,ds,m=>Q .normal l ds m
 |o::os,l,ds,m=>dstB o.dst l.length=true ∧
  match wantX l o.g with
  |false=>wpR F Q os (setSl o.dst undef l) ds m
  |true=>match opA o.op tb (T.ofList l) m with
   | .r v=>wpR F Q os (setSl o.dst v l) ds m
   | .f ob mk=>wpR F Q os (setSl o.dst (mk m.next) l) ds (newObjA m ob)
   | .e v m'=>wpR F Q os (setSl o.dst v l) ds m'
   | .c=>wpCallX tb F o.op o.ty l ds m (fun v ds m=>wpR F Q os (setSl o.dst v l) ds m) (fun ch m=>Q (.pan ch) l ds m)
   | .bad=>False
def wpX (F:FC) (c:SCode) (l:List Value) (ds:List Deferred) (m:Mem) (Q:PostA):Prop:=∀ c',strip c'=c→wpC tb F c' l ds m Q
variable {tb}
variable {F:FC} {l:List Value} {ds:List Deferred} {m:Mem} {Q Q':PostA} {a b:SCode}
theorem wpCallX_ok {o:Oper} {K:Value→List Deferred→Mem→Prop} {PK:List PanicEntry→Mem→Prop} (h:wpCallX tb F o.op o.type l ds m K PK):wpCallOp tb F o l ds m K PK:=by
 obtain⟨dst,op,ty,pos,after,g⟩:=o
 exact h
theorem wpNext_mono {n:ANext} {K K':Value→List Deferred→Mem→Prop} {PK PK':List PanicEntry→Mem→Prop} (h:wpNext tb n ds m K PK) (k:∀ v ds m,K v ds m→K' v ds m) (pk:∀ ch m,PK ch m→PK' ch m):wpNext tb n ds m K' PK':=by
 cases n with
 |bad=>exact h
 |value v=>exact k _ _ _ h
 |over v m'=>exact k _ _ _ h
 |enter f args =>
  refine CallsA.mono h fun o m' ho=>?_
  cases o with
  |ret v=>exact k _ _ _ ho
  |pan ch=>exact pk _ _ ho
 |round lp args =>
  obtain⟨g,h1,h2⟩:=h
  refine⟨g,h1,fun c cs=>?_⟩
  obtain⟨out,m',h3,h4⟩:=h2 c cs
  refine⟨out,m',?_,h4⟩
  cases out with
  |ret v=>exact k _ _ _ h3
  |pan ch=>exact pk _ _ h3
theorem wpCallOp_mono {o:Oper} {K K':Value→List Deferred→Mem→Prop} {PK PK':List PanicEntry→Mem→Prop} (h:wpCallOp tb F o l ds m K PK) (k:∀ v ds m,K v ds m→K' v ds m) (pk:∀ ch m,PK ch m→PK' ch m):wpCallOp tb F o l ds m K' PK':=by
 unfold wpCallOp at h ⊢
 split at h
 ·split at h
  ·exact wpNext_mono h k pk
  ·split at h
   ·exact⟨h.1,h.2.1,k _ _ _ h.2.2⟩
   ·exact h.elim
  ·exact h.elim
 ·obtain⟨h1,d,h2,h3⟩:=h
  exact⟨h1,d,h2,k _ _ _ h3⟩
 ·exact⟨h.1,pk _ _ h.2⟩
 ·exact h.elim
theorem wpR_ok {ops:Array Oper}:∀ (os:List Oper) (l:List Value) (ds:List Deferred) (m:Mem),wpR tb F Q (os.map (stripOp ops.toList)) l ds m→wpOps tb F ops Q os l ds m
 | [],l,ds,m,h=>h
 |o::os,l,ds,m,h=>by
  simp only [List.map_cons,wpR,stripOp] at h
  obtain⟨hd,h⟩:=h
  refine⟨hd,?_⟩
  rw [wantX_eq]
  split at h
  ·rename_i hw
   rw [hw]
   exact wpR_ok os _ ds m h
  ·rename_i hw
   rw [hw]
   split at h
   ·rename_i ho;rw [ho];exact wpR_ok os _ ds m h
   ·rename_i ho;rw [ho];exact wpR_ok os _ ds _ h
   ·rename_i ho;rw [ho];exact wpR_ok os _ ds _ h
   ·rename_i ho;rw [ho]
    exact wpCallOp_mono (wpCallX_ok h) (fun v ds m h=>wpR_ok os _ ds m h) fun ch m h=>h
   ·exact h.elim
theorem wpX.mono {c:SCode} (h:wpX tb F c l ds m Q) (k:∀ e l' ds' m',Q e l' ds' m'→Q' e l' ds' m'):wpX tb F c l ds m Q':=fun c' hc=>(h c' hc).mono k
theorem xskip (h:Q .normal l ds m):wpX tb F .skip l ds m Q:=fun c hc=>by
 unfold strip at hc
 split at hc<;>first|contradiction|skip
 ·exact wp_skip h
 ·exact wp_label h
theorem strip_seq {c:Code} (hc:strip c=.seq a b):∃ a' b',c=.seq a' b'∧strip a'=a∧strip b'=b:=by
 unfold strip at hc
 split at hc<;>first|contradiction|skip
 cases hc;exact⟨_,_,rfl,rfl,rfl⟩
theorem xseq (h:wpX tb F a l ds m (thenA (fun l ds m=>wpX tb F b l ds m Q) Q)):wpX tb F (.seq a b) l ds m Q:=fun c hc=>by
 obtain⟨a',b',rfl,rfl,rfl⟩:=strip_seq hc
 refine wp_seq ((h a' rfl).mono fun e l ds m h=>?_)
 cases e with
 |normal=>exact h b' rfl
 |_=>exact h
theorem xreg {os:List SOp} (h:wpR tb F Q os l ds m):wpX tb F (.reg os) l ds m Q:=fun c hc=>by
 unfold strip at hc
 split at hc<;>first|contradiction|skip
 cases hc
 exact wp_region (wpR_ok _ _ _ _ h)
theorem xcond {c:Operand} {v:Bool} (hc:evL l c=.bool v) (h:wpX tb F (match v with|true=>a|false=>b) l ds m Q):wpX tb F (.cond c a b) l ds m Q:=fun c' hs=>by
 unfold strip at hs
 split at hs<;>first|contradiction|skip
 cases hs
 refine wp_cond hc ?_
 cases v with
 |true=>exact h _ rfl
 |false=>exact h _ rfl
theorem xblock {id:Nat} (h:wpX tb F b l ds m (blockA id Q)):wpX tb F (.block id b) l ds m Q:=fun c' hs=>by
 unfold strip at hs
 split at hs<;>first|contradiction|skip
 cases hs
 exact wp_block (h _ rfl)
theorem xexit {i:Nat} (h:Q (.jump (.exit i)) l ds m):wpX tb F (.exit i) l ds m Q:=fun c' hs=>by
 unfold strip at hs
 split at hs<;>first|contradiction|skip
 cases hs
 exact wp_exit h
theorem xret (h:Q (.jump .ret) l ds m):wpX tb F .ret l ds m Q:=fun c' hs=>by
 unfold strip at hs
 split at hs<;>first|contradiction|skip
 exact wp_ret h
theorem xloop1 (h:wpX tb F b l ds m (thenA (fun l ds m=>wpX tb F (.loop b) l ds m Q) Q)):wpX tb F (.loop b) l ds m Q:=fun c' hs=>by
 unfold strip at hs
 split at hs<;>first|contradiction|skip
 cases hs
 refine wp_loop ((h _ rfl).mono fun e l ds m h=>?_)
 cases e with
 |normal=>exact h (.loop _) rfl
 |_=>exact h
theorem xloop {I:Nat→List Value→List Deferred→Mem→Prop} {N:Nat} (h0:I N l ds m) (hr:∀ n l ds m,I n l ds m→wpX tb F b l ds m (thenA (fun l ds m=>∃ k,k<n∧I k l ds m) Q)):wpX tb F (.loop b) l ds m Q:=by
 induction N using Nat.strongRecOn generalizing l ds m with
 |_ n ih =>
  refine xloop1 ((hr n l ds m h0).mono fun e l ds m h=>?_)
  cases e with
  |normal =>
   obtain⟨k,hk,h⟩:=h
   exact ih k hk h
  |_=>exact h
theorem callsX {f:FuncId} {fd:Func} {c:Code} {s:SCode} {args:List Value} {R:OutA→Mem→Prop} (hf:tb.funcs.get f=some fd) (hb:fd.body=some c) (hs:strip c=s)
  (h:wpX tb ⟨f,.normal,none⟩ s (args++List.replicate (fd.ntmps-args.length) undef) [] m (bodyA tb fd R)):CallsA tb f args m R :=
 callsA_of_wp hf hb (h c hs)
end
end Go.Ev

