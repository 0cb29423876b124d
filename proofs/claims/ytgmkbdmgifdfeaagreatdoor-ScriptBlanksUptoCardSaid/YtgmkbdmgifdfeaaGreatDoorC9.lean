/- A part of a proof: ScriptBlanks. -/
import Derived.Test.YtgmkbdmgifdfeaaGreatDoorC8
set_option linter.unusedVariables false
set_option linter.unusedSimpArgs false
namespace Go.Ev
open Go.RowKit
inductive SG where
 |no
 |on (d:Tmp) (w:Bool)
 |never
structure SOp where
 dst:Option Tmp
 op:Op
 ty:TypeId
 g:SG
structure DOp where
 i:Nat
 dst:Option Tmp
 op:Op
 ty:TypeId
 g:SG
 es:List Nat
 nm:List Nat
inductive SCode where
 |skip
 |seq (a b:SCode)
 |reg (ops:List SOp)
 |drw (ops:List DOp)
 |cond (c:Operand) (a b:SCode)
 |block (id:Nat) (b:SCode)
 |loop (b:SCode)
 |exit (id:Nat)
 |ret
 |rng (f:Operand) (ps:List Tmp) (a b:SCode) (ok:Bool)
 |other (c:Code)
def Qgf (ops:List Oper):Option (Nat × Bool)→SG
 |none=>.no
 |some (j,w)=>match ops[j]? with
  |some oj=>match oj.dst with
   |some d=>.on d w
   |none=>.never
  |none=>.never
def Qhs:List Operand→List Nat
 | []=>[]
 | .tmp t::l=>t::Qhs l
 |_::l=>Qhs l
def Qlj:SG→List Nat
 | .on d _=>[d]
 |_=>[]
def Qij (l:List Edge):List Nat:=(l.filter (Region.binds .any)).map (·.on)
def Qdj (ops:List Oper) (x:Nat × Oper):DOp:=⟨x.1,x.2.dst,x.2.op,x.2.type,Qgf ops x.2.guard,Qij x.2.after.toList,Qlj (Qgf ops x.2.guard)++Qhs x.2.op.operands.toList⟩
def Qmo (ops:List Oper) (o:Oper):SOp:=⟨o.dst,o.op,o.type,Qgf ops o.guard⟩
def Qa6:Code→SCode
 | .skip=>.skip
 | .label _=>.skip
 | .seq a b=>.seq (Qa6 a) (Qa6 b)
 | .region _ ops false=>.reg (ops.toList.map (Qmo ops.toList))
 | .region _ ops true=>.drw (((List.range ops.toList.length).zip ops.toList).map (Qdj ops.toList))
 | .cond c a b=>.cond c (Qa6 a) (Qa6 b)
 | .block id b=>.block id (Qa6 b)
 | .loop b=>.loop (Qa6 b)
 | .exit id=>.exit id
 | .ret=>.ret
 | .rangeFunc f ps a b=>.rng f ps.toList (Qa6 a) (Qa6 b) (Qcb 8 a&&Qcb 8 b)
 |c=>.other c
def isB (v:Value) (w:Bool):Bool:=match v with | .bool b=>b==w|_=>false
noncomputable def Qgx (l:List Value):SG→Bool
 | .no=>true
 | .on d w=>isB (l.getD d undef) w
 | .never=>false
theorem Qil (l:List Value) (ops:Array Oper) (g:Option (Nat × Bool)):Qfw l ops g=Qgx l (Qgf ops.toList g):=by
 cases g with
 |none=>rfl
 |some g =>
  obtain⟨j,w⟩:=g
  have h:=Qa8 l
  have e:Qfw l ops (some (j,w))=true↔∃ oj d,ops.toList[j]? = some oj∧oj.dst=some d∧l.getD d undef=.bool w:=by
   unfold Qfw
   rw [Qfx]
   simp only [h _]
  rw [Bool.eq_iff_iff,e]
  simp only [Qgf]
  constructor
  ·rintro⟨oj,d,h1,h2,h3⟩
   rw [h1];simp only [h2,Qgx,h3,isB];simp
  ·intro h
   split at h<;>try (simp [Qgx] at h;done)
   rename_i oj h1
   split at h<;>try (simp [Qgx] at h;done)
   rename_i d h2
   simp only [Qgx] at h
   unfold isB at h
   split at h<;>simp at h
   rename_i h3
   exact⟨oj,d,h1,h2,by rw [h3,h]⟩
section
variable (tb:Tabs)
noncomputable def Qgl (F:FC) (op:Op) (ty:TypeId) (l:List Value) (ds:List Deferred) (m:Mem) (K:Value→List Deferred→Mem→Prop) (PK:List PanicEntry→Mem→Prop):Prop :=
 Qex tb F ⟨none,op,ty, "",#[],none⟩ l ds m K PK
noncomputable def wpR (F:FC) (Q:Qde):List SOp→List Value→List Deferred→Mem→Prop
 | [],l,ds,m=>Q .normal l ds m
 |o::os,l,ds,m=>dstB o.dst l.length=true ∧
  match Qgx l o.g with
  |false=>wpR F Q os (Qbv o.dst undef l) ds m
  |true=>match opA o.op tb (T.ofList l) m with
   | .r v=>wpR F Q os (Qbv o.dst v l) ds m
   | .f ob mk=>wpR F Q os (Qbv o.dst (mk m.next) l) ds (Qah m ob)
   | .e v m'=>wpR F Q os (Qbv o.dst v l) ds m'
   | .c=>Qgl tb F o.op o.ty l ds m (fun v ds m=>wpR F Q os (Qbv o.dst v l) ds m) (fun ch m=>Q (.pan ch) l ds m)
   | .bad=>False
def wpX (F:FC) (c:SCode) (l:List Value) (ds:List Deferred) (m:Mem) (Q:Qde):Prop:=∀ c',Qa6 c'=c→wpC tb F c' l ds m Q
variable {tb}
variable {F:FC} {l:List Value} {ds:List Deferred} {m:Mem} {Q Q':Qde} {a b:SCode}
theorem Qox {o:Oper} {K:Value→List Deferred→Mem→Prop} {PK:List PanicEntry→Mem→Prop} (h:Qgl tb F o.op o.type l ds m K PK):Qex tb F o l ds m K PK:=by
 obtain⟨dst,op,ty,pos,after,g⟩:=o
 exact h
theorem Qtd {n:ANext} {K K':Value→List Deferred→Mem→Prop} {PK PK':List PanicEntry→Mem→Prop} (h:Qe2 tb n ds m K PK) (k:∀ v ds m,K v ds m→K' v ds m) (pk:∀ ch m,PK ch m→PK' ch m):Qe2 tb n ds m K' PK':=by
 cases n with
 |bad=>exact h
 |value v=>exact k _ _ _ h
 |over v m'=>exact k _ _ _ h
 |enter f args =>
  refine Qar.mono h fun o m' ho=>?_
  cases o with
  |ret v=>exact k _ _ _ ho
  |pan ch=>exact pk _ _ ho
 |round lp args =>
  obtain⟨g,h1,h2⟩:=h
  refine⟨g,h1,fun c cs=>?_⟩
  obtain⟨out,m',h3,h4⟩:=h2 c cs
  refine⟨out,m',?_,h4⟩
  cases out with
  |ret v=>exact k _ _ _ h3
  |pan ch=>exact pk _ _ h3
theorem Qhe {o:Oper} {K K':Value→List Deferred→Mem→Prop} {PK PK':List PanicEntry→Mem→Prop} (h:Qex tb F o l ds m K PK) (k:∀ v ds m,K v ds m→K' v ds m) (pk:∀ ch m,PK ch m→PK' ch m):Qex tb F o l ds m K' PK':=by
 unfold Qex at h ⊢
 split at h
 ·split at h
  ·exact Qtd h k pk
  ·split at h
   ·exact⟨h.1,h.2.1,k _ _ _ h.2.2⟩
   ·exact h.elim
  ·exact h.elim
 ·obtain⟨h1,d,h2,h3⟩:=h
  exact⟨h1,d,h2,k _ _ _ h3⟩
 ·exact⟨h.1,pk _ _ h.2⟩
 ·exact h.elim
theorem Qmk {ops:Array Oper}:∀ (os:List Oper) (l:List Value) (ds:List Deferred) (m:Mem),wpR tb F Q (os.map (Qmo ops.toList)) l ds m→Qkj tb F ops Q os l ds m
 | [],l,ds,m,h=>h
 |o::os,l,ds,m,h=>by
  simp only [List.map_cons,wpR,Qmo] at h
  obtain⟨hd,h⟩:=h
  refine⟨hd,?_⟩
  rw [Qil]
  split at h
  ·rename_i hw
   rw [hw]
   exact Qmk os _ ds m h
  ·rename_i hw
   rw [hw]
   split at h
   ·rename_i ho;rw [ho];exact Qmk os _ ds m h
   ·rename_i ho;rw [ho];exact Qmk os _ ds _ h
   ·rename_i ho;rw [ho];exact Qmk os _ ds _ h
   ·rename_i ho;rw [ho]
    exact Qhe (Qox h) (fun v ds m h=>Qmk os _ ds m h) fun ch m h=>h
   ·exact h.elim
theorem wpX.mono {c:SCode} (h:wpX tb F c l ds m Q) (k:∀ e l' ds' m',Q e l' ds' m'→Q' e l' ds' m'):wpX tb F c l ds m Q':=fun c' hc=>(h c' hc).mono k
theorem Qa2 (h:Q .normal l ds m):wpX tb F .skip l ds m Q:=fun c hc=>by
 unfold Qa6 at hc
 split at hc<;>first|contradiction|skip
 ·exact wp_skip h
 ·exact wp_label h
theorem Qrl {c:Code} (hc:Qa6 c=.seq a b):∃ a' b',c=.seq a' b'∧Qa6 a'=a∧Qa6 b'=b:=by
 unfold Qa6 at hc
 split at hc<;>first|contradiction|skip
 cases hc;exact⟨_,_,rfl,rfl,rfl⟩
theorem xseq (h:wpX tb F a l ds m (Qhg (fun l ds m=>wpX tb F b l ds m Q) Q)):wpX tb F (.seq a b) l ds m Q:=fun c hc=>by
 obtain⟨a',b',rfl,rfl,rfl⟩:=Qrl hc
 refine wp_seq ((h a' rfl).mono fun e l ds m h=>?_)
 cases e with
 |normal=>exact h b' rfl
 |_=>exact h
theorem xreg {os:List SOp} (h:wpR tb F Q os l ds m):wpX tb F (.reg os) l ds m Q:=fun c hc=>by
 unfold Qa6 at hc
 split at hc<;>first|contradiction|skip
 cases hc
 exact Qyb (Qmk _ _ _ _ h)
theorem xcond {c:Operand} {v:Bool} (hc:evL l c=.bool v) (h:wpX tb F (match v with|true=>a|false=>b) l ds m Q):wpX tb F (.cond c a b) l ds m Q:=fun c' hs=>by
 unfold Qa6 at hs
 split at hs<;>first|contradiction|skip
 cases hs
 refine wp_cond hc ?_
 cases v with
 |true=>exact h _ rfl
 |false=>exact h _ rfl
theorem Qa1 {id:Nat} (h:wpX tb F b l ds m (Qoi id Q)):wpX tb F (.block id b) l ds m Q:=fun c' hs=>by
 unfold Qa6 at hs
 split at hs<;>first|contradiction|skip
 cases hs
 exact wp_block (h _ rfl)
theorem Qcn {i:Nat} (h:Q (.jump (.exit i)) l ds m):wpX tb F (.exit i) l ds m Q:=fun c' hs=>by
 unfold Qa6 at hs
 split at hs<;>first|contradiction|skip
 cases hs
 exact wp_exit h
theorem xret (h:Q (.jump .ret) l ds m):wpX tb F .ret l ds m Q:=fun c' hs=>by
 unfold Qa6 at hs
 split at hs<;>first|contradiction|skip
 exact wp_ret h
theorem xloop1 (h:wpX tb F b l ds m (Qhg (fun l ds m=>wpX tb F (.loop b) l ds m Q) Q)):wpX tb F (.loop b) l ds m Q:=fun c' hs=>by
 unfold Qa6 at hs
 split at hs<;>first|contradiction|skip
 cases hs
 refine wp_loop ((h _ rfl).mono fun e l ds m h=>?_)
 cases e with
 |normal=>exact h (.loop _) rfl
 |_=>exact h
theorem xloop {I:Nat→List Value→List Deferred→Mem→Prop} {N:Nat} (h0:I N l ds m) (hr:∀ n l ds m,I n l ds m→wpX tb F b l ds m (Qhg (fun l ds m=>∃ k,k<n∧I k l ds m) Q)):wpX tb F (.loop b) l ds m Q:=by
 induction N using Nat.strongRecOn generalizing l ds m with
 |_ n ih =>
  refine xloop1 ((hr n l ds m h0).mono fun e l ds m h=>?_)
  cases e with
  |normal =>
   obtain⟨k,hk,h⟩:=h
   exact ih k hk h
  |_=>exact h
theorem callsX {f:FuncId} {fd:Func} {c:Code} {s:SCode} {args:List Value} {R:OutA→Mem→Prop} (hf:tb.funcs.get f=some fd) (hb:fd.body=some c) (hs:Qa6 c=s)
  (h:wpX tb ⟨f,.normal,none⟩ s (args++List.replicate (fd.ntmps-args.length) undef) [] m (bodyA tb fd R)):Qar tb f args m R :=
 Qsv hf hb (h c hs)
end
end Go.Ev

