/- A part of a proof: ScriptParses. -/
import Derived.Test.YtgmkbdmgifdfeaaGreatDoorA12
set_option linter.unusedVariables false
set_option linter.unusedSimpArgs false
namespace Go.Ev
open Go.RowKit
structure Vw where
 w:Bool
 elem:TypeId
 ext:Bool
 cs:List Value
noncomputable def vwRow (w:Bool) (r:Row):Option Vw :=
 match r.fz with
 | .none=>match cellsFrom r r.n 0 with
   |some cs=>some ⟨w,r.elem,r.ext,cs⟩
   |none=>none
 |_=>none
noncomputable def vwO:AObj→Option Vw
 | .row r=>vwRow true r
 | .glob r=>vwRow false r
 |_=>none
noncomputable def vw (m:Mem) (b:Nat):Option Vw :=
 match m.objs.get b with
 |some o=>vwO o
 |none=>none
theorem cellAt_ge {r:Row} {i:Nat} (h:r.n≤i):cellAt r i=none:=by
 obtain⟨ov,n,z,e,fz,x⟩:=r
 unfold cellAt
 simp only at h ⊢
 have:Nat.blt i n=false:=by
  cases hb:Nat.blt i n with
  |false=>rfl
  |true=>rw [Nat.blt_eq] at hb;omega
 rw [this]
theorem cellsFrom_all {r:Row} {cs:List Value} (h:∀ i,cellAt r i=cs[i]?):∀ k o,cellsFrom r k o=if k=0∨o+k≤cs.length then some (takeN cs o k) else none
 |0,o=>by simp [cellsFrom_zero,takeN]
 |k+1,o=>by
  rw [cellsFrom_succ,h o]
  by_cases ho:o<cs.length
  ·rw [List.getElem?_eq_getElem ho]
   simp only [oB]
   rw [cellsFrom_all h k (o+1)]
   by_cases hk:o+(k+1)≤cs.length
   ·rw [if_pos (by omega),if_pos (by omega)]
    simp only [takeN,oB]
    rw [List.drop_eq_getElem_cons ho,List.take_succ_cons]
   ·rw [if_neg (by omega),if_neg (by omega)]
  ·rw [List.getElem?_eq_none (by omega),if_neg (by omega)]
   rfl
theorem vwRow_spec {w:Bool} {r:Row} {v:Vw} (h:vwRow w r=some v):v.w=w∧r.n=v.cs.length∧r.elem=v.elem∧r.ext=v.ext∧r.fz=.none∧∀ i,cellAt r i=v.cs[i]? := by
 unfold vwRow at h
 split at h<;>first|(simp at h;done)|skip
 rename_i hf
 split at h<;>first|(simp at h;done)|skip
 rename_i cs hc
 obtain rfl:=Option.some.inj h
 obtain⟨h1,h2⟩:=cellsFrom_some hc
 refine⟨rfl,h1.symm,rfl,rfl,hf,fun i=>?_⟩
 by_cases hi:i<cs.length
 ·have:=h2 i _ (List.getElem?_eq_getElem hi)
  rw [Nat.zero_add] at this
  rw [this,List.getElem?_eq_getElem hi]
 ·have h1:cs.length=r.n:=h1
  rw [cellAt_ge (by omega),List.getElem?_eq_none (by simpa using hi)]
theorem vwRow_of {w:Bool} {r:Row} {cs:List Value} (hf:r.fz=.none) (hn:r.n=cs.length) (h:∀ i,cellAt r i=cs[i]?):vwRow w r=some ⟨w,r.elem,r.ext,cs⟩:=by
 unfold vwRow
 rw [hf]
 simp only
 rw [cellsFrom_all h,if_pos (by omega)]
 simp [takeN,hn]
theorem vw_spec {m:Mem} {b:Nat} {v:Vw} (h:vw m b=some v):∃ r,rowOf m b=some r∧r.n=v.cs.length∧r.elem=v.elem∧r.ext=v.ext∧r.fz=.none∧(∀ i,cellAt r i=v.cs[i]?)∧(v.w=true→rowW m b=some r)∧(v.w=false→rowW m b=none):=by
 unfold vw at h
 split at h<;>first|(simp at h;done)|skip
 rename_i o ho
 unfold vwO at h
 split at h<;>first|(simp at h;done)|skip
 ·rename_i r
  obtain⟨h0,h1,h2,h3,h4,h5⟩:=vwRow_spec h
  refine⟨r,by simp [rowOf,ho],h1,h2,h3,h4,h5,fun _=>by simp [rowW,ho],fun e=>?_⟩
  rw [h0] at e;cases e
 ·rename_i r
  obtain⟨h0,h1,h2,h3,h4,h5⟩:=vwRow_spec h
  refine⟨r,by simp [rowOf,ho],h1,h2,h3,h4,h5,fun e=>?_,fun _=>by simp [rowW,ho]⟩
  rw [h0] at e;cases e
def spl (cs:List Value):Nat→List Value→List Value
 |_,[]=>cs
 |i,v::l=>spl (cs.set i v) (i+1) l
theorem spl_length:∀ (l:List Value) (cs:List Value) (i:Nat),(spl cs i l).length=cs.length
 | [],_,_=>rfl
 |v::l,cs,i=>by rw [spl,spl_length l];simp
theorem spl_get:∀ (l:List Value) (cs:List Value) (i k:Nat),i+l.length≤cs.length→(spl cs i l)[k]? = if i≤k∧k<i+l.length then l[k-i]? else cs[k]?
 | [],cs,i,k,h=>by simp [spl];intros;omega
 |v::l,cs,i,k,h=>by
  simp only [List.length_cons] at h ⊢
  rw [spl,spl_get l _ _ _ (by simp;omega)]
  by_cases h1:i+1≤k∧k<i+1+l.length
  ·rw [if_pos h1,if_pos (by omega),show k-i=(k-(i+1))+1 from by omega];simp
  ·rw [if_neg h1,List.getElem?_set]
   by_cases h2:i=k
   ·subst h2
    rw [if_pos rfl,if_pos (by omega),if_pos (by omega)];simp
   ·rw [if_neg h2,if_neg (by omega)]
theorem spl_eq {cs:List Value} {i:Nat} {l:List Value} (h:i+l.length≤cs.length):spl cs i l=cs.take i++l++cs.drop (i+l.length):=by
 apply List.ext_getElem?
 intro k
 rw [spl_get l cs i k h]
 simp only [List.getElem?_append,List.length_append,List.length_take,Nat.min_eq_left (show i≤cs.length by omega)]
 by_cases h1:k<i
 ·rw [if_neg (by omega),if_pos (by omega),if_pos h1,List.getElem?_take,if_pos h1]
 ·by_cases h2:k<i+l.length
  ·rw [if_pos (by omega),if_pos h2,if_neg h1]
  ·rw [if_neg (by omega),if_neg h2,List.getElem?_drop];congr 1;omega
noncomputable def stM (m:Mem) (b i:Nat) (l:List Value):Mem:=match storeCellsA m b i l with|some m'=>m'|none=>m
def stOk (V:Vw) (i:Nat) (l:List Value):Bool:=V.w&&Nat.ble (i+l.length) V.cs.length&&l.all oneC
theorem storeCells_ok {m:Mem} {b i:Nat} {l:List Value} {V:Vw} (hv:vw m b=some V) (h:stOk V i l=true) :
  ∃ r',storeCellsA m b i l=some (putObj m b (.row r'))∧vwRow true r'=some ⟨true,V.elem,V.ext,spl V.cs i l⟩:=by
 obtain⟨r,h1,h2,h3,h4,h5,h6,h7,h8⟩:=vw_spec hv
 unfold stOk at h
 simp only [Bool.and_eq_true,Nat.ble_eq] at h
 obtain⟨⟨hw,hl⟩,ha⟩:=h
 obtain⟨ov,n,z,e,fz,x⟩:=r
 simp only at h2 h3 h4 h5
 subst h5
 have hrow:=h7 hw
 refine⟨⟨T.setL l i ov,n,z,e,.none,x⟩,?_,?_⟩
 ·unfold storeCellsA
  rw [hrow]
  simp only [oB,setCells,fzOk]
  have:(Nat.ble (i+l.length) n&&l.all oneC)=true:=by
   rw [ha,Bool.and_true,Nat.ble_eq];omega
  rw [this]
 ·have:=vwRow_of (w:=true) (r:=⟨T.setL l i ov,n,z,e,.none,x⟩) (cs:=spl V.cs i l) rfl (by rw [spl_length];exact h2) fun k=>by
   rw [spl_get _ _ _ _ hl,← h6]
   unfold cellAt
   simp only
   rw [T.get_setL]
   by_cases hk:k<n
   ·have hb:Nat.blt k n=true:=by rw [Nat.blt_eq];exact hk
    rw [hb]
    simp only
    by_cases h1:k<i
    ·rw [if_pos h1,if_neg (by omega)]
    ·rw [if_neg h1]
     by_cases h2:k<i+l.length
     ·rw [if_pos h2,if_pos (by omega),List.getElem?_eq_getElem (by omega)]
     ·rw [if_neg h2,if_neg (by omega)]
   ·have hb:Nat.blt k n=false:=by
     cases hb:Nat.blt k n with
     |false=>rfl
     |true=>rw [Nat.blt_eq] at hb;omega
    rw [hb]
    simp only
    rw [if_neg (by omega)]
  rw [this]
  simp only [h3,h4]
theorem storeCells_vw {m:Mem} {b i:Nat} {l:List Value} {V:Vw} (hv:vw m b=some V) (h:stOk V i l=true):storeCellsA m b i l=some (stM m b i l):=by
 obtain⟨r',h1,h2⟩:=storeCells_ok hv h
 unfold stM
 rw [h1]
theorem storeCells_shape {m m':Mem} {b i:Nat} {l:List Value} (h:storeCellsA m b i l=some m'):∃ r',m'=putObj m b (.row r'):=by
 unfold storeCellsA at h
 rw [oB_some] at h
 obtain⟨r,_,h⟩:=h
 rw [oB_some] at h
 obtain⟨r',_,h⟩:=h
 exact⟨r',(Option.some.inj h).symm⟩
theorem stM_get {m:Mem} {b i x:Nat} {l:List Value} (hx:x≠b):(stM m b i l).objs.get x=m.objs.get x:=by
 unfold stM
 split
 ·rename_i m' h
  obtain⟨r',rfl⟩:=storeCells_shape h
  rw [get_putObj,if_neg hx]
 ·rfl
theorem stM_next {m:Mem} {b i:Nat} {l:List Value}:(stM m b i l).next=m.next:=by
 unfold stM
 split
 ·rename_i m' h
  obtain⟨r',rfl⟩:=storeCells_shape h
  rfl
 ·rfl
theorem vw_stM_ne {m:Mem} {b i x:Nat} {l:List Value} (hx:x≠b):vw (stM m b i l) x=vw m x:=by unfold vw;rw [stM_get hx]
theorem vw_stM_eq {m:Mem} {b i:Nat} {l:List Value} {V:Vw} (hv:vw m b=some V) (h:stOk V i l=true):vw (stM m b i l) b=some ⟨true,V.elem,V.ext,spl V.cs i l⟩:=by
 obtain⟨r',h1,h2⟩:=storeCells_ok hv h
 unfold stM
 rw [h1]
 unfold vw
 simp only [get_putObj,if_true,vwO,h2]
theorem vw_new {m:Mem} {o:AObj} {x:Nat}:vw (newObjA m o) x=if x=m.next then vwO o else vw m x:=by
 unfold vw
 rw [get_newObjA]
 by_cases h:x=m.next
 ·rw [if_pos h,if_pos h]
 ·rw [if_neg h,if_neg h]
theorem vw_put {m:Mem} {o:AObj} {b x:Nat}:vw (putObj m b o) x=if x=b then vwO o else vw m x:=by
 unfold vw
 rw [get_putObj]
 by_cases h:x=b
 ·rw [if_pos h,if_pos h]
 ·rw [if_neg h,if_neg h]
theorem vwO_rowObj (e:TypeId) (cells:List Value) (x:Bool):vwO (rowObj e cells .none x)=some ⟨true,e,x,cells⟩:=by
 unfold rowObj vwO
 refine vwRow_of (r:=⟨T.ofList cells,cells.length,[],e,.none,x⟩) rfl rfl fun i=>?_
 unfold cellAt
 simp only [T.get_ofList]
 by_cases hi:i<cells.length
 ·have hb:Nat.blt i cells.length=true:=by rw [Nat.blt_eq];exact hi
  rw [hb,List.getElem?_eq_getElem hi]
 ·have hb:Nat.blt i cells.length=false:=by
   cases hb:Nat.blt i cells.length with
   |false=>rfl
   |true=>rw [Nat.blt_eq] at hb;omega
  rw [hb,List.getElem?_eq_none (by omega)]
theorem vwRow_zero (w:Bool) (e:TypeId) (z:List Value) (n:Nat) (x:Bool):vwRow w ⟨.lf,n*z.length,z,e,.none,x⟩=some ⟨w,e,x,repl z n⟩:=by
 refine vwRow_of (r:=⟨.lf,n*z.length,z,e,.none,x⟩) rfl (repl_length z n).symm fun i=>?_
 unfold cellAt
 simp only [T.get_lf]
 by_cases hi:i<n*z.length
 ·have hb:Nat.blt i (n*z.length)=true:=by rw [Nat.blt_eq];exact hi
  rw [hb,repl_get,if_pos hi]
 ·have hb:Nat.blt i (n*z.length)=false:=by
   cases hb:Nat.blt i (n*z.length) with
   |false=>rfl
   |true=>rw [Nat.blt_eq] at hb;omega
  rw [hb,repl_get,if_neg hi]
theorem vwO_zeroObj (e:TypeId) (z:List Value) (n:Nat):vwO (zeroObj e (n*z.length) z)=some ⟨true,e,false,repl z n⟩:=vwRow_zero _ _ _ _ _
theorem vwO_zero1 (e:TypeId) (z:List Value):vwO (zeroObj e z.length z)=some ⟨true,e,false,z⟩:=by
 have:=vwO_zeroObj e z 1
 rw [Nat.one_mul] at this
 rw [this];simp [repl]
theorem vwRow_setL {w:Bool} {c:T Value} {n:Nat} {z l:List Value} {e:TypeId} {x:Bool} {o:Nat} {V:Vw} (h:vwRow w ⟨c,n,z,e,.none,x⟩=some V) (hl:o+l.length≤n) :
  vwRow w ⟨T.setL l o c,n,z,e,.none,x⟩=some ⟨w,e,x,spl V.cs o l⟩:=by
 obtain⟨h0,h1,h2,h3,h4,h5⟩:=vwRow_spec h
 simp only at h1 h2 h3
 refine vwRow_of (r:=⟨T.setL l o c,n,z,e,.none,x⟩) rfl (by rw [spl_length];exact h1) fun k=>?_
 rw [spl_get _ _ _ _ (by omega),← h5]
 unfold cellAt
 simp only
 rw [T.get_setL]
 by_cases hk:k<n
 ·have hb:Nat.blt k n=true:=by rw [Nat.blt_eq];exact hk
  rw [hb]
  simp only
  by_cases h1:k<o
  ·rw [if_pos h1,if_neg (by omega)]
  ·rw [if_neg h1]
   by_cases h2:k<o+l.length
   ·rw [if_pos h2,if_pos (by omega),List.getElem?_eq_getElem (by omega)]
   ·rw [if_neg h2,if_neg (by omega)]
 ·have hb:Nat.blt k n=false:=by
   cases hb:Nat.blt k n with
   |false=>rfl
   |true=>rw [Nat.blt_eq] at hb;omega
  rw [hb]
  simp only
  rw [if_neg (by omega)]
end Go.Ev

namespace Go.Ev
open Go.RowKit
section
variable {tb:Tabs} {l:List Value} {m:Mem}
theorem evL_tmp (i:Nat):evL l (.tmp i)=l.getD i undef:=slots_ofList l i
theorem evL_const (v:Value):evL l (.const v)=v:=_root_.id rfl
theorem evL_func (f:FuncId):evL l (.func f)=.func (.func f) #[] #[]:=_root_.id rfl
theorem evsL_nil:evsL l []=[]:=_root_.id rfl
theorem evsL_cons (x:Operand) (xs:List Operand):evsL l (x::xs)=evL l x::evsL l xs:=_root_.id rfl
noncomputable def evPL (l:List Value) (x:List (Nat × Operand)):List (Nat × Value):=evP (T.ofList l) x
theorem evPL_nil:evPL l []=[]:=_root_.id rfl
theorem evPL_cons (i:Nat) (x:Operand) (xs:List (Nat × Operand)):evPL l ((i,x)::xs)=(i,evL l x)::evPL l xs:=_root_.id rfl
noncomputable def evOL (l:List Value) (x:Option Operand):Option Value:=evO (T.ofList l) x
theorem evOL_none:evOL l none=none:=_root_.id rfl
theorem evOL_some (x:Operand):evOL l (some x)=some (evL l x):=_root_.id rfl
theorem o_move (x:Operand):opA (.move x) tb (T.ofList l) m=.r (evL l x):=_root_.id rfl
theorem o_assign (x:Operand):opA (.assign x) tb (T.ofList l) m=.e (evL l x) m:=_root_.id rfl
theorem o_pick (c a b:Operand):opA (.pick c a b) tb (T.ofList l) m=opPick (evL l c) (evL l a) (evL l b):=_root_.id rfl
theorem o_alloc (e:TypeId):opA (.alloc e) tb (T.ofList l) m=opAlloc tb e:=_root_.id rfl
theorem o_box (e:TypeId) (x:Operand):opA (.box e x) tb (T.ofList l) m=.f (rowObj e (cellsOfV (evL l x)) .none false) ptr0:=_root_.id rfl
theorem o_build (ty:TypeId) (ps:Array (Nat × Operand)):opA (.build ty ps) tb (T.ofList l) m=oR (buildA tb ty (evPL l ps.toList)):=_root_.id rfl
theorem o_buildSlice (ty:TypeId) (n:Nat) (ps:Array (Nat × Operand)):opA (.buildSlice ty n ps) tb (T.ofList l) m=opBuildSlice tb ty n (evPL l ps.toList):=_root_.id rfl
theorem o_load (ty:TypeId) (a:Operand):opA (.load ty a) tb (T.ofList l) m=opLoad tb ty m (evL l a):=_root_.id rfl
theorem o_store (ty:TypeId) (a x:Operand):opA (.store ty a x) tb (T.ofList l) m=opStore tb ty m (evL l a) (evL l x):=_root_.id rfl
theorem o_nilCheck (x:Operand):opA (.nilCheck x) tb (T.ofList l) m=opNilCheck (evL l x):=_root_.id rfl
theorem o_binOp (op:BinOp) (ty:TypeId) (x y:Operand) (yt:TypeId):opA (.binOp op ty x y yt) tb (T.ofList l) m=oR (binA tb m op ty x y (evL l x) (evL l y)):=_root_.id rfl
theorem o_unOp (op:UnOp) (ty:TypeId) (x:Operand):opA (.unOp op ty x) tb (T.ofList l) m=oR (unA op (evL l x)):=_root_.id rfl
theorem o_convert (s d:TypeId) (x:Operand):opA (.convert s d x) tb (T.ofList l) m=opConv tb m s d (evL l x):=_root_.id rfl
theorem o_makeInterface (ty:TypeId) (x:Operand):opA (.makeInterface ty x) tb (T.ofList l) m=opMkIface tb ty (evL l x):=_root_.id rfl
theorem o_makeFunc (f:FuncId) (first cap:Array Operand):opA (.makeFunc (.func f) first cap) tb (T.ofList l) m=.r (.func (.func f) ⟨evsL l first.toList⟩ ⟨evsL l cap.toList⟩):=_root_.id rfl
theorem o_slice (ty:TypeId) (x:Operand) (lo hi mx:Option Operand):opA (.slice ty x lo hi mx) tb (T.ofList l) m=oR (sliceA tb ty m (evL l x) (evOL l lo) (evOL l hi) (evOL l mx)):=_root_.id rfl
theorem o_fieldAddr (ty:TypeId) (x:Operand) (f:Nat):opA (.fieldAddr ty x f) tb (T.ofList l) m=oR (fieldAddrA tb ty (evL l x) f):=_root_.id rfl
theorem o_indexAddr (ty:TypeId) (x i:Operand):opA (.indexAddr ty x i) tb (T.ofList l) m=oR (indexAddrA tb ty (evL l x) (evL l i)):=_root_.id rfl
theorem o_index (ty:TypeId) (x i:Operand):opA (.index ty x i) tb (T.ofList l) m=oR (indexA tb ty (evL l x) (evL l i)):=_root_.id rfl
theorem o_typeAssert (x:Operand) (t:TypeId) (a:TypeId) (ok:Bool):opA (.typeAssert x t a ok) tb (T.ofList l) m=oR (typeAssertA tb (evL l x) a ok):=_root_.id rfl
theorem o_extract (x:Operand) (i:Nat):opA (.extract x i) tb (T.ofList l) m=opExtract (evL l x) i:=_root_.id rfl
theorem o_callV (f:Operand) (args:Array Operand) (tys:Array TypeId):opA (.call ⟨.value f,args,tys⟩) tb (T.ofList l) m=.c:=_root_.id rfl
theorem o_callB (b:Builtin) (args:Array Operand) (tys:Array TypeId):opA (.call ⟨.builtin b,args,tys⟩) tb (T.ofList l) m=opBuiltin tb m b tys.toList (evsL l args.toList):=_root_.id rfl
theorem o_defer (c:Call):opA (.defer c) tb (T.ofList l) m=.c:=_root_.id rfl
theorem o_panic (x:Operand):opA (.panic x) tb (T.ofList l) m=.c:=_root_.id rfl
theorem kEq_self (k:IntKind):kEq k k=true:=by cases k<;>rfl
theorem b_add (k:IntKind) (t:TypeId) (x y:Operand) (a b:Int):binA tb m .add t x y (.int k a) (.int k b)=some (.int k (k.wrap (a+b))):=by
 simp only [binA,kEq_self,intOp,vInt_eq,wrapF_eq,addI_eq]
theorem b_sub (k:IntKind) (t:TypeId) (x y:Operand) (a b:Int):binA tb m .sub t x y (.int k a) (.int k b)=some (.int k (k.wrap (a-b))):=by
 simp only [binA,kEq_self,intOp,vInt_eq,wrapF_eq,subI_eq]
theorem b_mul (k:IntKind) (t:TypeId) (x y:Operand) (a b:Int):binA tb m .mul t x y (.int k a) (.int k b)=some (.int k (k.wrap (a*b))):=by
 simp only [binA,kEq_self,intOp,vInt_eq,wrapF_eq,mulI_eq]
theorem b_eql (k:IntKind) (t:TypeId) (x y:Operand) (a b:Int):binA tb m .eql t x y (.int k a) (.int k b)=some (.bool (decide (a=b))):=by
 simp only [binA,kEq_self,intOp,intEq_eq];rfl
theorem b_neq (k:IntKind) (t:TypeId) (x y:Operand) (a b:Int):binA tb m .neq t x y (.int k a) (.int k b)=some (.bool (!decide (a=b))):=by
 simp only [binA,kEq_self,intOp,intEq_eq];rfl
theorem b_lss (k:IntKind) (t:TypeId) (x y:Operand) (a b:Int):binA tb m .lss t x y (.int k a) (.int k b)=some (.bool (decide (a<b))):=by
 simp only [binA,kEq_self,intOp,intLt_eq]
theorem b_gtr (k:IntKind) (t:TypeId) (x y:Operand) (a b:Int):binA tb m .gtr t x y (.int k a) (.int k b)=some (.bool (decide (b<a))):=by
 simp only [binA,kEq_self,intOp,intLt_eq]
theorem b_leq (k:IntKind) (t:TypeId) (x y:Operand) (a b:Int):binA tb m .leq t x y (.int k a) (.int k b)=some (.bool (decide (a≤b))):=by
 simp only [binA,kEq_self,intOp,intLt_eq,← decide_not,Int.not_lt]
theorem b_geq (k:IntKind) (t:TypeId) (x y:Operand) (a b:Int):binA tb m .geq t x y (.int k a) (.int k b)=some (.bool (decide (b≤a))):=by
 simp only [binA,kEq_self,intOp,intLt_eq,← decide_not,Int.not_lt]
theorem b_beql (t:TypeId) (x y:Operand) (a b:ByteArray):binA tb m .eql t x y (.string a) (.string b)=some (.bool (decide (a.data.toList=b.data.toList))):=by
 simp only [binA,strOp,bytesEq_eq]
 congr 2;rw [Bool.eq_iff_iff];simp
theorem b_bneq (t:TypeId) (x y:Operand) (a b:ByteArray):binA tb m .neq t x y (.string a) (.string b)=some (.bool (!decide (a.data.toList=b.data.toList))):=by
 simp only [binA,strOp,bytesEq_eq]
 congr 3;rw [Bool.eq_iff_iff];simp
theorem b_shl (k k':IntKind) (t:TypeId) (x y:Operand) (a s:Nat):binA tb m .shl t x y (.int k (a:Int)) (.int k' (s:Int))=some (.int k (k.wrap ((a*2 ^ Nat.min s k.bits:Nat):Int))):=by
 show shiftOp .shl k (.ofNat a) (.ofNat s)=_
 have:wrapN k (Nat.shiftLeft a (Nat.min s k.bits))=k.wrap ((a*2 ^ Nat.min s k.bits:Nat):Int):=by
  have:=wrapF_eq k (.ofNat (Nat.shiftLeft a (Nat.min s k.bits)))
  rw [show wrapF k (.ofNat (Nat.shiftLeft a (Nat.min s k.bits)))=wrapN k (Nat.shiftLeft a (Nat.min s k.bits)) from rfl] at this
  rw [this]
  congr 1
  show ((a <<< Nat.min s k.bits:Nat):Int)=_
  rw [Nat.shiftLeft_eq]
 simp only [shiftOp,vInt_eq,this]
theorem b_or (k:IntKind) (t:TypeId) (x y:Operand) (a b:Nat):binA tb m .or t x y (.int k (a:Int)) (.int k (b:Int))=some (.int k (k.wrap ((a ||| b:Nat):Int))):=by
 have:=wrapF_eq k (.ofNat (Nat.lor a b))
 rw [show wrapF k (.ofNat (Nat.lor a b))=wrapN k (Nat.lor a b) from rfl] at this
 simp only [binA,kEq_self,intOp]
 show oI k (some (wrapN k (Nat.lor a b)))=_
 rw [this];simp only [oI,vInt_eq];rfl
theorem u_not (b:Bool):unA .not (.bool b)=some (.bool !b):=_root_.id rfl
theorem u_neg (k:IntKind) (n:Int):unA .neg (.int k n)=some (.int k (k.wrap (-n))):=by
 simp only [unA,vInt_eq,wrapF_eq,subI_eq]
 congr 3;omega
theorem wr64 (n:Int) (h1 : -9223372036854775808≤n) (h2:n<9223372036854775808):IntKind.wrap .i64 n=n:=by
 rw [wrap_i64];split<;>omega
theorem wru64 (n:Int) (h1:0≤n) (h2:n<18446744073709551616):IntKind.wrap .u64 n=n:=by rw [wrap_u64];omega
theorem wru8 (n:Int) (h1:0≤n) (h2:n<256):IntKind.wrap .u8 n=n:=by rw [wrap_u8];omega
theorem wru32 (n:Int) (h1:0≤n) (h2:n<4294967296):IntKind.wrap .u32 n=n:=by rw [wrap_u32];omega
def ldV (i:TI) (cs:List Value) (o:Nat):Option Value :=
 match i.agg with
 |true=>if i.inf.size=0∨o+i.inf.size≤cs.length then some (.agg ⟨takeN cs o i.inf.size⟩) else none
 |false=>cs[o]?
noncomputable def ldX (tb:Tabs) (t:TypeId) (m:Mem) (b o:Nat) (s:Option Nat):OR:=opLoad tb t m (.pointer (some ⟨b,o,s⟩))
noncomputable def ldW (tb:Tabs) (t:TypeId) (m:Mem) (b o:Nat) (s:Option Nat):Option TI→Option Vw→OR
 |some i,some V=>oR (ldV i V.cs o)
 |_,_=>ldX tb t m b o s
theorem o_loadW (t:TypeId) (b o:Nat) (s:Option Nat):opLoad tb t m (.pointer (some ⟨b,o,s⟩))=ldW tb t m b o s (ti tb t) (vw m b):=by
 unfold ldW
 split
 ·rename_i i V hi hv
  obtain⟨r,h1,h2,h3,h4,h5,h6,_⟩:=vw_spec hv
  simp only [opLoad,loadA,hi,oB,h1,ldV]
  cases ha:i.agg with
  |true =>
   simp only
   rw [cellsFrom_all h6]
   by_cases hc:i.inf.size=0∨o+i.inf.size≤V.cs.length
   ·rw [if_pos hc,if_pos hc]
   ·rw [if_neg hc,if_neg hc]
  |false =>
   simp only
   rw [h6]
 ·rfl
theorem ldW_some (t:TypeId) (b o:Nat) (s:Option Nat) (i:TI) (w:Bool) (e:TypeId) (x:Bool) (cs:List Value):ldW tb t m b o s (some i) (some ⟨w,e,x,cs⟩)=oR (ldV i cs o):=_root_.id rfl
noncomputable def stX (tb:Tabs) (t:TypeId) (m:Mem) (b o:Nat) (s:Option Nat) (v:Value):OR:=opStore tb t m (.pointer (some ⟨b,o,s⟩)) v
noncomputable def stW (tb:Tabs) (t:TypeId) (m:Mem) (b o:Nat) (s:Option Nat) (v:Value):Option TI→Option Vw→OR
 |some i,some V=>if (cellsOfV v).length=i.inf.size∧stOk V o (cellsOfV v)=true then .e undef (stM m b o (cellsOfV v)) else stX tb t m b o s v
 |_,_=>stX tb t m b o s v
theorem o_storeW (t:TypeId) (b o:Nat) (s:Option Nat) (v:Value):opStore tb t m (.pointer (some ⟨b,o,s⟩)) v=stW tb t m b o s v (ti tb t) (vw m b):=by
 unfold stW
 split
 ·rename_i i V hi hv
  split
  ·rename_i h
   obtain⟨h1,h2⟩:=h
   have:Nat.beq (cellsOfV v).length i.inf.size=true:=by rw [Nat.beq_eq];exact h1
   simp only [opStore,storeA,hi,oB,this,storeCells_vw hv h2,oM]
  ·rfl
 ·rfl
theorem stW_some (t:TypeId) (b o:Nat) (s:Option Nat) (v:Value) (i:TI) (V:Vw):stW tb t m b o s v (some i) (some V)=if (cellsOfV v).length=i.inf.size∧stOk V o (cellsOfV v)=true then .e undef (stM m b o (cellsOfV v)) else stX tb t m b o s v:=_root_.id rfl
theorem ap_in {b o sl sc:Nat} {s:Option Nat} {V:Vw} (e:TypeId) (sz n:Nat) (new:List Value) (hv:vw m b=some V) (hn:new≠[]) (hc:sl+n≤sc) (hs:stOk V (o+sl*sz) new=true) :
  appendTo m e sz (.slice (some ⟨b,o,s⟩) sl sc) n new=some (.slice (some ⟨b,o,s⟩) (sl+n) sc,stM m b (o+sl*sz) new):=by
 have:Nat.ble (sl+n) sc=true:=by rw [Nat.ble_eq];exact hc
 simp only [appendTo,this]
 cases new with
 |nil=>exact absurd rfl hn
 |cons v new=>simp only [storeCells_vw hv hs,oB]
theorem ap_zero {b o sl sc:Nat} {s:Option Nat} (e:TypeId) (sz:Nat) (hc:sl≤sc):appendTo m e sz (.slice (some ⟨b,o,s⟩) sl sc) 0 []=some (.slice (some ⟨b,o,s⟩) sl sc,m):=by
 have:Nat.ble sl sc=true:=by rw [Nat.ble_eq];exact hc
 simp only [appendTo,this,Nat.add_zero]
theorem ap_fix {b o sl sc:Nat} {V:Vw} (e:TypeId) (sz n:Nat) (new:List Value) (s:Option Nat) (hv:vw m b=some V) (hx:V.ext=false) (hc:sc<sl+n) (hb:sl*sz=0∨o+sl*sz≤V.cs.length) :
  appendTo m e sz (.slice (some ⟨b,o,s⟩) sl sc) n new=some (.slice (some ⟨m.next,0,none⟩) (sl+n) (sl+n),newObjA m (rowObj e (takeN V.cs o (sl*sz)++new) .none true)):=by
 obtain⟨r,h1,h2,h3,h4,h5,h6,_⟩:=vw_spec hv
 have:Nat.ble (sl+n) sc=false:=by
  cases hb:Nat.ble (sl+n) sc with
  |false=>rfl
  |true=>rw [Nat.ble_eq] at hb;omega
 simp only [appendTo,this,growA,h1,oB]
 rw [h4,hx]
 simp only
 rw [cellsFrom_all h6,if_pos hb]
 rfl
theorem ap_grow {b o sl sc:Nat} {V:Vw} (e:TypeId) (sz n:Nat) (new:List Value) (hv:vw m b=some V) (hx:V.ext=true) (hw:V.w=true) (hc:sc<sl+n) (he:o+sc*sz=V.cs.length) (het:V.elem=e) (hn:new.length=n*sz) (ha:new.all oneC=true) (hsl:sl≤sc) :
  appendTo m e sz (.slice (some ⟨b,o,none⟩) sl sc) n new=some (.slice (some ⟨m.next,0,none⟩) (sl+n) (sl+n),newObjA (putObj m b .dead) (rowObj e (takeN V.cs o (sl*sz)++new) .none true)):=by
 obtain⟨r,h1,h2,h3,h4,h5,h6,h7,_⟩:=vw_spec hv
 have hb:Nat.ble (sl+n) sc=false:=by
  cases hb:Nat.ble (sl+n) sc with
  |false=>rfl
  |true=>rw [Nat.ble_eq] at hb;omega
 have h8:=h7 hw
 have e1:(Nat.beq (o+sc*sz) r.n&&Nat.beq r.elem e&&Nat.beq new.length (n*sz)&&new.all oneC)=true:=by
  rw [h2,h3,he,het,hn,ha];simp
 have hle:sl*sz≤sc*sz:=Nat.mul_le_mul_right sz hsl
 simp only [appendTo,hb,growA,h1,oB,h4,hx,h5,h8,e1]
 rw [cellsFrom_all h6,if_pos (by omega)]
 rfl
theorem fi_slice {b o l c k:Nat} {s:Option Nat} {V:Vw} (n:Nat) (hv:vw m b=some V) (h:k=0∨o+k≤V.cs.length):firstA m k n (.slice (some ⟨b,o,s⟩) l c)=some (takeN V.cs o k):=by
 obtain⟨r,h1,h2,h3,h4,h5,h6,_⟩:=vw_spec hv
 cases k with
 |zero=>simp [firstA,takeN]
 |succ k =>
  simp only [firstA,h1,oB]
  rw [cellsFrom_all h6,if_pos h]
end
end Go.Ev

