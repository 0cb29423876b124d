/- A part of a proof: ScriptOwn. -/
import Derived.Test.YtgmkbdmgifdfeaaGreatDoorF10
set_option linter.unusedVariables false
set_option linter.unusedSimpArgs false
namespace Go.Ev
open Go.RowKit
structure Vw where
 w:Bool
 elem:TypeId
 ext:Bool
 cs:List Value
noncomputable def vwRow (w:Bool) (r:Row):Option Vw :=
 match r.fz with
 | .none=>match cellsFrom r r.n 0 with
   |some cs=>some ⟨w,r.elem,r.ext,cs⟩
   |none=>none
 |_=>none
noncomputable def vwO:AObj→Option Vw
 | .row r=>vwRow true r
 | .glob r=>vwRow false r
 |_=>none
noncomputable def vw (m:Mem) (b:Nat):Option Vw :=
 match m.objs.get b with
 |some o=>vwO o
 |none=>none
theorem cellAt_ge {r:Row} {i:Nat} (h:r.n≤i):cellAt r i=none:=by
 obtain⟨ov,n,z,e,fz,x⟩:=r
 unfold cellAt
 simp only at h ⊢
 have:Nat.blt i n=false:=by
  cases hb:Nat.blt i n with
  |false=>rfl
  |true=>rw [Nat.blt_eq] at hb;omega
 rw [this]
theorem cellsFrom_all {r:Row} {cs:List Value} (h:∀ i,cellAt r i=cs[i]?):∀ k o,cellsFrom r k o=if k=0∨o+k≤cs.length then some (takeN cs o k) else none
 |0,o=>by simp [cellsFrom_zero,takeN]
 |k+1,o=>by
  rw [cellsFrom_succ,h o]
  by_cases ho:o<cs.length
  ·rw [List.getElem?_eq_getElem ho]
   simp only [oB]
   rw [cellsFrom_all h k (o+1)]
   by_cases hk:o+(k+1)≤cs.length
   ·rw [if_pos (by omega),if_pos (by omega)]
    simp only [takeN,oB]
    rw [List.drop_eq_getElem_cons ho,List.take_succ_cons]
   ·rw [if_neg (by omega),if_neg (by omega)]
  ·rw [List.getElem?_eq_none (by omega),if_neg (by omega)]
   rfl
theorem vwRow_spec {w:Bool} {r:Row} {v:Vw} (h:vwRow w r=some v):v.w=w∧r.n=v.cs.length∧r.elem=v.elem∧r.ext=v.ext∧r.fz=.none∧∀ i,cellAt r i=v.cs[i]? := by
 unfold vwRow at h
 split at h<;>first|(simp at h;done)|skip
 rename_i hf
 split at h<;>first|(simp at h;done)|skip
 rename_i cs hc
 obtain rfl:=Option.some.inj h
 obtain⟨h1,h2⟩:=cellsFrom_some hc
 refine⟨rfl,h1.symm,rfl,rfl,hf,fun i=>?_⟩
 by_cases hi:i<cs.length
 ·have:=h2 i _ (List.getElem?_eq_getElem hi)
  rw [Nat.zero_add] at this
  rw [this,List.getElem?_eq_getElem hi]
 ·have h1:cs.length=r.n:=h1
  rw [cellAt_ge (by omega),List.getElem?_eq_none (by simpa using hi)]
theorem vwRow_of {w:Bool} {r:Row} {cs:List Value} (hf:r.fz=.none) (hn:r.n=cs.length) (h:∀ i,cellAt r i=cs[i]?):vwRow w r=some ⟨w,r.elem,r.ext,cs⟩:=by
 unfold vwRow
 rw [hf]
 simp only
 rw [cellsFrom_all h,if_pos (by omega)]
 simp [takeN,hn]
theorem vw_spec {m:Mem} {b:Nat} {v:Vw} (h:vw m b=some v):∃ r,rowOf m b=some r∧r.n=v.cs.length∧r.elem=v.elem∧r.ext=v.ext∧r.fz=.none∧(∀ i,cellAt r i=v.cs[i]?)∧(v.w=true→rowW m b=some r)∧(v.w=false→rowW m b=none):=by
 unfold vw at h
 split at h<;>first|(simp at h;done)|skip
 rename_i o ho
 unfold vwO at h
 split at h<;>first|(simp at h;done)|skip
 ·rename_i r
  obtain⟨h0,h1,h2,h3,h4,h5⟩:=vwRow_spec h
  refine⟨r,by simp [rowOf,ho],h1,h2,h3,h4,h5,fun _=>by simp [rowW,ho],fun e=>?_⟩
  rw [h0] at e;cases e
 ·rename_i r
  obtain⟨h0,h1,h2,h3,h4,h5⟩:=vwRow_spec h
  refine⟨r,by simp [rowOf,ho],h1,h2,h3,h4,h5,fun e=>?_,fun _=>by simp [rowW,ho]⟩
  rw [h0] at e;cases e
def spl (cs:List Value):Nat→List Value→List Value
 |_,[]=>cs
 |i,v::l=>spl (cs.set i v) (i+1) l
theorem spl_length:∀ (l:List Value) (cs:List Value) (i:Nat),(spl cs i l).length=cs.length
 | [],_,_=>rfl
 |v::l,cs,i=>by rw [spl,spl_length l];simp
theorem spl_get:∀ (l:List Value) (cs:List Value) (i k:Nat),i+l.length≤cs.length→(spl cs i l)[k]? = if i≤k∧k<i+l.length then l[k-i]? else cs[k]?
 | [],cs,i,k,h=>by simp [spl];intros;omega
 |v::l,cs,i,k,h=>by
  simp only [List.length_cons] at h ⊢
  rw [spl,spl_get l _ _ _ (by simp;omega)]
  by_cases h1:i+1≤k∧k<i+1+l.length
  ·rw [if_pos h1,if_pos (by omega),show k-i=(k-(i+1))+1 from by omega];simp
  ·rw [if_neg h1,List.getElem?_set]
   by_cases h2:i=k
   ·subst h2
    rw [if_pos rfl,if_pos (by omega),if_pos (by omega)];simp
   ·rw [if_neg h2,if_neg (by omega)]
theorem spl_eq {cs:List Value} {i:Nat} {l:List Value} (h:i+l.length≤cs.length):spl cs i l=cs.take i++l++cs.drop (i+l.length):=by
 apply List.ext_getElem?
 intro k
 rw [spl_get l cs i k h]
 simp only [List.getElem?_append,List.length_append,List.length_take,Nat.min_eq_left (show i≤cs.length by omega)]
 by_cases h1:k<i
 ·rw [if_neg (by omega),if_pos (by omega),if_pos h1,List.getElem?_take,if_pos h1]
 ·by_cases h2:k<i+l.length
  ·rw [if_pos (by omega),if_pos h2,if_neg h1]
  ·rw [if_neg (by omega),if_neg h2,List.getElem?_drop];congr 1;omega
noncomputable def stM (m:Mem) (b i:Nat) (l:List Value):Mem:=match storeCellsA m b i l with|some m'=>m'|none=>m
def stOk (V:Vw) (i:Nat) (l:List Value):Bool:=V.w&&Nat.ble (i+l.length) V.cs.length&&l.all oneC
theorem storeCells_ok {m:Mem} {b i:Nat} {l:List Value} {V:Vw} (hv:vw m b=some V) (h:stOk V i l=true) :
  ∃ r',storeCellsA m b i l=some (putObj m b (.row r'))∧vwRow true r'=some ⟨true,V.elem,V.ext,spl V.cs i l⟩:=by
 obtain⟨r,h1,h2,h3,h4,h5,h6,h7,h8⟩:=vw_spec hv
 unfold stOk at h
 simp only [Bool.and_eq_true,Nat.ble_eq] at h
 obtain⟨⟨hw,hl⟩,ha⟩:=h
 obtain⟨ov,n,z,e,fz,x⟩:=r
 simp only at h2 h3 h4 h5
 subst h5
 have hrow:=h7 hw
 refine⟨⟨T.setL l i ov,n,z,e,.none,x⟩,?_,?_⟩
 ·unfold storeCellsA
  rw [hrow]
  simp only [oB,setCells,fzOk]
  have:(Nat.ble (i+l.length) n&&l.all oneC)=true:=by
   rw [ha,Bool.and_true,Nat.ble_eq];omega
  rw [this]
 ·have:=vwRow_of (w:=true) (r:=⟨T.setL l i ov,n,z,e,.none,x⟩) (cs:=spl V.cs i l) rfl (by rw [spl_length];exact h2) fun k=>by
   rw [spl_get _ _ _ _ hl,← h6]
   unfold cellAt
   simp only
   rw [T.get_setL]
   by_cases hk:k<n
   ·have hb:Nat.blt k n=true:=by rw [Nat.blt_eq];exact hk
    rw [hb]
    simp only
    by_cases h1:k<i
    ·rw [if_pos h1,if_neg (by omega)]
    ·rw [if_neg h1]
     by_cases h2:k<i+l.length
     ·rw [if_pos h2,if_pos (by omega),List.getElem?_eq_getElem (by omega)]
     ·rw [if_neg h2,if_neg (by omega)]
   ·have hb:Nat.blt k n=false:=by
     cases hb:Nat.blt k n with
     |false=>rfl
     |true=>rw [Nat.blt_eq] at hb;omega
    rw [hb]
    simp only
    rw [if_neg (by omega)]
  rw [this]
  simp only [h3,h4]
theorem storeCells_vw {m:Mem} {b i:Nat} {l:List Value} {V:Vw} (hv:vw m b=some V) (h:stOk V i l=true):storeCellsA m b i l=some (stM m b i l):=by
 obtain⟨r',h1,h2⟩:=storeCells_ok hv h
 unfold stM
 rw [h1]
theorem storeCells_shape {m m':Mem} {b i:Nat} {l:List Value} (h:storeCellsA m b i l=some m'):∃ r',m'=putObj m b (.row r'):=by
 unfold storeCellsA at h
 rw [oB_some] at h
 obtain⟨r,_,h⟩:=h
 rw [oB_some] at h
 obtain⟨r',_,h⟩:=h
 exact⟨r',(Option.some.inj h).symm⟩
theorem stM_get {m:Mem} {b i x:Nat} {l:List Value} (hx:x≠b):(stM m b i l).objs.get x=m.objs.get x:=by
 unfold stM
 split
 ·rename_i m' h
  obtain⟨r',rfl⟩:=storeCells_shape h
  rw [get_putObj,if_neg hx]
 ·rfl
theorem stM_next {m:Mem} {b i:Nat} {l:List Value}:(stM m b i l).next=m.next:=by
 unfold stM
 split
 ·rename_i m' h
  obtain⟨r',rfl⟩:=storeCells_shape h
  rfl
 ·rfl
theorem vw_stM_ne {m:Mem} {b i x:Nat} {l:List Value} (hx:x≠b):vw (stM m b i l) x=vw m x:=by unfold vw;rw [stM_get hx]
theorem vw_stM_eq {m:Mem} {b i:Nat} {l:List Value} {V:Vw} (hv:vw m b=some V) (h:stOk V i l=true):vw (stM m b i l) b=some ⟨true,V.elem,V.ext,spl V.cs i l⟩:=by
 obtain⟨r',h1,h2⟩:=storeCells_ok hv h
 unfold stM
 rw [h1]
 unfold vw
 simp only [get_putObj,if_true,vwO,h2]
theorem vw_new {m:Mem} {o:AObj} {x:Nat}:vw (newObjA m o) x=if x=m.next then vwO o else vw m x:=by
 unfold vw
 rw [get_newObjA]
 by_cases h:x=m.next
 ·rw [if_pos h,if_pos h]
 ·rw [if_neg h,if_neg h]
theorem vw_put {m:Mem} {o:AObj} {b x:Nat}:vw (putObj m b o) x=if x=b then vwO o else vw m x:=by
 unfold vw
 rw [get_putObj]
 by_cases h:x=b
 ·rw [if_pos h,if_pos h]
 ·rw [if_neg h,if_neg h]
theorem vwO_rowObj (e:TypeId) (cells:List Value) (x:Bool):vwO (rowObj e cells .none x)=some ⟨true,e,x,cells⟩:=by
 unfold rowObj vwO
 refine vwRow_of (r:=⟨T.ofList cells,cells.length,[],e,.none,x⟩) rfl rfl fun i=>?_
 unfold cellAt
 simp only [T.get_ofList]
 by_cases hi:i<cells.length
 ·have hb:Nat.blt i cells.length=true:=by rw [Nat.blt_eq];exact hi
  rw [hb,List.getElem?_eq_getElem hi]
 ·have hb:Nat.blt i cells.length=false:=by
   cases hb:Nat.blt i cells.length with
   |false=>rfl
   |true=>rw [Nat.blt_eq] at hb;omega
  rw [hb,List.getElem?_eq_none (by omega)]
theorem vwRow_zero (w:Bool) (e:TypeId) (z:List Value) (n:Nat) (x:Bool):vwRow w ⟨.lf,n*z.length,z,e,.none,x⟩=some ⟨w,e,x,repl z n⟩:=by
 refine vwRow_of (r:=⟨.lf,n*z.length,z,e,.none,x⟩) rfl (repl_length z n).symm fun i=>?_
 unfold cellAt
 simp only [T.get_lf]
 by_cases hi:i<n*z.length
 ·have hb:Nat.blt i (n*z.length)=true:=by rw [Nat.blt_eq];exact hi
  rw [hb,repl_get,if_pos hi]
 ·have hb:Nat.blt i (n*z.length)=false:=by
   cases hb:Nat.blt i (n*z.length) with
   |false=>rfl
   |true=>rw [Nat.blt_eq] at hb;omega
  rw [hb,repl_get,if_neg hi]
theorem vwO_zeroObj (e:TypeId) (z:List Value) (n:Nat):vwO (zeroObj e (n*z.length) z)=some ⟨true,e,false,repl z n⟩:=vwRow_zero _ _ _ _ _
theorem vwO_zero1 (e:TypeId) (z:List Value):vwO (zeroObj e z.length z)=some ⟨true,e,false,z⟩:=by
 have:=vwO_zeroObj e z 1
 rw [Nat.one_mul] at this
 rw [this];simp [repl]
theorem vwRow_setL {w:Bool} {c:T Value} {n:Nat} {z l:List Value} {e:TypeId} {x:Bool} {o:Nat} {V:Vw} (h:vwRow w ⟨c,n,z,e,.none,x⟩=some V) (hl:o+l.length≤n) :
  vwRow w ⟨T.setL l o c,n,z,e,.none,x⟩=some ⟨w,e,x,spl V.cs o l⟩:=by
 obtain⟨h0,h1,h2,h3,h4,h5⟩:=vwRow_spec h
 simp only at h1 h2 h3
 refine vwRow_of (r:=⟨T.setL l o c,n,z,e,.none,x⟩) rfl (by rw [spl_length];exact h1) fun k=>?_
 rw [spl_get _ _ _ _ (by omega),← h5]
 unfold cellAt
 simp only
 rw [T.get_setL]
 by_cases hk:k<n
 ·have hb:Nat.blt k n=true:=by rw [Nat.blt_eq];exact hk
  rw [hb]
  simp only
  by_cases h1:k<o
  ·rw [if_pos h1,if_neg (by omega)]
  ·rw [if_neg h1]
   by_cases h2:k<o+l.length
   ·rw [if_pos h2,if_pos (by omega),List.getElem?_eq_getElem (by omega)]
   ·rw [if_neg h2,if_neg (by omega)]
 ·have hb:Nat.blt k n=false:=by
   cases hb:Nat.blt k n with
   |false=>rfl
   |true=>rw [Nat.blt_eq] at hb;omega
  rw [hb]
  simp only
  rw [if_neg (by omega)]
end Go.Ev

namespace Go.Ev
open Go.RowKit
section
variable {tb:Tabs} {l:List Value} {m:Mem}
theorem evL_tmp (i:Nat):evL l (.tmp i)=l.getD i undef:=slots_ofList l i
theorem evL_const (v:Value):evL l (.const v)=v:=_root_.id rfl
theorem evL_func (f:FuncId):evL l (.func f)=.func (.func f) #[] #[]:=_root_.id rfl
theorem evsL_nil:evsL l []=[]:=_root_.id rfl
theorem evsL_cons (x:Operand) (xs:List Operand):evsL l (x::xs)=evL l x::evsL l xs:=_root_.id rfl
noncomputable def evPL (l:List Value) (x:List (Nat × Operand)):List (Nat × Value):=evP (T.ofList l) x
theorem evPL_nil:evPL l []=[]:=_root_.id rfl
theorem evPL_cons (i:Nat) (x:Operand) (xs:List (Nat × Operand)):evPL l ((i,x)::xs)=(i,evL l x)::evPL l xs:=_root_.id rfl
noncomputable def evOL (l:List Value) (x:Option Operand):Option Value:=evO (T.ofList l) x
theorem evOL_none:evOL l none=none:=_root_.id rfl
theorem evOL_some (x:Operand):evOL l (some x)=some (evL l x):=_root_.id rfl
theorem o_move (x:Operand):opA (.move x) tb (T.ofList l) m=.r (evL l x):=_root_.id rfl
theorem o_assign (x:Operand):opA (.assign x) tb (T.ofList l) m=.e (evL l x) m:=_root_.id rfl
theorem o_pick (c a b:Operand):opA (.pick c a b) tb (T.ofList l) m=opPick (evL l c) (evL l a) (evL l b):=_root_.id rfl
theorem o_alloc (e:TypeId):opA (.alloc e) tb (T.ofList l) m=opAlloc tb e:=_root_.id rfl
theorem o_box (e:TypeId) (x:Operand):opA (.box e x) tb (T.ofList l) m=.f (rowObj e (cellsOfV (evL l x)) .none false) ptr0:=_root_.id rfl
theorem o_build (ty:TypeId) (ps:Array (Nat × Operand)):opA (.build ty ps) tb (T.ofList l) m=oR (buildA tb ty (evPL l ps.toList)):=_root_.id rfl
theorem o_buildSlice (ty:TypeId) (n:Nat) (ps:Array (Nat × Operand)):opA (.buildSlice ty n ps) tb (T.ofList l) m=opBuildSlice tb ty n (evPL l ps.toList):=_root_.id rfl
theorem o_load (ty:TypeId) (a:Operand):opA (.load ty a) tb (T.ofList l) m=opLoad tb ty m (evL l a):=_root_.id rfl
theorem o_store (ty:TypeId) (a x:Operand):opA (.store ty a x) tb (T.ofList l) m=opStore tb ty m (evL l a) (evL l x):=_root_.id rfl
theorem o_nilCheck (x:Operand):opA (.nilCheck x) tb (T.ofList l) m=opNilCheck (evL l x):=_root_.id rfl
theorem o_binOp (op:BinOp) (ty:TypeId) (x y:Operand) (yt:TypeId):opA (.binOp op ty x y yt) tb (T.ofList l) m=oR (binA tb m op ty x y (evL l x) (evL l y)):=_root_.id rfl
theorem o_unOp (op:UnOp) (ty:TypeId) (x:Operand):opA (.unOp op ty x) tb (T.ofList l) m=oR (unA op (evL l x)):=_root_.id rfl
theorem o_convert (s d:TypeId) (x:Operand):opA (.convert s d x) tb (T.ofList l) m=opConv tb m s d (evL l x):=_root_.id rfl
theorem o_makeInterface (ty:TypeId) (x:Operand):opA (.makeInterface ty x) tb (T.ofList l) m=opMkIface tb ty (evL l x):=_root_.id rfl
theorem o_makeFunc (f:FuncId) (first cap:Array Operand):opA (.makeFunc (.func f) first cap) tb (T.ofList l) m=.r (.func (.func f) ⟨evsL l first.toList⟩ ⟨evsL l cap.toList⟩):=_root_.id rfl
theorem o_slice (ty:TypeId) (x:Operand) (lo hi mx:Option Operand):opA (.slice ty x lo hi mx) tb (T.ofList l) m=oR (sliceA tb ty m (evL l x) (evOL l lo) (evOL l hi) (evOL l mx)):=_root_.id rfl
theorem o_fieldAddr (ty:TypeId) (x:Operand) (f:Nat):opA (.fieldAddr ty x f) tb (T.ofList l) m=oR (fieldAddrA tb ty (evL l x) f):=_root_.id rfl
theorem o_indexAddr (ty:TypeId) (x i:Operand):opA (.indexAddr ty x i) tb (T.ofList l) m=oR (indexAddrA tb ty (evL l x) (evL l i)):=_root_.id rfl
theorem o_index (ty:TypeId) (x i:Operand):opA (.index ty x i) tb (T.ofList l) m=oR (indexA tb ty (evL l x) (evL l i)):=_root_.id rfl
theorem o_typeAssert (x:Operand) (t:TypeId) (a:TypeId) (ok:Bool):opA (.typeAssert x t a ok) tb (T.ofList l) m=oR (typeAssertA tb (evL l x) a ok):=_root_.id rfl
theorem o_extract (x:Operand) (i:Nat):opA (.extract x i) tb (T.ofList l) m=opExtract (evL l x) i:=_root_.id rfl
theorem o_callV (f:Operand) (args:Array Operand) (tys:Array TypeId):opA (.call ⟨.value f,args,tys⟩) tb (T.ofList l) m=.c:=_root_.id rfl
theorem o_callB (b:Builtin) (args:Array Operand) (tys:Array TypeId):opA (.call ⟨.builtin b,args,tys⟩) tb (T.ofList l) m=opBuiltin tb m b tys.toList (evsL l args.toList):=_root_.id rfl
theorem o_defer (c:Call):opA (.defer c) tb (T.ofList l) m=.c:=_root_.id rfl
theorem o_panic (x:Operand):opA (.panic x) tb (T.ofList l) m=.c:=_root_.id rfl
theorem kEq_self (k:IntKind):kEq k k=true:=by cases k<;>rfl
theorem b_add (k:IntKind) (t:TypeId) (x y:Operand) (a b:Int):binA tb m .add t x y (.int k a) (.int k b)=some (.int k (k.wrap (a+b))):=by
 simp only [binA,kEq_self,intOp,vInt_eq,wrapF_eq,addI_eq]
theorem b_sub (k:IntKind) (t:TypeId) (x y:Operand) (a b:Int):binA tb m .sub t x y (.int k a) (.int k b)=some (.int k (k.wrap (a-b))):=by
 simp only [binA,kEq_self,intOp,vInt_eq,wrapF_eq,subI_eq]
theorem b_mul (k:IntKind) (t:TypeId) (x y:Operand) (a b:Int):binA tb m .mul t x y (.int k a) (.int k b)=some (.int k (k.wrap (a*b))):=by
 simp only [binA,kEq_self,intOp,vInt_eq,wrapF_eq,mulI_eq]
theorem b_eql (k:IntKind) (t:TypeId) (x y:Operand) (a b:Int):binA tb m .eql t x y (.int k a) (.int k b)=some (.bool (decide (a=b))):=by
 simp only [binA,kEq_self,intOp,intEq_eq];rfl
theorem b_neq (k:IntKind) (t:TypeId) (x y:Operand) (a b:Int):binA tb m .neq t x y (.int k a) (.int k b)=some (.bool (!decide (a=b))):=by
 simp only [binA,kEq_self,intOp,intEq_eq];rfl
theorem b_lss (k:IntKind) (t:TypeId) (x y:Operand) (a b:Int):binA tb m .lss t x y (.int k a) (.int k b)=some (.bool (decide (a<b))):=by
 simp only [binA,kEq_self,intOp,intLt_eq]
theorem b_gtr (k:IntKind) (t:TypeId) (x y:Operand) (a b:Int):binA tb m .gtr t x y (.int k a) (.int k b)=some (.bool (decide (b<a))):=by
 simp only [binA,kEq_self,intOp,intLt_eq]
theorem b_leq (k:IntKind) (t:TypeId) (x y:Operand) (a b:Int):binA tb m .leq t x y (.int k a) (.int k b)=some (.bool (decide (a≤b))):=by
 simp only [binA,kEq_self,intOp,intLt_eq,← decide_not,Int.not_lt]
theorem b_geq (k:IntKind) (t:TypeId) (x y:Operand) (a b:Int):binA tb m .geq t x y (.int k a) (.int k b)=some (.bool (decide (b≤a))):=by
 simp only [binA,kEq_self,intOp,intLt_eq,← decide_not,Int.not_lt]
theorem b_beql (t:TypeId) (x y:Operand) (a b:ByteArray):binA tb m .eql t x y (.string a) (.string b)=some (.bool (decide (a.data.toList=b.data.toList))):=by
 simp only [binA,strOp,bytesEq_eq]
 congr 2;rw [Bool.eq_iff_iff];simp
theorem b_bneq (t:TypeId) (x y:Operand) (a b:ByteArray):binA tb m .neq t x y (.string a) (.string b)=some (.bool (!decide (a.data.toList=b.data.toList))):=by
 simp only [binA,strOp,bytesEq_eq]
 congr 3;rw [Bool.eq_iff_iff];simp
theorem b_shl (k k':IntKind) (t:TypeId) (x y:Operand) (a s:Nat):binA tb m .shl t x y (.int k (a:Int)) (.int k' (s:Int))=some (.int k (k.wrap ((a*2 ^ Nat.min s k.bits:Nat):Int))):=by
 show shiftOp .shl k (.ofNat a) (.ofNat s)=_
 have:wrapN k (Nat.shiftLeft a (Nat.min s k.bits))=k.wrap ((a*2 ^ Nat.min s k.bits:Nat):Int):=by
  have:=wrapF_eq k (.ofNat (Nat.shiftLeft a (Nat.min s k.bits)))
  rw [show wrapF k (.ofNat (Nat.shiftLeft a (Nat.min s k.bits)))=wrapN k (Nat.shiftLeft a (Nat.min s k.bits)) from rfl] at this
  rw [this]
  congr 1
  show ((a <<< Nat.min s k.bits:Nat):Int)=_
  rw [Nat.shiftLeft_eq]
 simp only [shiftOp,vInt_eq,this]
theorem b_or (k:IntKind) (t:TypeId) (x y:Operand) (a b:Nat):binA tb m .or t x y (.int k (a:Int)) (.int k (b:Int))=some (.int k (k.wrap ((a ||| b:Nat):Int))):=by
 have:=wrapF_eq k (.ofNat (Nat.lor a b))
 rw [show wrapF k (.ofNat (Nat.lor a b))=wrapN k (Nat.lor a b) from rfl] at this
 simp only [binA,kEq_self,intOp]
 show oI k (some (wrapN k (Nat.lor a b)))=_
 rw [this];simp only [oI,vInt_eq];rfl
theorem u_not (b:Bool):unA .not (.bool b)=some (.bool !b):=_root_.id rfl
theorem u_neg (k:IntKind) (n:Int):unA .neg (.int k n)=some (.int k (k.wrap (-n))):=by
 simp only [unA,vInt_eq,wrapF_eq,subI_eq]
 congr 3;omega
theorem wr64 (n:Int) (h1 : -9223372036854775808≤n) (h2:n<9223372036854775808):IntKind.wrap .i64 n=n:=by
 rw [wrap_i64];split<;>omega
theorem wru64 (n:Int) (h1:0≤n) (h2:n<18446744073709551616):IntKind.wrap .u64 n=n:=by rw [wrap_u64];omega
theorem wru8 (n:Int) (h1:0≤n) (h2:n<256):IntKind.wrap .u8 n=n:=by rw [wrap_u8];omega
theorem wru32 (n:Int) (h1:0≤n) (h2:n<4294967296):IntKind.wrap .u32 n=n:=by rw [wrap_u32];omega
def ldV (i:TI) (cs:List Value) (o:Nat):Option Value :=
 match i.agg with
 |true=>if i.inf.size=0∨o+i.inf.size≤cs.length then some (.agg ⟨takeN cs o i.inf.size⟩) else none
 |false=>cs[o]?
noncomputable def ldX (tb:Tabs) (t:TypeId) (m:Mem) (b o:Nat) (s:Option Nat):OR:=opLoad tb t m (.pointer (some ⟨b,o,s⟩))
noncomputable def ldW (tb:Tabs) (t:TypeId) (m:Mem) (b o:Nat) (s:Option Nat):Option TI→Option Vw→OR
 |some i,some V=>oR (ldV i V.cs o)
 |_,_=>ldX tb t m b o s
theorem o_loadW (t:TypeId) (b o:Nat) (s:Option Nat):opLoad tb t m (.pointer (some ⟨b,o,s⟩))=ldW tb t m b o s (ti tb t) (vw m b):=by
 unfold ldW
 split
 ·rename_i i V hi hv
  obtain⟨r,h1,h2,h3,h4,h5,h6,_⟩:=vw_spec hv
  simp only [opLoad,loadA,hi,oB,h1,ldV]
  cases ha:i.agg with
  |true =>
   simp only
   rw [cellsFrom_all h6]
   by_cases hc:i.inf.size=0∨o+i.inf.size≤V.cs.length
   ·rw [if_pos hc,if_pos hc]
   ·rw [if_neg hc,if_neg hc]
  |false =>
   simp only
   rw [h6]
 ·rfl
theorem ldW_some (t:TypeId) (b o:Nat) (s:Option Nat) (i:TI) (w:Bool) (e:TypeId) (x:Bool) (cs:List Value):ldW tb t m b o s (some i) (some ⟨w,e,x,cs⟩)=oR (ldV i cs o):=_root_.id rfl
noncomputable def stX (tb:Tabs) (t:TypeId) (m:Mem) (b o:Nat) (s:Option Nat) (v:Value):OR:=opStore tb t m (.pointer (some ⟨b,o,s⟩)) v
noncomputable def stW (tb:Tabs) (t:TypeId) (m:Mem) (b o:Nat) (s:Option Nat) (v:Value):Option TI→Option Vw→OR
 |some i,some V=>if (cellsOfV v).length=i.inf.size∧stOk V o (cellsOfV v)=true then .e undef (stM m b o (cellsOfV v)) else stX tb t m b o s v
 |_,_=>stX tb t m b o s v
theorem o_storeW (t:TypeId) (b o:Nat) (s:Option Nat) (v:Value):opStore tb t m (.pointer (some ⟨b,o,s⟩)) v=stW tb t m b o s v (ti tb t) (vw m b):=by
 unfold stW
 split
 ·rename_i i V hi hv
  split
  ·rename_i h
   obtain⟨h1,h2⟩:=h
   have:Nat.beq (cellsOfV v).length i.inf.size=true:=by rw [Nat.beq_eq];exact h1
   simp only [opStore,storeA,hi,oB,this,storeCells_vw hv h2,oM]
  ·rfl
 ·rfl
theorem stW_some (t:TypeId) (b o:Nat) (s:Option Nat) (v:Value) (i:TI) (V:Vw):stW tb t m b o s v (some i) (some V)=if (cellsOfV v).length=i.inf.size∧stOk V o (cellsOfV v)=true then .e undef (stM m b o (cellsOfV v)) else stX tb t m b o s v:=_root_.id rfl
theorem ap_in {b o sl sc:Nat} {s:Option Nat} {V:Vw} (e:TypeId) (sz n:Nat) (new:List Value) (hv:vw m b=some V) (hn:new≠[]) (hc:sl+n≤sc) (hs:stOk V (o+sl*sz) new=true) :
  appendTo m e sz (.slice (some ⟨b,o,s⟩) sl sc) n new=some (.slice (some ⟨b,o,s⟩) (sl+n) sc,stM m b (o+sl*sz) new):=by
 have:Nat.ble (sl+n) sc=true:=by rw [Nat.ble_eq];exact hc
 simp only [appendTo,this]
 cases new with
 |nil=>exact absurd rfl hn
 |cons v new=>simp only [storeCells_vw hv hs,oB]
theorem ap_zero {b o sl sc:Nat} {s:Option Nat} (e:TypeId) (sz:Nat) (hc:sl≤sc):appendTo m e sz (.slice (some ⟨b,o,s⟩) sl sc) 0 []=some (.slice (some ⟨b,o,s⟩) sl sc,m):=by
 have:Nat.ble sl sc=true:=by rw [Nat.ble_eq];exact hc
 simp only [appendTo,this,Nat.add_zero]
theorem ap_fix {b o sl sc:Nat} {V:Vw} (e:TypeId) (sz n:Nat) (new:List Value) (s:Option Nat) (hv:vw m b=some V) (hx:V.ext=false) (hc:sc<sl+n) (hb:sl*sz=0∨o+sl*sz≤V.cs.length) :
  appendTo m e sz (.slice (some ⟨b,o,s⟩) sl sc) n new=some (.slice (some ⟨m.next,0,none⟩) (sl+n) (sl+n),newObjA m (rowObj e (takeN V.cs o (sl*sz)++new) .none true)):=by
 obtain⟨r,h1,h2,h3,h4,h5,h6,_⟩:=vw_spec hv
 have:Nat.ble (sl+n) sc=false:=by
  cases hb:Nat.ble (sl+n) sc with
  |false=>rfl
  |true=>rw [Nat.ble_eq] at hb;omega
 simp only [appendTo,this,growA,h1,oB]
 rw [h4,hx]
 simp only
 rw [cellsFrom_all h6,if_pos hb]
 rfl
theorem ap_grow {b o sl sc:Nat} {V:Vw} (e:TypeId) (sz n:Nat) (new:List Value) (hv:vw m b=some V) (hx:V.ext=true) (hw:V.w=true) (hc:sc<sl+n) (he:o+sc*sz=V.cs.length) (het:V.elem=e) (hn:new.length=n*sz) (ha:new.all oneC=true) (hsl:sl≤sc) :
  appendTo m e sz (.slice (some ⟨b,o,none⟩) sl sc) n new=some (.slice (some ⟨m.next,0,none⟩) (sl+n) (sl+n),newObjA (putObj m b .dead) (rowObj e (takeN V.cs o (sl*sz)++new) .none true)):=by
 obtain⟨r,h1,h2,h3,h4,h5,h6,h7,_⟩:=vw_spec hv
 have hb:Nat.ble (sl+n) sc=false:=by
  cases hb:Nat.ble (sl+n) sc with
  |false=>rfl
  |true=>rw [Nat.ble_eq] at hb;omega
 have h8:=h7 hw
 have e1:(Nat.beq (o+sc*sz) r.n&&Nat.beq r.elem e&&Nat.beq new.length (n*sz)&&new.all oneC)=true:=by
  rw [h2,h3,he,het,hn,ha];simp
 have hle:sl*sz≤sc*sz:=Nat.mul_le_mul_right sz hsl
 simp only [appendTo,hb,growA,h1,oB,h4,hx,h5,h8,e1]
 rw [cellsFrom_all h6,if_pos (by omega)]
 rfl
theorem fi_slice {b o l c k:Nat} {s:Option Nat} {V:Vw} (n:Nat) (hv:vw m b=some V) (h:k=0∨o+k≤V.cs.length):firstA m k n (.slice (some ⟨b,o,s⟩) l c)=some (takeN V.cs o k):=by
 obtain⟨r,h1,h2,h3,h4,h5,h6,_⟩:=vw_spec hv
 cases k with
 |zero=>simp [firstA,takeN]
 |succ k =>
  simp only [firstA,h1,oB]
  rw [cellsFrom_all h6,if_pos h]
end
end Go.Ev

namespace Go.Ev
open Go.RowKit
def gx:List Value→Nat→Value
 | [],_=>undef
 |x::_,0=>x
 |_::l,n+1=>gx l n
theorem gx_c0 (x:Value) (l:List Value):gx (x::l) 0=x:=_root_.id rfl
theorem gx_cs (x:Value) (l:List Value) (n:Nat):gx (x::l) (n+1)=gx l n:=_root_.id rfl
theorem gx_eq:∀ (l:List Value) (n:Nat),l.getD n undef=gx l n
 | [],n=>by simp [gx]
 |x::l,0=>rfl
 |x::l,n+1=>by rw [List.getD_cons_succ];exact gx_eq l n
theorem gx_set {l:List Value} {n:Nat} {v:Value} (h:n<l.length):gx (l.set n v) n=v:=by
 rw [← gx_eq];simp [List.getD_eq_getElem?_getD,h]
theorem gx_set_ne {l:List Value} {n k:Nat} {v:Value} (h:n≠k):gx (l.set n v) k=gx l k:=by
 rw [← gx_eq,← gx_eq];simp [List.getD_eq_getElem?_getD,List.getElem?_set,h]
section
variable (tb:Tabs)
noncomputable def resX (rs:List ResultVar) (l:List Value) (m:Mem):Option Value :=
 match resA tb (T.ofList l) m rs with
 |some [v]=>some v
 |some vs=>some (.tuple ⟨vs⟩)
 |none=>none
def endX (rs:List ResultVar) (R:OutA→Mem→Prop):PostA
 | .normal,l,ds,m=>ds=[]∧∃ v,resX tb rs l m=some v∧R (.ret v) m
 | .jump .ret,l,ds,m=>ds=[]∧∃ v,resX tb rs l m=some v∧R (.ret v) m
 | .pan ch,_,ds,m=>ds=[]∧R (.pan ch) m
 |_,_,_,_=>False
def retR (P:Value→Mem→Prop):OutA→Mem→Prop
 | .ret v,m=>P v m
 | .pan _,_=>False
variable {tb}
variable {F:FC} {l:List Value} {ds:List Deferred} {m:Mem} {Q:PostA}
theorem thenA_normal (N:List Value→List Deferred→Mem→Prop):thenA N Q .normal l ds m=N l ds m:=_root_.id rfl
theorem thenA_jump (N:List Value→List Deferred→Mem→Prop) (c:Code):thenA N Q (.jump c) l ds m=Q (.jump c) l ds m:=_root_.id rfl
theorem thenA_pan (N:List Value→List Deferred→Mem→Prop) (c:List PanicEntry):thenA N Q (.pan c) l ds m=Q (.pan c) l ds m:=_root_.id rfl
theorem blockA_normal (id:Nat):blockA id Q .normal l ds m=Q .normal l ds m:=_root_.id rfl
theorem blockA_pan (id:Nat) (c:List PanicEntry):blockA id Q (.pan c) l ds m=Q (.pan c) l ds m:=_root_.id rfl
theorem blockA_exit (id i:Nat):blockA id Q (.jump (.exit i)) l ds m=if i=id then Q .normal l ds m else Q (.jump (.exit i)) l ds m:=_root_.id rfl
theorem resX_nil:resX tb [] l m=some (.tuple ⟨[]⟩):=_root_.id rfl
theorem resX_one (i:Nat):resX tb [.tmp i] l m=some (gx l i):=by
 rw [← gx_eq]
 have:=slots_ofList l i
 simp only [ev] at this
 simp only [resX,resA,oB,this]
theorem resX_two (i j:Nat):resX tb [.tmp i,.tmp j] l m=some (.tuple ⟨[gx l i,gx l j]⟩):=by
 rw [← gx_eq,← gx_eq]
 have h1:=slots_ofList l i
 have h2:=slots_ofList l j
 simp only [ev] at h1 h2
 simp only [resX,resA,oB,h1,h2]
theorem callsZ {f:FuncId} {fd:Func} {c:Code} {s:SCode} {n:Nat} {rs:List ResultVar} {args:List Value} {R:OutA→Mem→Prop} (hf:tb.funcs.get f=some fd) (hb:fd.body=some c) (hs:strip c=s) (hn:fd.ntmps=n) (hr:fd.results.toList=rs)
  (h:wpX tb ⟨f,.normal,none⟩ s (args++List.replicate (n-args.length) undef) [] m (endX tb rs R)):CallsA tb f args m R:=by
 subst hn;subst hr
 refine callsX hf hb hs (h.mono fun e l' ds' m' h=>?_)
 cases e with
 |normal=>exact h
 |jump c=>cases c<;>exact h
 |pan ch=>exact h
theorem xcall {f:FuncId} {first cap args:List Value} {R:OutA→Mem→Prop} {K:Value→List Deferred→Mem→Prop} {PK:List PanicEntry→Mem→Prop} (hov:tb.ov.get f=none) (h:CallsA tb f (first++args++cap) m R)
  (k:∀ v m',R (.ret v) m'→K v ds m') (pk:∀ ch m',R (.pan ch) m'→PK ch m'):wpNext tb (callValue tb (.func (.func f) ⟨first⟩ ⟨cap⟩) args m) ds m K PK:=by
 have e:callValue tb (.func (.func f) ⟨first⟩ ⟨cap⟩) args m=.enter f (first++args++cap):=by
  obtain⟨g,hg,_⟩:=h
  unfold enterF at hg
  split at hg<;>first|(simp at hg;done)|skip
  rename_i fn hfn
  split at hg<;>first|(simp at hg;done)|skip
  rename_i c hc
  simp only [callValue,invokeA,callF,hov,hfn,hc]
 rw [e]
 refine CallsA.mono h fun o m' ho=>?_
 cases o with
 |ret v=>exact k _ _ ho
 |pan ch=>exact pk _ _ ho
theorem wpCallX_call (f:Operand) (args:Array Operand) (tys:Array TypeId) (ty:TypeId) (K:Value→List Deferred→Mem→Prop) (PK:List PanicEntry→Mem→Prop) :
  wpCallX tb F (.call ⟨.value f,args,tys⟩) ty l ds m K PK=wpNext tb (callValue tb (evL l f) (evsL l args.toList) m) ds m K PK:=_root_.id rfl
theorem wpCallX_panic (x:Operand) (ty:TypeId) (K:Value→List Deferred→Mem→Prop) (PK:List PanicEntry→Mem→Prop) :
  wpCallX tb F (.panic x) ty l ds m K PK=(isIface (evL l x)=true∧PK [{ v:=evL l x,recovered:=false }] m):=_root_.id rfl
variable (tb)
noncomputable def wpS (F:FC) (Q:PostA) (d:Option Tmp) (op:Op) (ty:TypeId) (os:List SOp) (r:OR) (l:List Value) (ds:List Deferred) (m:Mem):Prop:=match r with
 | .r v=>wpR tb F Q os (setSl d v l) ds m
 | .f ob mk=>wpR tb F Q os (setSl d (mk m.next) l) ds (newObjA m ob)
 | .e v m'=>wpR tb F Q os (setSl d v l) ds m'
 | .c=>wpCallX tb F op ty l ds m (fun v ds m=>wpR tb F Q os (setSl d v l) ds m) (fun ch m=>Q (.pan ch) l ds m)
 | .bad=>False
noncomputable def wpG (F:FC) (Q:PostA) (d:Option Tmp) (op:Op) (ty:TypeId) (os:List SOp) (w:Bool) (l:List Value) (ds:List Deferred) (m:Mem):Prop:=match w with
 |false=>wpR tb F Q os (setSl d undef l) ds m
 |true=>wpS tb F Q d op ty os (opA op tb (T.ofList l) m) l ds m
variable {tb}
theorem wpR_cons (d:Option Tmp) (op:Op) (ty:TypeId) (g:SG) (os:List SOp):wpR tb F Q (⟨d,op,ty,g⟩::os) l ds m=(dstB d l.length=true∧wpG tb F Q d op ty os (wantX l g) l ds m):=_root_.id rfl
theorem wpG_true (d:Option Tmp) (op:Op) (ty:TypeId) (os:List SOp):wpG tb F Q d op ty os true l ds m=wpS tb F Q d op ty os (opA op tb (T.ofList l) m) l ds m:=_root_.id rfl
theorem wpG_false (d:Option Tmp) (op:Op) (ty:TypeId) (os:List SOp):wpG tb F Q d op ty os false l ds m=wpR tb F Q os (setSl d undef l) ds m:=_root_.id rfl
theorem wpS_r (d:Option Tmp) (op:Op) (ty:TypeId) (os:List SOp) (v:Value):wpS tb F Q d op ty os (.r v) l ds m=wpR tb F Q os (setSl d v l) ds m:=_root_.id rfl
theorem wpS_f (d:Option Tmp) (op:Op) (ty:TypeId) (os:List SOp) (ob:AObj) (mk:Nat→Value):wpS tb F Q d op ty os (.f ob mk) l ds m=wpR tb F Q os (setSl d (mk m.next) l) ds (newObjA m ob):=_root_.id rfl
theorem wpS_e (d:Option Tmp) (op:Op) (ty:TypeId) (os:List SOp) (v:Value) (m':Mem):wpS tb F Q d op ty os (.e v m') l ds m=wpR tb F Q os (setSl d v l) ds m':=_root_.id rfl
theorem wpS_c (d:Option Tmp) (op:Op) (ty:TypeId) (os:List SOp):wpS tb F Q d op ty os .c l ds m=wpCallX tb F op ty l ds m (fun v ds m=>wpR tb F Q os (setSl d v l) ds m) (fun ch m=>Q (.pan ch) l ds m):=_root_.id rfl
theorem wpR_nil:wpR tb F Q [] l ds m=Q .normal l ds m:=_root_.id rfl
theorem dB_some (d n:Nat):dstB (some d) n=decide (d<n):=by
 unfold dstB
 rw [Bool.eq_iff_iff,Nat.blt_eq];simp
theorem dB_none (n:Nat):dstB none n=true:=_root_.id rfl
theorem wX_no:wantX l .no=true:=_root_.id rfl
theorem wX_on (d:Nat) (w:Bool):wantX l (.on d w)=isB (gx l d) w:=by rw [← gx_eq];rfl
theorem evL_tmp' (i:Nat):evL l (.tmp i)=gx l i:=by rw [← gx_eq];exact evL_tmp i
theorem isB_bool (b w:Bool):isB (.bool b) w=(b==w):=_root_.id rfl
theorem setSl_some (d:Nat) (v:Value):setSl (some d) v l=l.set d v:=_root_.id rfl
theorem setSl_none (v:Value):setSl none v l=l:=_root_.id rfl
theorem oR_some (v:Value):oR (some v)=.r v:=_root_.id rfl
theorem oE_some (v:Value):oE (some (v,m))=.e v m:=_root_.id rfl
theorem nil_ptr (a:Addr):opNilCheck (.pointer (some a))=.r (.pointer (some a)):=_root_.id rfl
theorem pick_bool (c:Bool) (a b:Value):opPick (.bool c) a b=.r (if c then a else b):=by cases c<;>rfl
theorem oB_some' {α β : Type} (a : α) (f : α → Option β):oB (some a) f=f a:=_root_.id rfl
theorem ia_slice (t:TypeId) (k:IntKind) (z:Int) (b o:Nat) (s:Option Nat) (n c:Nat):indexAddrA tb t (.slice (some ⟨b,o,s⟩) n c) (.int k z)=oB (ti tb t) fun i=>match i.d with
  | .slice elem=>if 0≤z∧z.toNat<n then oB (ti tb elem) fun e=>some (.pointer (some ⟨b,o+z.toNat*e.inf.size,none⟩)) else none
  |_=>none:=by
 cases z with
 |ofNat j =>
  show indexAddrA tb t (.slice (some ⟨b,o,s⟩) n c) (.int k (.ofNat j))=_
  simp only [indexAddrA,addA,Int.ofNat_eq_natCast,Int.natCast_nonneg,Int.toNat_natCast,true_and]
  congr 1
  funext i
  obtain⟨d,inf,agg,zc,hz,fl,gd,hl⟩:=i
  cases d<;>simp only
  by_cases h:j<n
  ·have hb:Nat.blt j n=true:=by rw [Nat.blt_eq];exact h
   simp only [hb,if_pos h]
  ·have hb:Nat.blt j n=false:=by
    cases hb:Nat.blt j n with
    |false=>rfl
    |true=>rw [Nat.blt_eq] at hb;exact absurd hb h
   simp only [hb,if_neg h]
 |negSucc j =>
  have:¬ (0≤Int.negSucc j∧(Int.negSucc j).toNat<n):=by omega
  simp only [indexAddrA,if_neg this]
  cases ti tb t with
  |none=>rfl
  |some i=>simp only [oB];split<;>rfl
theorem ia_str (t:TypeId) (k:IntKind) (z:Int) (s:ByteArray):indexA tb t (.string s) (.int k z)=oB (ti tb t) fun i=>match i.d with
  | .string=>if 0≤z then (match s.data.toList[z.toNat]? with|some b=>some (.int .u8 (b.toNat:Int))|none=>none) else none
  |_=>none:=by
 cases z with
 |ofNat j =>
  simp only [indexA,Int.ofNat_eq_natCast,Int.natCast_nonneg,Int.toNat_natCast,if_true,byteV,fNat_eq]
  congr 1
  funext i
  obtain⟨d,inf,agg,zc,hz,fl,gd,hl⟩:=i
  cases d<;>rfl
 |negSucc j =>
  have:¬ (0≤Int.negSucc j):=by omega
  simp only [indexA,if_neg this]
  cases ti tb t with
  |none=>rfl
  |some i=>simp only [oB];split<;>rfl
theorem cv_int (s d:TypeId) (k:IntKind) (n:Int):opConv tb m s d (.int k n)=match ti tb s,ti tb d with
  |some _,some j=>match j.d with | .int q=>.r (.int q (q.wrap n))|_=>.bad
  |_,_=>.bad:=by
 unfold opConv
 cases ti tb s<;>cases ti tb d<;>try rfl
 rename_i i j
 obtain⟨jd,inf,agg,zc,hz,fl,gd,hl⟩:=j
 simp only
 cases jd<;>simp only [vInt_eq,wrapF_eq]
theorem lo_nil (c:T Value) (i:Nat):listOf c [] i=[]:=_root_.id rfl
theorem lo_cons (c:T Value) (z:Value) (zs:List Value) (i:Nat):listOf c (z::zs) i=(match c.get i with|some v=>v|none=>z)::listOf c zs (i+1):=_root_.id rfl
theorem bound_eq (k:IntKind) (z:Int) (y:Nat):bound (.int k z) y=if 0≤z∧z.toNat≤y then some z.toNat else none:=by
 cases z with
 |ofNat j =>
  simp only [bound,Int.ofNat_eq_natCast,Int.natCast_nonneg,Int.toNat_natCast,true_and]
  by_cases h:j≤y
  ·have hb:Nat.ble j y=true:=by rw [Nat.ble_eq];exact h
   simp only [hb,if_pos h]
  ·have hb:Nat.ble j y=false:=by
    cases hb:Nat.ble j y with
    |false=>rfl
    |true=>rw [Nat.ble_eq] at hb;exact absurd hb h
   simp only [hb,if_neg h]
 |negSucc j =>
  have:¬ (0≤Int.negSucc j∧(Int.negSucc j).toNat≤y):=by omega
  simp only [bound,if_neg this]
theorem fits_eq (a:Option Addr) (sl sc n b:Nat):appendFits (.slice a sl sc) n b=decide ((sl+n+1000)*b≤17592186044416):=by
 unfold appendFits
 rw [Bool.eq_iff_iff,Nat.ble_eq];simp
theorem len_slice (t:TypeId) (a:Option Addr) (n c:Nat):lenA tb t m (.slice a n c)=oB (ti tb t) fun i=>match i.d with | .slice _=>some (.int .i64 (n:Int))|_=>none:=by
 simp only [lenA,vInt_eq];rfl
theorem len_str (t:TypeId) (s:ByteArray):lenA tb t m (.string s)=oB (ti tb t) fun i=>match i.d with | .string=>some (.int .i64 (s.data.toList.length:Int))|_=>none:=by
 simp only [lenA,vInt_eq];rfl
noncomputable def slX (tb:Tabs) (t:TypeId) (m:Mem) (x:Value) (lo hi mx:Option Value):Option Value:=sliceA tb t m x lo hi mx
noncomputable def slW (tb:Tabs) (t:TypeId) (m:Mem) (b o:Nat) (s:Option Nat) (len cap:Nat) (lo hi mx:Option Value):Option TI→Option Vw→Option Value
 |some i,some V=>match i.d with
  | .slice elem=>oB (bounds3 len cap lo hi mx) fun (l,h,q)=>oB (ti tb elem) fun e=>slExt V.ext ⟨b,o,s⟩ mx l h q e.inf.size
  |_=>slX tb t m (.slice (some ⟨b,o,s⟩) len cap) lo hi mx
 |_,_=>slX tb t m (.slice (some ⟨b,o,s⟩) len cap) lo hi mx
theorem sl_W (t:TypeId) (b o:Nat) (s:Option Nat) (len cap:Nat) (lo hi mx:Option Value):sliceA tb t m (.slice (some ⟨b,o,s⟩) len cap) lo hi mx=slW tb t m b o s len cap lo hi mx (ti tb t) (vw m b):=by
 unfold slW
 split
 ·rename_i i V hi hv
  obtain⟨r,h1,h2,h3,h4,_⟩:=vw_spec hv
  split
  ·rename_i e he
   simp only [sliceA,hi,oB,he,h1,h4]
  ·rfl
 ·rfl
theorem slW_some (t:TypeId) (b o:Nat) (s:Option Nat) (len cap:Nat) (lo hi mx:Option Value) (i:TI) (V:Vw):slW tb t m b o s len cap lo hi mx (some i) (some V)=match i.d with
  | .slice elem=>oB (bounds3 len cap lo hi mx) fun (l,h,q)=>oB (ti tb elem) fun e=>slExt V.ext ⟨b,o,s⟩ mx l h q e.inf.size
  |_=>slX tb t m (.slice (some ⟨b,o,s⟩) len cap) lo hi mx:=_root_.id rfl
theorem sl_str (t:TypeId) (s:ByteArray) (lo hi:Option Value):sliceA tb t m (.string s) lo hi none=oB (ti tb t) fun i=>match i.d with
  | .string=>slStr s lo hi
  |_=>none:=by
 simp only [sliceA]
 congr 1;funext i
 obtain⟨d,inf,agg,zc,hz,fl,gd,hl⟩:=i
 cases d<;>rfl
noncomputable def fiX (m:Mem) (k n:Nat) (x:Value):Option (List Value):=firstA m k n x
noncomputable def fiW (m:Mem) (k n b o:Nat) (s:Option Nat) (l c:Nat):Option Vw→Option (List Value)
 |some V=>if k=0∨o+k≤V.cs.length then some (takeN V.cs o k) else fiX m k n (.slice (some ⟨b,o,s⟩) l c)
 |none=>fiX m k n (.slice (some ⟨b,o,s⟩) l c)
theorem fi_W (k n b o:Nat) (s:Option Nat) (l c:Nat):firstA m k n (.slice (some ⟨b,o,s⟩) l c)=fiW m k n b o s l c (vw m b):=by
 unfold fiW
 split
 ·rename_i V hv
  split
  ·rename_i h;exact fi_slice n hv h
  ·rfl
 ·rfl
theorem fiW_some (k n b o:Nat) (s:Option Nat) (l c:Nat) (V:Vw):fiW m k n b o s l c (some V)=if k=0∨o+k≤V.cs.length then some (takeN V.cs o k) else fiX m k n (.slice (some ⟨b,o,s⟩) l c):=_root_.id rfl
noncomputable def atX (m:Mem) (e:TypeId) (sz:Nat) (x:Value) (n:Nat) (new:List Value):Option (Value × Mem):=appendTo m e sz x n new
noncomputable def growM (m:Mem) (ob:Option Nat) (e:TypeId) (cells:List Value):Mem:=newObjA (match ob with|some b=>putObj m b .dead|none=>m) (rowObj e cells .none true)
noncomputable def atW (m:Mem) (e:TypeId) (sz b o:Nat) (s:Option Nat) (sl sc n:Nat) (new:List Value):Option Vw→Option (Value × Mem)
 |some V =>
  if sl+n≤sc then
   (if new.isEmpty=true then (if n=0 then some (.slice (some ⟨b,o,s⟩) sl sc,m) else atX m e sz (.slice (some ⟨b,o,s⟩) sl sc) n new)
    else if stOk V (o+sl*sz) new=true then some (.slice (some ⟨b,o,s⟩) (sl+n) sc,stM m b (o+sl*sz) new) else atX m e sz (.slice (some ⟨b,o,s⟩) sl sc) n new)
  else if V.ext=false∧(sl*sz=0∨o+sl*sz≤V.cs.length) then some (.slice (some ⟨m.next,0,none⟩) (sl+n) (sl+n),growM m none e (takeN V.cs o (sl*sz)++new))
  else if V.ext=true∧V.w=true∧s=none∧sl≤sc∧o+sc*sz=V.cs.length∧V.elem=e∧new.length=n*sz∧new.all oneC=true then
   some (.slice (some ⟨m.next,0,none⟩) (sl+n) (sl+n),growM m (some b) e (takeN V.cs o (sl*sz)++new))
  else atX m e sz (.slice (some ⟨b,o,s⟩) sl sc) n new
 |none=>atX m e sz (.slice (some ⟨b,o,s⟩) sl sc) n new
theorem at_W (e:TypeId) (sz b o:Nat) (s:Option Nat) (sl sc n:Nat) (new:List Value):appendTo m e sz (.slice (some ⟨b,o,s⟩) sl sc) n new=atW m e sz b o s sl sc n new (vw m b):=by
 unfold atW
 split
 ·rename_i V hv
  split
  ·rename_i h
   split
   ·rename_i hn
    obtain rfl:=List.isEmpty_iff.1 hn
    split
    ·rename_i h0;subst h0;exact ap_zero e sz h
    ·rfl
   ·rename_i hn
    split
    ·rename_i hs;exact ap_in e sz n new hv (fun e=>hn (by rw [e];rfl)) h hs
    ·rfl
  ·rename_i h
   split
   ·rename_i h2;exact ap_fix e sz n new s hv h2.1 (by omega) h2.2
   ·split
    ·rename_i h2
     obtain⟨h3,h4,rfl,h6,h7,h8,h9,h10⟩:=h2
     exact ap_grow e sz n new hv h3 h4 (by omega) h7 h8 h9 h10 h6
    ·rfl
 ·rfl
theorem atW_some (e:TypeId) (sz b o:Nat) (s:Option Nat) (sl sc n:Nat) (new:List Value) (V:Vw):atW m e sz b o s sl sc n new (some V) =
  if sl+n≤sc then
   (if new.isEmpty=true then (if n=0 then some (.slice (some ⟨b,o,s⟩) sl sc,m) else atX m e sz (.slice (some ⟨b,o,s⟩) sl sc) n new)
    else if stOk V (o+sl*sz) new=true then some (.slice (some ⟨b,o,s⟩) (sl+n) sc,stM m b (o+sl*sz) new) else atX m e sz (.slice (some ⟨b,o,s⟩) sl sc) n new)
  else if V.ext=false∧(sl*sz=0∨o+sl*sz≤V.cs.length) then some (.slice (some ⟨m.next,0,none⟩) (sl+n) (sl+n),growM m none e (takeN V.cs o (sl*sz)++new))
  else if V.ext=true∧V.w=true∧s=none∧sl≤sc∧o+sc*sz=V.cs.length∧V.elem=e∧new.length=n*sz∧new.all oneC=true then
   some (.slice (some ⟨m.next,0,none⟩) (sl+n) (sl+n),growM m (some b) e (takeN V.cs o (sl*sz)++new))
  else atX m e sz (.slice (some ⟨b,o,s⟩) sl sc) n new:=_root_.id rfl
theorem ap_first' (e:TypeId) (sz n:Nat) (new:List Value):appendTo m e sz (.slice none 0 0) (n+1) new=some (.slice (some ⟨m.next,0,none⟩) (n+1) (n+1),growM m none e new):=_root_.id rfl
theorem growM_next (ob:Option Nat) (e:TypeId) (cells:List Value):(growM m ob e cells).next=m.next+1:=by cases ob<;>rfl
theorem vw_growM (ob:Option Nat) (e:TypeId) (cells:List Value) (x:Nat):vw (growM m ob e cells) x=if x=m.next then some ⟨true,e,true,cells⟩ else if some x=ob then none else vw m x:=by
 unfold growM
 cases ob with
 |none=>simp only [vw_new,vwO_rowObj];split<;>simp_all
 |some b =>
  simp only [vw_new,vwO_rowObj,next_putObj,vw_put,Option.some.injEq]
  split
  ·rfl
  ·split<;>rfl
def Old (n:Nat) (m m':Mem):Prop:=m.next≤m'.next∧∀ x,x<n→m'.objs.get x=m.objs.get x
theorem Old.refl (n:Nat) (m:Mem):Old n m m:=⟨Nat.le_refl _,fun _ _=>rfl⟩
theorem Old.trans {n:Nat} {a b c:Mem} (h:Old n a b) (k:Old n b c):Old n a c:=⟨Nat.le_trans h.1 k.1,fun x hx=>(k.2 x hx).trans (h.2 x hx)⟩
theorem Old.le {n k:Nat} {a b:Mem} (h:Old n a b) (hk:k≤n):Old k a b:=⟨h.1,fun x hx=>h.2 x (by omega)⟩
theorem Old.vw {n:Nat} {a b:Mem} (h:Old n a b) {x:Nat} (hx:x<n):Go.Ev.vw b x=Go.Ev.vw a x:=by unfold Go.Ev.vw;rw [h.2 x hx]
theorem Old.new {n:Nat} {a b:Mem} (h:Old n a b) (hn:n≤b.next) (o:AObj):Old n a (newObjA b o):=⟨by rw [next_newObjA];have:=h.1;omega,fun x hx=>by rw [get_newObjA,if_neg (by omega)];exact h.2 x hx⟩
theorem Old.put {n:Nat} {a b:Mem} (h:Old n a b) {k:Nat} (hk:n≤k) (o:AObj):Old n a (putObj b k o):=⟨h.1,fun x hx=>by rw [get_putObj,if_neg (by omega)];exact h.2 x hx⟩
theorem Old.st {n:Nat} {a b:Mem} (h:Old n a b) {k:Nat} (hk:n≤k) (i:Nat) (l:List Value):Old n a (stM b k i l):=⟨by rw [stM_next];exact h.1,fun x hx=>by rw [stM_get (by omega)];exact h.2 x hx⟩
theorem Old.grow {n:Nat} {a b:Mem} (h:Old n a b) (hn:n≤b.next) (e:TypeId) (cells:List Value):Old n a (growM b none e cells):=h.new hn _
theorem Old.grow' {n:Nat} {a b:Mem} (h:Old n a b) (hn:n≤b.next) {k:Nat} (hk:n≤k) (e:TypeId) (cells:List Value):Old n a (growM b (some k) e cells):=(h.put hk .dead).new hn _
def Own (n0:Nat) (m:Mem) (v:Value) (e:TypeId) (n:Nat) (cells:List Value):Prop :=
 (v=.slice none 0 0∧n=0∧cells=[])∨∃ b,v=.slice (some ⟨b,0,none⟩) n n∧n0≤b∧b<m.next∧vw m b=some ⟨true,e,true,cells⟩
noncomputable def rd (m:Mem) (b o:Nat):Nat→Option (List Value)
 |0=>some []
 |n+1=>oB (rowOf m b) fun r=>cellsFrom r (n+1) o
def SlAt (m:Mem) (v:Value) (n:Nat) (cells:List Value):Prop :=
 (v=.slice none 0 0∧n=0∧cells=[])∨∃ b o c,v=.slice (some ⟨b,o,none⟩) n c∧n≤c∧(cells=[]∨rd m b o cells.length=some cells∧b<m.next)
theorem takeN_self (l:List Value):takeN l 0 l.length=l:=by simp [takeN]
theorem takeN_zero (l:List Value) (o:Nat):takeN l o 0=[]:=by simp [takeN]
theorem takeN_c0 (x:Value) (l:List Value) (n:Nat):takeN (x::l) 0 (n+1)=x::takeN l 0 n:=_root_.id rfl
theorem takeN_cs (x:Value) (l:List Value) (o n:Nat):takeN (x::l) (o+1) n=takeN l o n:=_root_.id rfl
theorem takeN_length {l:List Value} {o n:Nat} (h:o+n≤l.length):(takeN l o n).length=n:=by simp [takeN];omega
theorem takeN_get {l:List Value} {o n k:Nat} (h:k<n):(takeN l o n)[k]? = l[o+k]? := by simp [takeN,List.getElem?_take,h]
theorem u8s_length:∀ l:List UInt8,(u8s l).length=l.length
 | []=>rfl
 |b::l=>by simp [u8s,u8s_length l]
theorem u8s_map:∀ l:List UInt8,u8s l=l.map fun b=>.int .u8 (b.toNat:Int)
 | []=>rfl
 |b::l=>by simp only [u8s,u8s_map l,List.map_cons,byteV,fNat_eq];rfl
def i64s (l:List Int):List Value:=l.map fun n=>.int .i64 n
theorem i64s_length (l:List Int):(i64s l).length=l.length:=by simp [i64s]
theorem SlAt.shape {n:Nat} {v:Value} {cells:List Value} (h:SlAt m v n cells):∃ a c,v=.slice a n c:=by
 rcases h with ⟨rfl,rfl,_⟩|⟨b,o,c,rfl,_⟩<;>exact⟨_,_,rfl⟩
theorem rd_some {b o n:Nat} {cells:List Value} (h:rd m b o n=some cells):cells.length=n∧(n≠0→∃ r,rowOf m b=some r∧cellsFrom r n o=some cells∧∀ k v,cells[k]? = some v→cellAt r (o+k)=some v):=by
 cases n with
 |zero=>obtain rfl:=Option.some.inj h;exact⟨rfl,fun e=>absurd rfl e⟩
 |succ n =>
  simp only [rd,oB_some] at h
  obtain⟨r,h1,h2⟩:=h
  obtain⟨h3,h4⟩:=cellsFrom_some h2
  exact⟨h3,fun _=>⟨r,h1,h2,h4⟩⟩
theorem cellsFrom_of {r:Row}:∀ {n o:Nat} {l:List Value},l.length=n→(∀ k v,l[k]? = some v→cellAt r (o+k)=some v)→cellsFrom r n o=some l
 |0,o,[],_,_=>rfl
 |n+1,o,v::l,h,g=>by
  rw [cellsFrom_succ,show cellAt r o=some v from g 0 v rfl]
  simp only [oB]
  rw [cellsFrom_of (l:=l) (by simpa using h) fun k u hu=>by rw [show o+1+k=o+(k+1) from by omega];exact g (k+1) u hu]
theorem rd_vw {b:Nat} {V:Vw} (hv:vw m b=some V) {o k:Nat} (h:o+k≤V.cs.length):rd m b o k=some (takeN V.cs o k):=by
 obtain⟨r,h1,h2,h3,h4,h5,h6,_⟩:=vw_spec hv
 cases k with
 |zero=>simp [rd,takeN]
 |succ k =>
  show oB (rowOf m b) _=_
  rw [h1]
  simp only [oB]
  rw [cellsFrom_all h6,if_pos (.inr h)]
theorem rd_old {b o n:Nat} {n0:Nat} {m':Mem} (k:Old n0 m m') (hb:b<n0):rd m' b o n=rd m b o n:=by
 cases n with
 |zero=>rfl
 |succ n=>simp only [rd,rowOf,k.2 b hb]
theorem ld_rd1 {t:TypeId} {i:TI} {b o n k:Nat} {s:Option Nat} {cells:List Value} {v:Value} (hi:ti tb t=some i) (ha:i.agg=false) (h:rd m b o n=some cells) (hk:cells[k]? = some v):opLoad tb t m (.pointer (some ⟨b,o+k,s⟩))=.r v:=by
 obtain⟨h1,h2⟩:=rd_some h
 have hk1:=(List.getElem?_eq_some_iff.1 hk).1
 obtain⟨r,h3,h4,h5⟩:=h2 (by omega)
 simp only [opLoad,loadA,hi,oB,h3,ha,h5 k v hk,oR]
theorem ld_rdA {t:TypeId} {i:TI} {b o n k:Nat} {s:Option Nat} {cells:List Value} (hi:ti tb t=some i) (ha:i.agg=true) (h:rd m b o n=some cells) (hk:k+i.inf.size≤n) (hn:n≠0):opLoad tb t m (.pointer (some ⟨b,o+k,s⟩))=.r (.agg ⟨takeN cells k i.inf.size⟩):=by
 obtain⟨h1,h2⟩:=rd_some h
 obtain⟨r,h3,h4,h5⟩:=h2 hn
 have:cellsFrom r i.inf.size (o+k)=some (takeN cells k i.inf.size):=cellsFrom_of (by simp [takeN];omega) fun j v hj=>by
  have hj2:j<i.inf.size:=by have:=(List.getElem?_eq_some_iff.1 hj).1;simp [takeN] at this;omega
  rw [takeN,List.getElem?_take,if_pos hj2,List.getElem?_drop] at hj
  rw [show o+k+j=o+(k+j) from by omega];exact h5 _ _ hj
 simp only [opLoad,loadA,hi,oB,h3,ha,this,oR]
theorem SlAt.old {n:Nat} {v:Value} {cells:List Value} {m':Mem} (h:SlAt m v n cells) (k:Old m.next m m'):SlAt m' v n cells:=by
 rcases h with h|⟨b,o,c,rfl,h1,h2|⟨h2,h3⟩⟩
 ·exact .inl h
 ·exact .inr ⟨b,o,c,rfl,h1,.inl h2⟩
 ·exact .inr ⟨b,o,c,rfl,h1,.inr ⟨by rw [rd_old k h3];exact h2,Nat.lt_of_lt_of_le h3 k.1⟩⟩
def SlOld (n0:Nat) (m:Mem) (v:Value) (n:Nat) (cells:List Value):Prop :=
 (v=.slice none 0 0∧n=0∧cells=[])∨∃ b o c,v=.slice (some ⟨b,o,none⟩) n c∧n≤c∧(cells=[]∨rd m b o cells.length=some cells∧b<n0)
theorem SlOld.at {n0 n:Nat} {v:Value} {cells:List Value} (h:SlOld n0 m v n cells) (hn:n0≤m.next):SlAt m v n cells:=by
 rcases h with h|⟨b,o,c,rfl,h1,h2|⟨h2,h3⟩⟩
 ·exact .inl h
 ·exact .inr ⟨b,o,c,rfl,h1,.inl h2⟩
 ·exact .inr ⟨b,o,c,rfl,h1,.inr ⟨h2,Nat.lt_of_lt_of_le h3 hn⟩⟩
theorem SlOld.old {n0 n:Nat} {v:Value} {cells:List Value} {m':Mem} (h:SlOld n0 m v n cells) (k:Old n0 m m'):SlOld n0 m' v n cells:=by
 rcases h with h|⟨b,o,c,rfl,h1,h2|⟨h2,h3⟩⟩
 ·exact .inl h
 ·exact .inr ⟨b,o,c,rfl,h1,.inl h2⟩
 ·exact .inr ⟨b,o,c,rfl,h1,.inr ⟨by rw [rd_old k h3];exact h2,h3⟩⟩
theorem SlAt.load {n k:Nat} {v w:Value} {cells:List Value} (h:SlAt m v n cells) (hk:cells[k]? = some w):∃ b o c,v=.slice (some ⟨b,o,none⟩) n c∧n≤c∧b<m.next∧rd m b o cells.length=some cells∧∀ {t:TypeId} {i:TI} {s:Option Nat},ti tb t=some i→i.agg=false→opLoad tb t m (.pointer (some ⟨b,o+k,s⟩))=.r w:=by
 have hk1:=(List.getElem?_eq_some_iff.1 hk).1
 rcases h with ⟨rfl,h1,rfl⟩|⟨b,o,c,rfl,h1,rfl|⟨h2,h3⟩⟩
 ·simp at hk1
 ·simp at hk1
 ·exact⟨b,o,c,rfl,h1,h3,h2,fun hi ha=>ld_rd1 hi ha h2 hk⟩
theorem SlAt.loadA {n k sz:Nat} {v:Value} {cells:List Value} (h:SlAt m v n cells) (hk:k+sz≤cells.length) (hs:0<sz):∃ b o c,v=.slice (some ⟨b,o,none⟩) n c∧n≤c∧b<m.next∧rd m b o cells.length=some cells∧∀ {t:TypeId} {i:TI} {s:Option Nat},ti tb t=some i→i.agg=true→i.inf.size=sz→opLoad tb t m (.pointer (some ⟨b,o+k,s⟩))=.r (.agg ⟨takeN cells k sz⟩):=by
 rcases h with ⟨rfl,h1,rfl⟩|⟨b,o,c,rfl,h1,rfl|⟨h2,h3⟩⟩
 ·simp at hk;omega
 ·simp at hk;omega
 ·exact⟨b,o,c,rfl,h1,h3,h2,fun hi ha he=>by subst he;exact ld_rdA hi ha h2 hk (by omega)⟩
theorem fits_true (a:Option Addr) (sl sc n b:Nat) (h:(sl+n+1000)*b≤17592186044416):appendFits (.slice a sl sc) n b=true:=by rw [fits_eq];simpa using h
theorem xregQ {os:List SOp} (h:∀ Q',Q'=Q→wpR tb F Q' os l ds m):wpX tb F (.reg os) l ds m Q:=xreg (h Q rfl)
theorem xseqP {a b:SCode} {PS:List Value→List Deferred→Mem→Prop} (h:wpX tb F a l ds m (fun e l' ds' m'=>e=.normal∧PS l' ds' m')) (g:∀ l' ds' m',PS l' ds' m'→wpX tb F b l' ds' m' Q):wpX tb F (.seq a b) l ds m Q :=
 xseq (h.mono fun e l' ds' m' ⟨h1,h2⟩=>by subst h1;exact g _ _ _ h2)
def Inv (I:Nat→List Value→List Deferred→Mem→Prop) (n:Nat) (l:List Value) (ds:List Deferred) (m:Mem):Prop:=∃ k,k<n∧I k l ds m
theorem xwhile {b:SCode} {I:Nat→List Value→List Deferred→Mem→Prop} {N:Nat} (h0:I N l ds m) (hr:∀ n l ds m,I n l ds m→wpX tb F b l ds m (thenA (Inv I n) Q)):wpX tb F (.loop b) l ds m Q :=
 xloop h0 fun n l ds m h=>hr n l ds m h
theorem xif {a b:SCode} {c:Operand} {v:Bool} (hc:evL l c=.bool v) (ht:v=true→wpX tb F a l ds m Q) (hf:v=false→wpX tb F b l ds m Q):wpX tb F (.cond c a b) l ds m Q :=
 xcond hc (by cases v with|true=>exact ht rfl|false=>exact hf rfl)
theorem xno {a b:SCode} {c:Operand} (hc:evL l c=.bool false) (h:wpX tb F b l ds m Q):wpX tb F (.cond c a b) l ds m Q:=xif (v:=false) hc (fun h=>by cases h) (fun _=>h)
theorem xyes {a b:SCode} {c:Operand} (hc:evL l c=.bool true) (h:wpX tb F a l ds m Q):wpX tb F (.cond c a b) l ds m Q:=xif (v:=true) hc (fun _=>h) (fun h=>by cases h)
theorem xsr {os:List SOp} {b:SCode} (h:∀ Q',Q'=thenA (fun l ds m=>wpX tb F b l ds m Q) Q→wpR tb F Q' os l ds m):wpX tb F (.seq (.reg os) b) l ds m Q:=xseq (xregQ h)
noncomputable def vwX (o:AObj):Option Vw:=vwO o
def updL (V:Option Vw) (o:Nat) (l:List Value):Option Vw:=match V with|some V=>some ⟨V.w,V.elem,V.ext,spl V.cs o l⟩|none=>none
theorem updL_some (w:Bool) (e:TypeId) (x:Bool) (cs l:List Value) (o:Nat):updL (some ⟨w,e,x,cs⟩) o l=some ⟨w,e,x,spl cs o l⟩:=_root_.id rfl
theorem vwO_lf (n:Nat) (z:List Value) (e:TypeId) (x:Bool):vwO (.row ⟨.lf,n,z,e,.none,x⟩)=if n=(n / z.length)*z.length then some ⟨true,e,x,repl z (n / z.length)⟩ else vwX (.row ⟨.lf,n,z,e,.none,x⟩):=by
 split
 ·rename_i h
  have:=vwRow_zero true e z (n / z.length) x
  rw [← h] at this
  exact this
 ·rfl
theorem vwO_setL (l:List Value) (o:Nat) (c:T Value) (n:Nat) (z:List Value) (e:TypeId) (x:Bool) (hl:o+l.length≤n) (hs:(vwO (.row ⟨c,n,z,e,.none,x⟩)).isSome=true) :
  vwO (.row ⟨T.setL l o c,n,z,e,.none,x⟩)=updL (vwO (.row ⟨c,n,z,e,.none,x⟩)) o l:=by
 cases h:vwO (.row ⟨c,n,z,e,.none,x⟩) with
 |none=>rw [h] at hs;cases hs
 |some V =>
  have h':vwRow true ⟨c,n,z,e,.none,x⟩=some V:=h
  have:=vwRow_setL h' hl
  obtain⟨h0,h1,h2,h3,h4,h5⟩:=vwRow_spec h'
  refine (show vwO (.row ⟨T.setL l o c,n,z,e,.none,x⟩)=vwRow true ⟨T.setL l o c,n,z,e,.none,x⟩ from rfl).trans ?_
  rw [this]
  simp only [updL]
  simp only at h2 h3
  rw [h0,h2,h3]
def blkV:Value→Option Nat
 | .slice (some a) _ _=>some a.block
 |_=>none
def Keep (ob:Option Nat) (m m':Mem):Prop:=m.next≤m'.next∧∀ x,x<m.next→ob≠some x→m'.objs.get x=m.objs.get x
theorem Keep.vw {ob:Option Nat} {a b:Mem} (h:Keep ob a b) {x:Nat} (hx:x<a.next) (hb:ob≠some x):Go.Ev.vw b x=Go.Ev.vw a x:=by unfold Go.Ev.vw;rw [h.2 x hx hb]
theorem growM_get (ob:Option Nat) (e:TypeId) (cells:List Value) {x:Nat} (hx:x<m.next) (hb:ob≠some x):(growM m ob e cells).objs.get x=m.objs.get x:=by
 unfold growM
 rw [get_newObjA]
 cases ob with
 |none=>exact if_neg (by simp only;omega)
 |some b =>
  refine (if_neg (by simp only [next_putObj];omega)).trans ?_
  simp only
  rw [get_putObj,if_neg (by intro e;exact hb (by rw [e]))]
theorem growM_keep (ob:Option Nat) (e:TypeId) (cells:List Value):Keep ob m (growM m ob e cells):=⟨by rw [growM_next];omega,fun x hx hb=>growM_get _ _ _ hx hb⟩
theorem Own.shape {n0 n:Nat} {v:Value} {e:TypeId} {cells:List Value} (h:Own n0 m v e n cells):∃ a,v=.slice a n n:=by
 rcases h with ⟨rfl,rfl,_⟩|⟨b,rfl,_⟩<;>exact⟨_,rfl⟩
theorem Own.append {n0 n k sz:Nat} {v:Value} {e:TypeId} {cells new:List Value} {m1:Mem} (h:Own n0 m v e n cells) (hm:Old m.next m m1) (hle:n0≤m.next) (hc:cells.length=n*sz) (hn:new.length=(k+1)*sz) (ho:new.all oneC=true) :
  ∃ v' m',appendTo m1 e sz v (k+1) new=some (v',m')∧Own n0 m' v' e (n+(k+1)) (cells++new)∧Keep (blkV v) m1 m'∧Old n0 m1 m'∧(∃ b,v'=.slice (some ⟨b,0,none⟩) (n+(k+1)) (n+(k+1))∧m1.next≤b):=by
 have h0:=hm.1
 rcases h with ⟨rfl,rfl,rfl⟩|⟨b,rfl,h1,h2,h3⟩
 ·refine⟨_,_,ap_first' _ _ _ _,.inr ⟨m1.next,?_,?_,?_,?_⟩,growM_keep _ _ _,(Old.refl _ _).grow (by omega) _ _,⟨_,by rw [Nat.zero_add],Nat.le_refl _⟩⟩
  ·rw [Nat.zero_add]
  ·omega
  ·rw [growM_next];omega
  ·rw [vw_growM,if_pos rfl];rfl
 ·have h4:vw m1 b=some ⟨true,e,true,cells⟩:=by rw [hm.vw h2];exact h3
  have e1:=at_W (m:=m1) e sz b 0 none n n (k+1) new
  rw [h4,atW_some,if_neg (by omega),if_neg (by simp),if_pos ⟨rfl,rfl,rfl,Nat.le_refl _,by simp [hc],rfl,hn,ho⟩] at e1
  refine⟨_,_,e1,.inr ⟨m1.next,rfl,by omega,by rw [growM_next];omega,?_⟩,growM_keep _ _ _,(Old.refl _ _).grow' (by omega) h1 _ _,⟨_,rfl,Nat.le_refl _⟩⟩
  rw [vw_growM,if_pos rfl]
  simp only
  rw [← hc,takeN_self]
theorem ble_d (a b:Nat):Nat.ble a b=decide (a≤b):=by rw [Bool.eq_iff_iff,Nat.ble_eq];simp
theorem beq_d (a b:Nat):Nat.beq a b=decide (a=b):=by rw [Bool.eq_iff_iff,Nat.beq_eq];simp
theorem i64s_get (l:List Int) (k:Nat):(i64s l)[k]? = (l[k]?).map fun b=>.int .i64 b:=by simp [i64s]
end
end Go.Ev

