/- A part of a proof: ScriptBlanks. -/
import Derived.Test.YtgmkbdmgifdfeaaGreatDoorC9
set_option linter.unusedVariables false
set_option linter.unusedSimpArgs false
namespace Go.Ev
open Go.RowKit
structure Vw where
 w:Bool
 elem:TypeId
 ext:Bool
 cs:List Value
noncomputable def Qi9 (w:Bool) (r:Row):Option Vw :=
 match r.fz with
 | .none=>match Qbx r r.n 0 with
   |some cs=>some ⟨w,r.elem,r.ext,cs⟩
   |none=>none
 |_=>none
noncomputable def vwO:AObj→Option Vw
 | .row r=>Qi9 true r
 | .glob r=>Qi9 false r
 |_=>none
noncomputable def vw (m:Mem) (b:Nat):Option Vw :=
 match m.objs.get b with
 |some o=>vwO o
 |none=>none
theorem Jb0 {r:Row} {i:Nat} (h:r.n≤i):Qcm r i=none:=by
 obtain⟨ov,n,z,e,fz,x⟩:=r
 unfold Qcm
 simp only at h ⊢
 have:Nat.blt i n=false:=by
  cases hb:Nat.blt i n with
  |false=>rfl
  |true=>rw [Nat.blt_eq] at hb;omega
 rw [this]
theorem Qcg {r:Row} {cs:List Value} (h:∀ i,Qcm r i=cs[i]?):∀ k o,Qbx r k o=if k=0∨o+k≤cs.length then some (Qb3 cs o k) else none
 |0,o=>by simp [Qgs,Qb3]
 |k+1,o=>by
  rw [Qgt,h o]
  by_cases ho:o<cs.length
  ·rw [Kge ho]
   simp only [oB]
   rw [Qcg h k (o+1)]
   by_cases hk:o+(k+1)≤cs.length
   ·rw [if_pos (by omega),if_pos (by omega)]
    simp only [Qb3,oB]
    rw [List.drop_eq_getElem_cons ho,List.take_succ_cons]
   ·rw [if_neg (by omega),if_neg (by omega)]
  ·rw [List.getElem?_eq_none (by omega),if_neg (by omega)]
   rfl
theorem Qgy {w:Bool} {r:Row} {v:Vw} (h:Qi9 w r=some v):v.w=w∧r.n=v.cs.length∧r.elem=v.elem∧r.ext=v.ext∧r.fz=.none∧∀ i,Qcm r i=v.cs[i]? := by
 unfold Qi9 at h
 split at h<;>first|(simp at h;done)|skip
 rename_i hf
 split at h<;>first|(simp at h;done)|skip
 rename_i cs hc
 obtain rfl:=Kai h
 obtain⟨h1,h2⟩:=Qd3 hc
 refine⟨rfl,h1.symm,rfl,rfl,hf,fun i=>?_⟩
 by_cases hi:i<cs.length
 ·have:=h2 i _ (Kge hi)
  rw [Nat.zero_add] at this
  rw [this,Kge hi]
 ·have h1:cs.length=r.n:=h1
  rw [Jb0 (by omega),List.getElem?_eq_none (by simpa using hi)]
theorem Qim {w:Bool} {r:Row} {cs:List Value} (hf:r.fz=.none) (hn:r.n=cs.length) (h:∀ i,Qcm r i=cs[i]?):Qi9 w r=some ⟨w,r.elem,r.ext,cs⟩:=by
 unfold Qi9
 rw [hf]
 simp only
 rw [Qcg h,if_pos (by omega)]
 simp [Qb3,hn]
theorem Qdm {m:Mem} {b:Nat} {v:Vw} (h:vw m b=some v):∃ r,Qd9 m b=some r∧r.n=v.cs.length∧r.elem=v.elem∧r.ext=v.ext∧r.fz=.none∧(∀ i,Qcm r i=v.cs[i]?)∧(v.w=true→rowW m b=some r)∧(v.w=false→rowW m b=none):=by
 unfold vw at h
 split at h<;>first|(simp at h;done)|skip
 rename_i o ho
 unfold vwO at h
 split at h<;>first|(simp at h;done)|skip
 ·rename_i r
  obtain⟨h0,h1,h2,h3,h4,h5⟩:=Qgy h
  refine⟨r,by simp [Qd9,ho],h1,h2,h3,h4,h5,fun _=>by simp [rowW,ho],fun e=>?_⟩
  rw [h0] at e;cases e
 ·rename_i r
  obtain⟨h0,h1,h2,h3,h4,h5⟩:=Qgy h
  refine⟨r,by simp [Qd9,ho],h1,h2,h3,h4,h5,fun e=>?_,fun _=>by simp [rowW,ho]⟩
  rw [h0] at e;cases e
def spl (cs:List Value):Nat→List Value→List Value
 |_,[]=>cs
 |i,v::l=>spl (cs.set i v) (i+1) l
theorem Qfs:∀ (l:List Value) (cs:List Value) (i:Nat),(spl cs i l).length=cs.length
 | [],_,_=>rfl
 |v::l,cs,i=>by rw [spl,Qfs l];simp
theorem Qp6:∀ (l:List Value) (cs:List Value) (i k:Nat),i+l.length≤cs.length→(spl cs i l)[k]? = if i≤k∧k<i+l.length then l[k-i]? else cs[k]?
 | [],cs,i,k,h=>by simp [spl];intros;omega
 |v::l,cs,i,k,h=>by
  simp only [Klc] at h ⊢
  rw [spl,Qp6 l _ _ _ (by simp;omega)]
  by_cases h1:i+1≤k∧k<i+1+l.length
  ·rw [if_pos h1,if_pos (by omega),show k-i=(k-(i+1))+1 from by omega];simp
  ·rw [if_neg h1,List.getElem?_set]
   by_cases h2:i=k
   ·subst h2
    rw [if_pos rfl,if_pos (by omega),if_pos (by omega)];simp
   ·rw [if_neg h2,if_neg (by omega)]
theorem Qo2 {cs:List Value} {i:Nat} {l:List Value} (h:i+l.length≤cs.length):spl cs i l=cs.take i++l++cs.drop (i+l.length):=by
 apply List.ext_getElem?
 intro k
 rw [Qp6 l cs i k h]
 simp only [List.getElem?_append,Kla,List.length_take,Nat.min_eq_left (show i≤cs.length by omega)]
 by_cases h1:k<i
 ·rw [if_neg (by omega),if_pos (by omega),if_pos h1,List.getElem?_take,if_pos h1]
 ·by_cases h2:k<i+l.length
  ·rw [if_pos (by omega),if_pos h2,if_neg h1]
  ·rw [if_neg (by omega),if_neg h2,List.getElem?_drop];congr 1;omega
noncomputable def stM (m:Mem) (b i:Nat) (l:List Value):Mem:=match Qce m b i l with|some m'=>m'|none=>m
def stOk (V:Vw) (i:Nat) (l:List Value):Bool:=V.w&&Nat.ble (i+l.length) V.cs.length&&l.all oneC
theorem Qjq {m:Mem} {b i:Nat} {l:List Value} {V:Vw} (hv:vw m b=some V) (h:stOk V i l=true) :
  ∃ r',Qce m b i l=some (Qa3 m b (.row r'))∧Qi9 true r'=some ⟨true,V.elem,V.ext,spl V.cs i l⟩:=by
 obtain⟨r,h1,h2,h3,h4,h5,h6,h7,h8⟩:=Qdm hv
 unfold stOk at h
 simp only [Kba,Nat.ble_eq] at h
 obtain⟨⟨hw,hl⟩,ha⟩:=h
 obtain⟨ov,n,z,e,fz,x⟩:=r
 simp only at h2 h3 h4 h5
 subst h5
 have hrow:=h7 hw
 refine⟨⟨T.setL l i ov,n,z,e,.none,x⟩,?_,?_⟩
 ·unfold Qce
  rw [hrow]
  simp only [oB,Ql3,fzOk]
  have:(Nat.ble (i+l.length) n&&l.all oneC)=true:=by
   rw [ha,Bool.and_true,Nat.ble_eq];omega
  rw [this]
 ·have:=Qim (w:=true) (r:=⟨T.setL l i ov,n,z,e,.none,x⟩) (cs:=spl V.cs i l) rfl (by rw [Qfs];exact h2) fun k=>by
   rw [Qp6 _ _ _ _ hl,← h6]
   unfold Qcm
   simp only
   rw [T.get_setL]
   by_cases hk:k<n
   ·have hb:Nat.blt k n=true:=by rw [Nat.blt_eq];exact hk
    rw [hb]
    simp only
    by_cases h1:k<i
    ·rw [if_pos h1,if_neg (by omega)]
    ·rw [if_neg h1]
     by_cases h2:k<i+l.length
     ·rw [if_pos h2,if_pos (by omega),Kge (by omega)]
     ·rw [if_neg h2,if_neg (by omega)]
   ·have hb:Nat.blt k n=false:=by
     cases hb:Nat.blt k n with
     |false=>rfl
     |true=>rw [Nat.blt_eq] at hb;omega
    rw [hb]
    simp only
    rw [if_neg (by omega)]
  rw [this]
  simp only [h3,h4]
theorem Qjp {m:Mem} {b i:Nat} {l:List Value} {V:Vw} (hv:vw m b=some V) (h:stOk V i l=true):Qce m b i l=some (stM m b i l):=by
 obtain⟨r',h1,h2⟩:=Qjq hv h
 unfold stM
 rw [h1]
theorem Qht {m m':Mem} {b i:Nat} {l:List Value} (h:Qce m b i l=some m'):∃ r',m'=Qa3 m b (.row r'):=by
 unfold Qce at h
 rw [Qac] at h
 obtain⟨r,_,h⟩:=h
 rw [Qac] at h
 obtain⟨r',_,h⟩:=h
 exact⟨r',(Kai h).symm⟩
theorem Qbl {m:Mem} {b i x:Nat} {l:List Value} (hx:x≠b):(stM m b i l).objs.get x=m.objs.get x:=by
 unfold stM
 split
 ·rename_i m' h
  obtain⟨r',rfl⟩:=Qht h
  rw [Qbp,if_neg hx]
 ·rfl
theorem Qaq {m:Mem} {b i:Nat} {l:List Value}:(stM m b i l).next=m.next:=by
 unfold stM
 split
 ·rename_i m' h
  obtain⟨r',rfl⟩:=Qht h
  rfl
 ·rfl
theorem Qab {m:Mem} {b i x:Nat} {l:List Value} (hx:x≠b):vw (stM m b i l) x=vw m x:=by unfold vw;rw [Qbl hx]
theorem Qax {m:Mem} {b i:Nat} {l:List Value} {V:Vw} (hv:vw m b=some V) (h:stOk V i l=true):vw (stM m b i l) b=some ⟨true,V.elem,V.ext,spl V.cs i l⟩:=by
 obtain⟨r',h1,h2⟩:=Qjq hv h
 unfold stM
 rw [h1]
 unfold vw
 simp only [Qbp,if_true,vwO,h2]
theorem Qcy {m:Mem} {o:AObj} {x:Nat}:vw (Qah m o) x=if x=m.next then vwO o else vw m x:=by
 unfold vw
 rw [Qam]
 by_cases h:x=m.next
 ·rw [if_pos h,if_pos h]
 ·rw [if_neg h,if_neg h]
theorem Qyg {m:Mem} {o:AObj} {b x:Nat}:vw (Qa3 m b o) x=if x=b then vwO o else vw m x:=by
 unfold vw
 rw [Qbp]
 by_cases h:x=b
 ·rw [if_pos h,if_pos h]
 ·rw [if_neg h,if_neg h]
theorem Qec (e:TypeId) (cells:List Value) (x:Bool):vwO (Qb1 e cells .none x)=some ⟨true,e,x,cells⟩:=by
 unfold Qb1 vwO
 refine Qim (r:=⟨T.ofList cells,cells.length,[],e,.none,x⟩) rfl rfl fun i=>?_
 unfold Qcm
 simp only [T.get_ofList]
 by_cases hi:i<cells.length
 ·have hb:Nat.blt i cells.length=true:=by rw [Nat.blt_eq];exact hi
  rw [hb,Kge hi]
 ·have hb:Nat.blt i cells.length=false:=by
   cases hb:Nat.blt i cells.length with
   |false=>rfl
   |true=>rw [Nat.blt_eq] at hb;omega
  rw [hb,List.getElem?_eq_none (by omega)]
theorem Qoz (w:Bool) (e:TypeId) (z:List Value) (n:Nat) (x:Bool):Qi9 w ⟨.lf,n*z.length,z,e,.none,x⟩=some ⟨w,e,x,repl z n⟩:=by
 refine Qim (r:=⟨.lf,n*z.length,z,e,.none,x⟩) rfl (Qhj z n).symm fun i=>?_
 unfold Qcm
 simp only [T.get_lf]
 by_cases hi:i<n*z.length
 ·have hb:Nat.blt i (n*z.length)=true:=by rw [Nat.blt_eq];exact hi
  rw [hb,Ql6,if_pos hi]
 ·have hb:Nat.blt i (n*z.length)=false:=by
   cases hb:Nat.blt i (n*z.length) with
   |false=>rfl
   |true=>rw [Nat.blt_eq] at hb;omega
  rw [hb,Ql6,if_neg hi]
theorem Qtf (e:TypeId) (z:List Value) (n:Nat):vwO (Qbw e (n*z.length) z)=some ⟨true,e,false,repl z n⟩:=Qoz _ _ _ _ _
theorem Qdn (e:TypeId) (z:List Value):vwO (Qbw e z.length z)=some ⟨true,e,false,z⟩:=by
 have:=Qtf e z 1
 rw [Nat.one_mul] at this
 rw [this];simp [repl]
theorem Qwi {w:Bool} {c:T Value} {n:Nat} {z l:List Value} {e:TypeId} {x:Bool} {o:Nat} {V:Vw} (h:Qi9 w ⟨c,n,z,e,.none,x⟩=some V) (hl:o+l.length≤n) :
  Qi9 w ⟨T.setL l o c,n,z,e,.none,x⟩=some ⟨w,e,x,spl V.cs o l⟩:=by
 obtain⟨h0,h1,h2,h3,h4,h5⟩:=Qgy h
 simp only at h1 h2 h3
 refine Qim (r:=⟨T.setL l o c,n,z,e,.none,x⟩) rfl (by rw [Qfs];exact h1) fun k=>?_
 rw [Qp6 _ _ _ _ (by omega),← h5]
 unfold Qcm
 simp only
 rw [T.get_setL]
 by_cases hk:k<n
 ·have hb:Nat.blt k n=true:=by rw [Nat.blt_eq];exact hk
  rw [hb]
  simp only
  by_cases h1:k<o
  ·rw [if_pos h1,if_neg (by omega)]
  ·rw [if_neg h1]
   by_cases h2:k<o+l.length
   ·rw [if_pos h2,if_pos (by omega),Kge (by omega)]
   ·rw [if_neg h2,if_neg (by omega)]
 ·have hb:Nat.blt k n=false:=by
   cases hb:Nat.blt k n with
   |false=>rfl
   |true=>rw [Nat.blt_eq] at hb;omega
  rw [hb]
  simp only
  rw [if_neg (by omega)]
end Go.Ev

namespace Go.Ev
open Go.RowKit
section
variable {tb:Tabs} {l:List Value} {m:Mem}
theorem evL_tmp (i:Nat):evL l (.tmp i)=l.getD i undef:=Qa8 l i
theorem Jbj (v:Value):evL l (.const v)=v:=_root_.id rfl
theorem evL_func (f:FuncId):evL l (.func f)=.func (.func f) #[] #[]:=_root_.id rfl
theorem evsL_nil:evsL l []=[]:=_root_.id rfl
theorem Jbf (x:Operand) (xs:List Operand):evsL l (x::xs)=evL l x::evsL l xs:=_root_.id rfl
noncomputable def evPL (l:List Value) (x:List (Nat × Operand)):List (Nat × Value):=evP (T.ofList l) x
theorem evPL_nil:evPL l []=[]:=_root_.id rfl
theorem Jbg (i:Nat) (x:Operand) (xs:List (Nat × Operand)):evPL l ((i,x)::xs)=(i,evL l x)::evPL l xs:=_root_.id rfl
noncomputable def evOL (l:List Value) (x:Option Operand):Option Value:=evO (T.ofList l) x
theorem Jbi:evOL l none=none:=_root_.id rfl
theorem Jbh (x:Operand):evOL l (some x)=some (evL l x):=_root_.id rfl
theorem o_move (x:Operand):opA (.move x) tb (T.ofList l) m=.r (evL l x):=_root_.id rfl
theorem o_assign (x:Operand):opA (.assign x) tb (T.ofList l) m=.e (evL l x) m:=_root_.id rfl
theorem o_pick (c a b:Operand):opA (.pick c a b) tb (T.ofList l) m=Qvu (evL l c) (evL l a) (evL l b):=_root_.id rfl
theorem o_alloc (e:TypeId):opA (.alloc e) tb (T.ofList l) m=Qm9 tb e:=_root_.id rfl
theorem o_box (e:TypeId) (x:Operand):opA (.box e x) tb (T.ofList l) m=.f (Qb1 e (Qbc (evL l x)) .none false) ptr0:=_root_.id rfl
theorem o_build (ty:TypeId) (ps:Array (Nat × Operand)):opA (.build ty ps) tb (T.ofList l) m=oR (Qsx tb ty (evPL l ps.toList)):=_root_.id rfl
theorem Qr2 (ty:TypeId) (n:Nat) (ps:Array (Nat × Operand)):opA (.buildSlice ty n ps) tb (T.ofList l) m=Qe8 tb ty n (evPL l ps.toList):=_root_.id rfl
theorem o_load (ty:TypeId) (a:Operand):opA (.load ty a) tb (T.ofList l) m=Qfi tb ty m (evL l a):=_root_.id rfl
theorem o_store (ty:TypeId) (a x:Operand):opA (.store ty a x) tb (T.ofList l) m=Qhn tb ty m (evL l a) (evL l x):=_root_.id rfl
theorem Qxe (x:Operand):opA (.nilCheck x) tb (T.ofList l) m=Qg4 (evL l x):=_root_.id rfl
theorem o_binOp (op:BinOp) (ty:TypeId) (x y:Operand) (yt:TypeId):opA (.binOp op ty x y yt) tb (T.ofList l) m=oR (binA tb m op ty x y (evL l x) (evL l y)):=_root_.id rfl
theorem o_unOp (op:UnOp) (ty:TypeId) (x:Operand):opA (.unOp op ty x) tb (T.ofList l) m=oR (unA op (evL l x)):=_root_.id rfl
theorem Jai (s d:TypeId) (x:Operand):opA (.convert s d x) tb (T.ofList l) m=Qfj tb m s d (evL l x):=_root_.id rfl
theorem Qnb (ty:TypeId) (x:Operand):opA (.makeInterface ty x) tb (T.ofList l) m=Qj1 tb ty (evL l x):=_root_.id rfl
theorem Qxf (f:FuncId) (first cap:Array Operand):opA (.makeFunc (.func f) first cap) tb (T.ofList l) m=.r (.func (.func f) ⟨evsL l first.toList⟩ ⟨evsL l cap.toList⟩):=_root_.id rfl
theorem o_slice (ty:TypeId) (x:Operand) (lo hi mx:Option Operand):opA (.slice ty x lo hi mx) tb (T.ofList l) m=oR (Qhu tb ty m (evL l x) (evOL l lo) (evOL l hi) (evOL l mx)):=_root_.id rfl
theorem Quc (ty:TypeId) (x:Operand) (f:Nat):opA (.fieldAddr ty x f) tb (T.ofList l) m=oR (Qha tb ty (evL l x) f):=_root_.id rfl
theorem Qub (ty:TypeId) (x i:Operand):opA (.indexAddr ty x i) tb (T.ofList l) m=oR (Qeg tb ty (evL l x) (evL l i)):=_root_.id rfl
theorem o_index (ty:TypeId) (x i:Operand):opA (.index ty x i) tb (T.ofList l) m=oR (Qi6 tb ty (evL l x) (evL l i)):=_root_.id rfl
theorem Qr1 (x:Operand) (t:TypeId) (a:TypeId) (ok:Bool):opA (.typeAssert x t a ok) tb (T.ofList l) m=oR (Qeq tb (evL l x) a ok):=_root_.id rfl
theorem Jah (x:Operand) (i:Nat):opA (.extract x i) tb (T.ofList l) m=Qe7 (evL l x) i:=_root_.id rfl
theorem o_callV (f:Operand) (args:Array Operand) (tys:Array TypeId):opA (.call ⟨.value f,args,tys⟩) tb (T.ofList l) m=.c:=_root_.id rfl
theorem o_callB (b:Builtin) (args:Array Operand) (tys:Array TypeId):opA (.call ⟨.builtin b,args,tys⟩) tb (T.ofList l) m=Qck tb m b tys.toList (evsL l args.toList):=_root_.id rfl
theorem o_defer (c:Call):opA (.defer c) tb (T.ofList l) m=.c:=_root_.id rfl
theorem o_panic (x:Operand):opA (.panic x) tb (T.ofList l) m=.c:=_root_.id rfl
theorem Qcv (k:IntKind):kEq k k=true:=by cases k<;>rfl
theorem b_add (k:IntKind) (t:TypeId) (x y:Operand) (a b:Int):binA tb m .add t x y (.int k a) (.int k b)=some (.int k (k.wrap (a+b))):=by
 simp only [binA,Qcv,Qhw,Qbe,Qc4,Jcd]
theorem b_sub (k:IntKind) (t:TypeId) (x y:Operand) (a b:Int):binA tb m .sub t x y (.int k a) (.int k b)=some (.int k (k.wrap (a-b))):=by
 simp only [binA,Qcv,Qhw,Qbe,Qc4,Qp5]
theorem b_mul (k:IntKind) (t:TypeId) (x y:Operand) (a b:Int):binA tb m .mul t x y (.int k a) (.int k b)=some (.int k (k.wrap (a*b))):=by
 simp only [binA,Qcv,Qhw,Qbe,Qc4,Jam]
theorem b_eql (k:IntKind) (t:TypeId) (x y:Operand) (a b:Int):binA tb m .eql t x y (.int k a) (.int k b)=some (.bool (decide (a=b))):=by
 simp only [binA,Qcv,Qhw,Qd6];rfl
theorem b_neq (k:IntKind) (t:TypeId) (x y:Operand) (a b:Int):binA tb m .neq t x y (.int k a) (.int k b)=some (.bool (!decide (a=b))):=by
 simp only [binA,Qcv,Qhw,Qd6];rfl
theorem b_lss (k:IntKind) (t:TypeId) (x y:Operand) (a b:Int):binA tb m .lss t x y (.int k a) (.int k b)=some (.bool (decide (a<b))):=by
 simp only [binA,Qcv,Qhw,Qez]
theorem b_gtr (k:IntKind) (t:TypeId) (x y:Operand) (a b:Int):binA tb m .gtr t x y (.int k a) (.int k b)=some (.bool (decide (b<a))):=by
 simp only [binA,Qcv,Qhw,Qez]
theorem b_leq (k:IntKind) (t:TypeId) (x y:Operand) (a b:Int):binA tb m .leq t x y (.int k a) (.int k b)=some (.bool (decide (a≤b))):=by
 simp only [binA,Qcv,Qhw,Qez,← decide_not,Int.not_lt]
theorem b_geq (k:IntKind) (t:TypeId) (x y:Operand) (a b:Int):binA tb m .geq t x y (.int k a) (.int k b)=some (.bool (decide (b≤a))):=by
 simp only [binA,Qcv,Qhw,Qez,← decide_not,Int.not_lt]
theorem b_beql (t:TypeId) (x y:Operand) (a b:ByteArray):binA tb m .eql t x y (.string a) (.string b)=some (.bool (decide (a.data.toList=b.data.toList))):=by
 simp only [binA,Qrn,Qdd]
 congr 2;rw [Bool.eq_iff_iff];simp
theorem b_bneq (t:TypeId) (x y:Operand) (a b:ByteArray):binA tb m .neq t x y (.string a) (.string b)=some (.bool (!decide (a.data.toList=b.data.toList))):=by
 simp only [binA,Qrn,Qdd]
 congr 3;rw [Bool.eq_iff_iff];simp
theorem b_cat (t:TypeId) (x y:Operand) (a b:List UInt8) (h:a.length+b.length≤9223372036854775807):binA tb m .add t x y (.string ⟨⟨a⟩⟩) (.string ⟨⟨b⟩⟩)=some (.string ⟨⟨a++b⟩⟩):=by
 have h':Nat.ble (a.length+b.length) 9223372036854775807=true:=by rw [Nat.ble_eq];exact h
 simp only [binA,Qrn,h']
theorem b_shr (k k':IntKind) (t:TypeId) (x y:Operand) (a s:Nat):binA tb m .shr t x y (.int k (a:Int)) (.int k' (s:Int))=some (.int k ((a / 2 ^ Nat.min s k.bits:Nat):Int)):=by
 show Qeh .shr k (.ofNat a) (.ofNat s)=_
 simp only [Qeh,Qbe]
 rw [← Nat.shiftRight_eq_div_pow];rfl
theorem b_shl (k k':IntKind) (t:TypeId) (x y:Operand) (a s:Nat):binA tb m .shl t x y (.int k (a:Int)) (.int k' (s:Int))=some (.int k (k.wrap ((a*2 ^ Nat.min s k.bits:Nat):Int))):=by
 show Qeh .shl k (.ofNat a) (.ofNat s)=_
 have:Qki k (Nat.shiftLeft a (Nat.min s k.bits))=k.wrap ((a*2 ^ Nat.min s k.bits:Nat):Int):=by
  have:=Qc4 k (.ofNat (Nat.shiftLeft a (Nat.min s k.bits)))
  rw [show Qmj k (.ofNat (Nat.shiftLeft a (Nat.min s k.bits)))=Qki k (Nat.shiftLeft a (Nat.min s k.bits)) from rfl] at this
  rw [this]
  congr 1
  show ((a <<< Nat.min s k.bits:Nat):Int)=_
  rw [Nat.shiftLeft_eq]
 simp only [Qeh,Qbe,this]
theorem b_and (k:IntKind) (t:TypeId) (x y:Operand) (a b:Nat):binA tb m .and t x y (.int k (a:Int)) (.int k (b:Int))=some (.int k (k.wrap ((a &&& b:Nat):Int))):=by
 have:=Qc4 k (.ofNat (Nat.land a b))
 rw [show Qmj k (.ofNat (Nat.land a b))=Qki k (Nat.land a b) from rfl] at this
 simp only [binA,Qcv,Qhw]
 show oI k (some (Qki k (Nat.land a b)))=_
 rw [this];simp only [oI,Qbe];rfl
theorem b_or (k:IntKind) (t:TypeId) (x y:Operand) (a b:Nat):binA tb m .or t x y (.int k (a:Int)) (.int k (b:Int))=some (.int k (k.wrap ((a ||| b:Nat):Int))):=by
 have:=Qc4 k (.ofNat (Nat.lor a b))
 rw [show Qmj k (.ofNat (Nat.lor a b))=Qki k (Nat.lor a b) from rfl] at this
 simp only [binA,Qcv,Qhw]
 show oI k (some (Qki k (Nat.lor a b)))=_
 rw [this];simp only [oI,Qbe];rfl
theorem u_not (b:Bool):unA .not (.bool b)=some (.bool !b):=_root_.id rfl
theorem u_neg (k:IntKind) (n:Int):unA .neg (.int k n)=some (.int k (k.wrap (-n))):=by
 simp only [unA,Qbe,Qc4,Qp5]
 congr 3;omega
theorem wr64 (n:Int) (h1 : -9223372036854775808≤n) (h2:n<9223372036854775808):IntKind.wrap .i64 n=n:=by
 rw [Qhd];split<;>omega
theorem Qwh (n:Int) (h1:0≤n) (h2:n<18446744073709551616):IntKind.wrap .u64 n=n:=by rw [Qpw];omega
theorem wru8 (n:Int) (h1:0≤n) (h2:n<256):IntKind.wrap .u8 n=n:=by rw [Qya];omega
theorem wru32 (n:Int) (h1:0≤n) (h2:n<4294967296):IntKind.wrap .u32 n=n:=by rw [Qu8];omega
def ldV (i:TI) (cs:List Value) (o:Nat):Option Value :=
 match i.agg with
 |true=>if i.inf.size=0∨o+i.inf.size≤cs.length then some (.agg ⟨Qb3 cs o i.inf.size⟩) else none
 |false=>cs[o]?
noncomputable def ldX (tb:Tabs) (t:TypeId) (m:Mem) (b o:Nat) (s:Option Nat):OR:=Qfi tb t m (.pointer (some ⟨b,o,s⟩))
noncomputable def ldW (tb:Tabs) (t:TypeId) (m:Mem) (b o:Nat) (s:Option Nat):Option TI→Option Vw→OR
 |some i,some V=>oR (ldV i V.cs o)
 |_,_=>ldX tb t m b o s
theorem o_loadW (t:TypeId) (b o:Nat) (s:Option Nat):Qfi tb t m (.pointer (some ⟨b,o,s⟩))=ldW tb t m b o s (ti tb t) (vw m b):=by
 unfold ldW
 split
 ·rename_i i V hi hv
  obtain⟨r,h1,h2,h3,h4,h5,h6,_⟩:=Qdm hv
  simp only [Qfi,loadA,hi,oB,h1,ldV]
  cases ha:i.agg with
  |true =>
   simp only
   rw [Qcg h6]
   by_cases hc:i.inf.size=0∨o+i.inf.size≤V.cs.length
   ·rw [if_pos hc,if_pos hc]
   ·rw [if_neg hc,if_neg hc]
  |false =>
   simp only
   rw [h6]
 ·rfl
theorem ldW_some (t:TypeId) (b o:Nat) (s:Option Nat) (i:TI) (w:Bool) (e:TypeId) (x:Bool) (cs:List Value):ldW tb t m b o s (some i) (some ⟨w,e,x,cs⟩)=oR (ldV i cs o):=_root_.id rfl
noncomputable def stX (tb:Tabs) (t:TypeId) (m:Mem) (b o:Nat) (s:Option Nat) (v:Value):OR:=Qhn tb t m (.pointer (some ⟨b,o,s⟩)) v
noncomputable def stW (tb:Tabs) (t:TypeId) (m:Mem) (b o:Nat) (s:Option Nat) (v:Value):Option TI→Option Vw→OR
 |some i,some V=>if (Qbc v).length=i.inf.size∧stOk V o (Qbc v)=true then .e undef (stM m b o (Qbc v)) else stX tb t m b o s v
 |_,_=>stX tb t m b o s v
theorem o_storeW (t:TypeId) (b o:Nat) (s:Option Nat) (v:Value):Qhn tb t m (.pointer (some ⟨b,o,s⟩)) v=stW tb t m b o s v (ti tb t) (vw m b):=by
 unfold stW
 split
 ·rename_i i V hi hv
  split
  ·rename_i h
   obtain⟨h1,h2⟩:=h
   have:Nat.beq (Qbc v).length i.inf.size=true:=by rw [Nat.beq_eq];exact h1
   simp only [Qhn,Qve,hi,oB,this,Qjp hv h2,oM]
  ·rfl
 ·rfl
theorem stW_some (t:TypeId) (b o:Nat) (s:Option Nat) (v:Value) (i:TI) (V:Vw):stW tb t m b o s v (some i) (some V)=if (Qbc v).length=i.inf.size∧stOk V o (Qbc v)=true then .e undef (stM m b o (Qbc v)) else stX tb t m b o s v:=_root_.id rfl
theorem Jcc (e:TypeId) (sz sc:Nat) (new:List Value):Qb0 m e sz (.slice none 0 sc) 0 new=some (.slice none 0 sc,m):=_root_.id rfl
theorem ap_in {b o sl sc:Nat} {s:Option Nat} {V:Vw} (e:TypeId) (sz n:Nat) (new:List Value) (hv:vw m b=some V) (hn:new≠[]) (hc:sl+n≤sc) (hs:stOk V (o+sl*sz) new=true) :
  Qb0 m e sz (.slice (some ⟨b,o,s⟩) sl sc) n new=some (.slice (some ⟨b,o,s⟩) (sl+n) sc,stM m b (o+sl*sz) new):=by
 have:Nat.ble (sl+n) sc=true:=by rw [Nat.ble_eq];exact hc
 simp only [Qb0,this]
 cases new with
 |nil=>exact absurd rfl hn
 |cons v new=>simp only [Qjp hv hs,oB]
theorem Jcb {b o sl sc:Nat} {s:Option Nat} (e:TypeId) (sz:Nat) (hc:sl≤sc):Qb0 m e sz (.slice (some ⟨b,o,s⟩) sl sc) 0 []=some (.slice (some ⟨b,o,s⟩) sl sc,m):=by
 have:Nat.ble sl sc=true:=by rw [Nat.ble_eq];exact hc
 simp only [Qb0,this,Nat.add_zero]
theorem ap_fix {b o sl sc:Nat} {V:Vw} (e:TypeId) (sz n:Nat) (new:List Value) (s:Option Nat) (hv:vw m b=some V) (hx:V.ext=false) (hc:sc<sl+n) (hb:sl*sz=0∨o+sl*sz≤V.cs.length) :
  Qb0 m e sz (.slice (some ⟨b,o,s⟩) sl sc) n new=some (.slice (some ⟨m.next,0,none⟩) (sl+n) (sl+n),Qah m (Qb1 e (Qb3 V.cs o (sl*sz)++new) .none true)):=by
 obtain⟨r,h1,h2,h3,h4,h5,h6,_⟩:=Qdm hv
 have:Nat.ble (sl+n) sc=false:=by
  cases hb:Nat.ble (sl+n) sc with
  |false=>rfl
  |true=>rw [Nat.ble_eq] at hb;omega
 simp only [Qb0,this,growA,h1,oB]
 rw [h4,hx]
 simp only
 rw [Qcg h6,if_pos hb]
 rfl
theorem ap_grow {b o sl sc:Nat} {V:Vw} (e:TypeId) (sz n:Nat) (new:List Value) (hv:vw m b=some V) (hx:V.ext=true) (hw:V.w=true) (hc:sc<sl+n) (he:o+sc*sz=V.cs.length) (het:V.elem=e) (hn:new.length=n*sz) (ha:new.all oneC=true) (hsl:sl≤sc) :
  Qb0 m e sz (.slice (some ⟨b,o,none⟩) sl sc) n new=some (.slice (some ⟨m.next,0,none⟩) (sl+n) (sl+n),Qah (Qa3 m b .dead) (Qb1 e (Qb3 V.cs o (sl*sz)++new) .none true)):=by
 obtain⟨r,h1,h2,h3,h4,h5,h6,h7,_⟩:=Qdm hv
 have hb:Nat.ble (sl+n) sc=false:=by
  cases hb:Nat.ble (sl+n) sc with
  |false=>rfl
  |true=>rw [Nat.ble_eq] at hb;omega
 have h8:=h7 hw
 have e1:(Nat.beq (o+sc*sz) r.n&&Nat.beq r.elem e&&Nat.beq new.length (n*sz)&&new.all oneC)=true:=by
  rw [h2,h3,he,het,hn,ha];simp
 have hle:sl*sz≤sc*sz:=Nat.mul_le_mul_right sz hsl
 simp only [Qb0,hb,growA,h1,oB,h4,hx,h5,h8,e1]
 rw [Qcg h6,if_pos (by omega)]
 rfl
theorem fi_slice {b o l c k:Nat} {s:Option Nat} {V:Vw} (n:Nat) (hv:vw m b=some V) (h:k=0∨o+k≤V.cs.length):Qf5 m k n (.slice (some ⟨b,o,s⟩) l c)=some (Qb3 V.cs o k):=by
 obtain⟨r,h1,h2,h3,h4,h5,h6,_⟩:=Qdm hv
 cases k with
 |zero=>simp [Qf5,Qb3]
 |succ k =>
  simp only [Qf5,h1,oB]
  rw [Qcg h6,if_pos h]
end
end Go.Ev

namespace Go.Ev
open Go.RowKit
def gx:List Value→Nat→Value
 | [],_=>undef
 |x::_,0=>x
 |_::l,n+1=>gx l n
theorem gx_c0 (x:Value) (l:List Value):gx (x::l) 0=x:=_root_.id rfl
theorem gx_cs (x:Value) (l:List Value) (n:Nat):gx (x::l) (n+1)=gx l n:=_root_.id rfl
theorem Qlx:∀ (l:List Value) (n:Nat),l.getD n undef=gx l n
 | [],n=>by simp [gx]
 |x::l,0=>rfl
 |x::l,n+1=>by rw [List.getD_cons_succ];exact Qlx l n
theorem gx_set {l:List Value} {n:Nat} {v:Value} (h:n<l.length):gx (l.set n v) n=v:=by
 rw [← Qlx];simp [List.getD_eq_getElem?_getD,h]
theorem Ja6 {l:List Value} {n k:Nat} {v:Value} (h:n≠k):gx (l.set n v) k=gx l k:=by
 rw [← Qlx,← Qlx];simp [List.getD_eq_getElem?_getD,List.getElem?_set,h]
section
variable (tb:Tabs)
noncomputable def resX (rs:List ResultVar) (l:List Value) (m:Mem):Option Value :=
 match resA tb (T.ofList l) m rs with
 |some [v]=>some v
 |some vs=>some (.tuple ⟨vs⟩)
 |none=>none
def endX (rs:List ResultVar) (R:OutA→Mem→Prop):Qde
 | .normal,l,ds,m=>ds=[]∧∃ v,resX tb rs l m=some v∧R (.ret v) m
 | .jump .ret,l,ds,m=>ds=[]∧∃ v,resX tb rs l m=some v∧R (.ret v) m
 | .pan ch,_,ds,m=>ds=[]∧R (.pan ch) m
 |_,_,_,_=>False
def retR (P:Value→Mem→Prop):OutA→Mem→Prop
 | .ret v,m=>P v m
 | .pan _,_=>False
variable {tb}
variable {F:FC} {l:List Value} {ds:List Deferred} {m:Mem} {Q:Qde}
theorem Qaf (N:List Value→List Deferred→Mem→Prop):Qhg N Q .normal l ds m=N l ds m:=_root_.id rfl
theorem Qo1 (N:List Value→List Deferred→Mem→Prop) (c:Code):Qhg N Q (.jump c) l ds m=Q (.jump c) l ds m:=_root_.id rfl
theorem Qyl (N:List Value→List Deferred→Mem→Prop) (c:List PanicEntry):Qhg N Q (.pan c) l ds m=Q (.pan c) l ds m:=_root_.id rfl
theorem Qq7 (id:Nat):Qoi id Q .normal l ds m=Q .normal l ds m:=_root_.id rfl
theorem Qx6 (id:Nat) (c:List PanicEntry):Qoi id Q (.pan c) l ds m=Q (.pan c) l ds m:=_root_.id rfl
theorem Qoh (id i:Nat):Qoi id Q (.jump (.exit i)) l ds m=if i=id then Q .normal l ds m else Q (.jump (.exit i)) l ds m:=_root_.id rfl
theorem retR_ret (P:Value→Mem→Prop) (v:Value):retR P (.ret v) m=P v m:=_root_.id rfl
theorem Qdh:resX tb [] l m=some (.tuple ⟨[]⟩):=_root_.id rfl
theorem Qaw (i:Nat):resX tb [.tmp i] l m=some (gx l i):=by
 rw [← Qlx]
 have:=Qa8 l i
 simp only [ev] at this
 simp only [resX,resA,oB,this]
theorem Qc7 (i j:Nat):resX tb [.tmp i,.tmp j] l m=some (.tuple ⟨[gx l i,gx l j]⟩):=by
 rw [← Qlx,← Qlx]
 have h1:=Qa8 l i
 have h2:=Qa8 l j
 simp only [ev] at h1 h2
 simp only [resX,resA,oB,h1,h2]
theorem callsZ {f:FuncId} {fd:Func} {c:Code} {s:SCode} {n:Nat} {rs:List ResultVar} {args:List Value} {R:OutA→Mem→Prop} (hf:tb.funcs.get f=some fd) (hb:fd.body=some c) (hs:Qa6 c=s) (hn:fd.ntmps=n) (hr:fd.results.toList=rs)
  (h:wpX tb ⟨f,.normal,none⟩ s (args++List.replicate (n-args.length) undef) [] m (endX tb rs R)):Qar tb f args m R:=by
 subst hn;subst hr
 refine callsX hf hb hs (h.mono fun e l' ds' m' h=>?_)
 cases e with
 |normal=>exact h
 |jump c=>cases c<;>exact h
 |pan ch=>exact h
theorem Qao {f:FuncId} {first cap args:List Value} {R:OutA→Mem→Prop} {K:Value→List Deferred→Mem→Prop} {PK:List PanicEntry→Mem→Prop} (hov:tb.ov.get f=none) (h:Qar tb f (first++args++cap) m R)
  (k:∀ v m',R (.ret v) m'→K v ds m') (pk:∀ ch m',R (.pan ch) m'→PK ch m'):Qe2 tb (Qa7 tb (.func (.func f) ⟨first⟩ ⟨cap⟩) args m) ds m K PK:=by
 have e:Qa7 tb (.func (.func f) ⟨first⟩ ⟨cap⟩) args m=.enter f (first++args++cap):=by
  obtain⟨g,hg,_⟩:=h
  unfold Qf7 at hg
  split at hg<;>first|(simp at hg;done)|skip
  rename_i fn hfn
  split at hg<;>first|(simp at hg;done)|skip
  rename_i c hc
  simp only [Qa7,Qeb,Qlz,hov,hfn,hc]
 rw [e]
 refine Qar.mono h fun o m' ho=>?_
 cases o with
 |ret v=>exact k _ _ ho
 |pan ch=>exact pk _ _ ho
theorem Qre (f:Operand) (args:Array Operand) (tys:Array TypeId) (ty:TypeId) (K:Value→List Deferred→Mem→Prop) (PK:List PanicEntry→Mem→Prop) :
  Qgl tb F (.call ⟨.value f,args,tys⟩) ty l ds m K PK=Qe2 tb (Qa7 tb (evL l f) (evsL l args.toList) m) ds m K PK:=_root_.id rfl
theorem Qpy (x:Operand) (ty:TypeId) (K:Value→List Deferred→Mem→Prop) (PK:List PanicEntry→Mem→Prop) :
  Qgl tb F (.panic x) ty l ds m K PK=(Qnq (evL l x)=true∧PK [{ v:=evL l x,recovered:=false }] m):=_root_.id rfl
variable (tb)
noncomputable def wpS (F:FC) (Q:Qde) (d:Option Tmp) (op:Op) (ty:TypeId) (os:List SOp) (r:OR) (l:List Value) (ds:List Deferred) (m:Mem):Prop:=match r with
 | .r v=>wpR tb F Q os (Qbv d v l) ds m
 | .f ob mk=>wpR tb F Q os (Qbv d (mk m.next) l) ds (Qah m ob)
 | .e v m'=>wpR tb F Q os (Qbv d v l) ds m'
 | .c=>Qgl tb F op ty l ds m (fun v ds m=>wpR tb F Q os (Qbv d v l) ds m) (fun ch m=>Q (.pan ch) l ds m)
 | .bad=>False
noncomputable def wpG (F:FC) (Q:Qde) (d:Option Tmp) (op:Op) (ty:TypeId) (os:List SOp) (w:Bool) (l:List Value) (ds:List Deferred) (m:Mem):Prop:=match w with
 |false=>wpR tb F Q os (Qbv d undef l) ds m
 |true=>wpS tb F Q d op ty os (opA op tb (T.ofList l) m) l ds m
variable {tb}
theorem wpR_cons (d:Option Tmp) (op:Op) (ty:TypeId) (g:SG) (os:List SOp):wpR tb F Q (⟨d,op,ty,g⟩::os) l ds m=(dstB d l.length=true∧wpG tb F Q d op ty os (Qgx l g) l ds m):=_root_.id rfl
theorem wpG_true (d:Option Tmp) (op:Op) (ty:TypeId) (os:List SOp):wpG tb F Q d op ty os true l ds m=wpS tb F Q d op ty os (opA op tb (T.ofList l) m) l ds m:=_root_.id rfl
theorem Qyc (d:Option Tmp) (op:Op) (ty:TypeId) (os:List SOp):wpG tb F Q d op ty os false l ds m=wpR tb F Q os (Qbv d undef l) ds m:=_root_.id rfl
theorem wpS_r (d:Option Tmp) (op:Op) (ty:TypeId) (os:List SOp) (v:Value):wpS tb F Q d op ty os (.r v) l ds m=wpR tb F Q os (Qbv d v l) ds m:=_root_.id rfl
theorem wpS_f (d:Option Tmp) (op:Op) (ty:TypeId) (os:List SOp) (ob:AObj) (mk:Nat→Value):wpS tb F Q d op ty os (.f ob mk) l ds m=wpR tb F Q os (Qbv d (mk m.next) l) ds (Qah m ob):=_root_.id rfl
theorem wpS_e (d:Option Tmp) (op:Op) (ty:TypeId) (os:List SOp) (v:Value) (m':Mem):wpS tb F Q d op ty os (.e v m') l ds m=wpR tb F Q os (Qbv d v l) ds m':=_root_.id rfl
theorem wpS_c (d:Option Tmp) (op:Op) (ty:TypeId) (os:List SOp):wpS tb F Q d op ty os .c l ds m=Qgl tb F op ty l ds m (fun v ds m=>wpR tb F Q os (Qbv d v l) ds m) (fun ch m=>Q (.pan ch) l ds m):=_root_.id rfl
theorem wpR_nil:wpR tb F Q [] l ds m=Q .normal l ds m:=_root_.id rfl
theorem dB_some (d n:Nat):dstB (some d) n=decide (d<n):=by
 unfold dstB
 rw [Bool.eq_iff_iff,Nat.blt_eq];simp
theorem dB_none (n:Nat):dstB none n=true:=_root_.id rfl
theorem wX_no:Qgx l .no=true:=_root_.id rfl
theorem wX_on (d:Nat) (w:Bool):Qgx l (.on d w)=isB (gx l d) w:=by rw [← Qlx];rfl
theorem Qfp (i:Nat):evL l (.tmp i)=gx l i:=by rw [← Qlx];exact evL_tmp i
theorem isB_bool (b w:Bool):isB (.bool b) w=(b==w):=_root_.id rfl
theorem Qwt (d:Nat) (v:Value):Qbv (some d) v l=l.set d v:=_root_.id rfl
theorem Qwu (v:Value):Qbv none v l=l:=_root_.id rfl
theorem Qnd (v:Value):oR (some v)=.r v:=_root_.id rfl
theorem oE_some (v:Value):oE (some (v,m))=.e v m:=_root_.id rfl
theorem nil_ptr (a:Addr):Qg4 (.pointer (some a))=.r (.pointer (some a)):=_root_.id rfl
theorem Jac (c:Bool) (a b:Value):Qvu (.bool c) a b=.r (if c then a else b):=by cases c<;>rfl
theorem Qql {α β : Type} (a : α) (f : α → Option β):oB (some a) f=f a:=_root_.id rfl
theorem ia_slice (t:TypeId) (k:IntKind) (z:Int) (b o:Nat) (s:Option Nat) (n c:Nat):Qeg tb t (.slice (some ⟨b,o,s⟩) n c) (.int k z)=oB (ti tb t) fun i=>match i.d with
  | .slice elem=>if 0≤z∧z.toNat<n then oB (ti tb elem) fun e=>some (.pointer (some ⟨b,o+z.toNat*e.inf.size,none⟩)) else none
  |_=>none:=by
 cases z with
 |ofNat j =>
  show Qeg tb t (.slice (some ⟨b,o,s⟩) n c) (.int k (.ofNat j))=_
  simp only [Qeg,addA,Int.ofNat_eq_natCast,Int.natCast_nonneg,Int.toNat_natCast,true_and]
  congr 1
  funext i
  obtain⟨d,inf,agg,zc,hz,fl,gd,hl⟩:=i
  cases d<;>simp only
  by_cases h:j<n
  ·have hb:Nat.blt j n=true:=by rw [Nat.blt_eq];exact h
   simp only [hb,if_pos h]
  ·have hb:Nat.blt j n=false:=by
    cases hb:Nat.blt j n with
    |false=>rfl
    |true=>rw [Nat.blt_eq] at hb;exact absurd hb h
   simp only [hb,if_neg h]
 |negSucc j =>
  have:¬ (0≤Int.negSucc j∧(Int.negSucc j).toNat<n):=by omega
  simp only [Qeg,if_neg this]
  cases ti tb t with
  |none=>rfl
  |some i=>simp only [oB];split<;>rfl
theorem ia_str (t:TypeId) (k:IntKind) (z:Int) (s:ByteArray):Qi6 tb t (.string s) (.int k z)=oB (ti tb t) fun i=>match i.d with
  | .string=>if 0≤z then (match s.data.toList[z.toNat]? with|some b=>some (.int .u8 (b.toNat:Int))|none=>none) else none
  |_=>none:=by
 cases z with
 |ofNat j =>
  simp only [Qi6,Int.ofNat_eq_natCast,Int.natCast_nonneg,Int.toNat_natCast,if_true,Qsw,Qji]
  congr 1
  funext i
  obtain⟨d,inf,agg,zc,hz,fl,gd,hl⟩:=i
  cases d<;>rfl
 |negSucc j =>
  have:¬ (0≤Int.negSucc j):=by omega
  simp only [Qi6,if_neg this]
  cases ti tb t with
  |none=>rfl
  |some i=>simp only [oB];split<;>rfl
theorem ia_agg (t:TypeId) (k:IntKind) (z:Int) (cs:Array Value):Qi6 tb t (.agg cs) (.int k z)=oB (ti tb t) fun i=>match i.d with
  | .array len elem=>if 0≤z∧z.toNat<len then oB (ti tb elem) fun e=>Qgn tb elem cs.toList (z.toNat*e.inf.size) else none
  |_=>none:=by
 cases z with
 |ofNat j =>
  simp only [Qi6,Int.ofNat_eq_natCast,Int.natCast_nonneg,Int.toNat_natCast,true_and]
  congr 1
  funext i
  obtain⟨d,inf,agg,zc,hz,fl,gd,hl⟩:=i
  cases d<;>simp only
  rename_i len elem
  by_cases h:j<len
  ·have hb:Nat.blt j len=true:=by rw [Nat.blt_eq];exact h
   simp only [hb,if_pos h]
  ·have hb:Nat.blt j len=false:=by
    cases hb:Nat.blt j len with
    |false=>rfl
    |true=>rw [Nat.blt_eq] at hb;exact absurd hb h
   simp only [hb,if_neg h]
 |negSucc j =>
  have:¬ (0≤Int.negSucc j∧(Int.negSucc j).toNat<j):=by omega
  simp only [Qi6]
  cases ti tb t with
  |none=>rfl
  |some i =>
   simp only [oB]
   split
   ·rw [if_neg (by omega)]
   ·rfl
theorem cv_int (s d:TypeId) (k:IntKind) (n:Int):Qfj tb m s d (.int k n)=match ti tb s,ti tb d with
  |some _,some j=>match j.d with | .int q=>.r (.int q (q.wrap n))|_=>.bad
  |_,_=>.bad:=by
 unfold Qfj
 cases ti tb s<;>cases ti tb d<;>try rfl
 rename_i i j
 obtain⟨jd,inf,agg,zc,hz,fl,gd,hl⟩:=j
 simp only
 cases jd<;>simp only [Qbe,Qc4]
theorem lo_nil (c:T Value) (i:Nat):Qg7 c [] i=[]:=_root_.id rfl
theorem lo_cons (c:T Value) (z:Value) (zs:List Value) (i:Nat):Qg7 c (z::zs) i=(match c.get i with|some v=>v|none=>z)::Qg7 c zs (i+1):=_root_.id rfl
theorem bound_eq (k:IntKind) (z:Int) (y:Nat):Qq6 (.int k z) y=if 0≤z∧z.toNat≤y then some z.toNat else none:=by
 cases z with
 |ofNat j =>
  simp only [Qq6,Int.ofNat_eq_natCast,Int.natCast_nonneg,Int.toNat_natCast,true_and]
  by_cases h:j≤y
  ·have hb:Nat.ble j y=true:=by rw [Nat.ble_eq];exact h
   simp only [hb,if_pos h]
  ·have hb:Nat.ble j y=false:=by
    cases hb:Nat.ble j y with
    |false=>rfl
    |true=>rw [Nat.ble_eq] at hb;exact absurd hb h
   simp only [hb,if_neg h]
 |negSucc j =>
  have:¬ (0≤Int.negSucc j∧(Int.negSucc j).toNat≤y):=by omega
  simp only [Qq6,if_neg this]
theorem fits_eq (a:Option Addr) (sl sc n b:Nat):Qew (.slice a sl sc) n b=decide ((sl+n+1000)*b≤17592186044416):=by
 unfold Qew
 rw [Bool.eq_iff_iff,Nat.ble_eq];simp
theorem Jau (t:TypeId) (a:Option Addr) (n c:Nat):lenA tb t m (.slice a n c)=oB (ti tb t) fun i=>match i.d with | .slice _=>some (.int .i64 (n:Int))|_=>none:=by
 simp only [lenA,Qbe];rfl
theorem len_str (t:TypeId) (s:ByteArray):lenA tb t m (.string s)=oB (ti tb t) fun i=>match i.d with | .string=>some (.int .i64 (s.data.toList.length:Int))|_=>none:=by
 simp only [lenA,Qbe];rfl
noncomputable def slX (tb:Tabs) (t:TypeId) (m:Mem) (x:Value) (lo hi mx:Option Value):Option Value:=Qhu tb t m x lo hi mx
noncomputable def slW (tb:Tabs) (t:TypeId) (m:Mem) (b o:Nat) (s:Option Nat) (len cap:Nat) (lo hi mx:Option Value):Option TI→Option Vw→Option Value
 |some i,some V=>match i.d with
  | .slice elem=>oB (Qga len cap lo hi mx) fun (l,h,q)=>oB (ti tb elem) fun e=>Qp8 V.ext ⟨b,o,s⟩ mx l h q e.inf.size
  |_=>slX tb t m (.slice (some ⟨b,o,s⟩) len cap) lo hi mx
 |_,_=>slX tb t m (.slice (some ⟨b,o,s⟩) len cap) lo hi mx
theorem sl_W (t:TypeId) (b o:Nat) (s:Option Nat) (len cap:Nat) (lo hi mx:Option Value):Qhu tb t m (.slice (some ⟨b,o,s⟩) len cap) lo hi mx=slW tb t m b o s len cap lo hi mx (ti tb t) (vw m b):=by
 unfold slW
 split
 ·rename_i i V hi hv
  obtain⟨r,h1,h2,h3,h4,_⟩:=Qdm hv
  split
  ·rename_i e he
   simp only [Qhu,hi,oB,he,h1,h4]
  ·rfl
 ·rfl
theorem slW_some (t:TypeId) (b o:Nat) (s:Option Nat) (len cap:Nat) (lo hi mx:Option Value) (i:TI) (V:Vw):slW tb t m b o s len cap lo hi mx (some i) (some V)=match i.d with
  | .slice elem=>oB (Qga len cap lo hi mx) fun (l,h,q)=>oB (ti tb elem) fun e=>Qp8 V.ext ⟨b,o,s⟩ mx l h q e.inf.size
  |_=>slX tb t m (.slice (some ⟨b,o,s⟩) len cap) lo hi mx:=_root_.id rfl
theorem sl_str (t:TypeId) (s:ByteArray) (lo hi:Option Value):Qhu tb t m (.string s) lo hi none=oB (ti tb t) fun i=>match i.d with
  | .string=>slStr s lo hi
  |_=>none:=by
 simp only [Qhu]
 congr 1;funext i
 obtain⟨d,inf,agg,zc,hz,fl,gd,hl⟩:=i
 cases d<;>rfl
noncomputable def fiX (m:Mem) (k n:Nat) (x:Value):Option (List Value):=Qf5 m k n x
noncomputable def fiW (m:Mem) (k n b o:Nat) (s:Option Nat) (l c:Nat):Option Vw→Option (List Value)
 |some V=>if k=0∨o+k≤V.cs.length then some (Qb3 V.cs o k) else fiX m k n (.slice (some ⟨b,o,s⟩) l c)
 |none=>fiX m k n (.slice (some ⟨b,o,s⟩) l c)
theorem fi_W (k n b o:Nat) (s:Option Nat) (l c:Nat):Qf5 m k n (.slice (some ⟨b,o,s⟩) l c)=fiW m k n b o s l c (vw m b):=by
 unfold fiW
 split
 ·rename_i V hv
  split
  ·rename_i h;exact fi_slice n hv h
  ·rfl
 ·rfl
theorem fiW_some (k n b o:Nat) (s:Option Nat) (l c:Nat) (V:Vw):fiW m k n b o s l c (some V)=if k=0∨o+k≤V.cs.length then some (Qb3 V.cs o k) else fiX m k n (.slice (some ⟨b,o,s⟩) l c):=_root_.id rfl
theorem fi_str (k n:Nat) (s:ByteArray):Qf5 m k n (.string s)=some (u8s (s.data.toList.take n)):=_root_.id rfl
noncomputable def atX (m:Mem) (e:TypeId) (sz:Nat) (x:Value) (n:Nat) (new:List Value):Option (Value × Mem):=Qb0 m e sz x n new
noncomputable def Qk2 (m:Mem) (ob:Option Nat) (e:TypeId) (cells:List Value):Mem:=Qah (match ob with|some b=>Qa3 m b .dead|none=>m) (Qb1 e cells .none true)
noncomputable def atW (m:Mem) (e:TypeId) (sz b o:Nat) (s:Option Nat) (sl sc n:Nat) (new:List Value):Option Vw→Option (Value × Mem)
 |some V =>
  if sl+n≤sc then
   (if new.isEmpty=true then (if n=0 then some (.slice (some ⟨b,o,s⟩) sl sc,m) else atX m e sz (.slice (some ⟨b,o,s⟩) sl sc) n new)
    else if stOk V (o+sl*sz) new=true then some (.slice (some ⟨b,o,s⟩) (sl+n) sc,stM m b (o+sl*sz) new) else atX m e sz (.slice (some ⟨b,o,s⟩) sl sc) n new)
  else if V.ext=false∧(sl*sz=0∨o+sl*sz≤V.cs.length) then some (.slice (some ⟨m.next,0,none⟩) (sl+n) (sl+n),Qk2 m none e (Qb3 V.cs o (sl*sz)++new))
  else if V.ext=true∧V.w=true∧s=none∧sl≤sc∧o+sc*sz=V.cs.length∧V.elem=e∧new.length=n*sz∧new.all oneC=true then
   some (.slice (some ⟨m.next,0,none⟩) (sl+n) (sl+n),Qk2 m (some b) e (Qb3 V.cs o (sl*sz)++new))
  else atX m e sz (.slice (some ⟨b,o,s⟩) sl sc) n new
 |none=>atX m e sz (.slice (some ⟨b,o,s⟩) sl sc) n new
theorem at_W (e:TypeId) (sz b o:Nat) (s:Option Nat) (sl sc n:Nat) (new:List Value):Qb0 m e sz (.slice (some ⟨b,o,s⟩) sl sc) n new=atW m e sz b o s sl sc n new (vw m b):=by
 unfold atW
 split
 ·rename_i V hv
  split
  ·rename_i h
   split
   ·rename_i hn
    obtain rfl:=List.isEmpty_iff.1 hn
    split
    ·rename_i h0;subst h0;exact Jcb e sz h
    ·rfl
   ·rename_i hn
    split
    ·rename_i hs;exact ap_in e sz n new hv (fun e=>hn (by rw [e];rfl)) h hs
    ·rfl
  ·rename_i h
   split
   ·rename_i h2;exact ap_fix e sz n new s hv h2.1 (by omega) h2.2
   ·split
    ·rename_i h2
     obtain⟨h3,h4,rfl,h6,h7,h8,h9,h10⟩:=h2
     exact ap_grow e sz n new hv h3 h4 (by omega) h7 h8 h9 h10 h6
    ·rfl
 ·rfl
theorem Qwe (e:TypeId) (sz b o:Nat) (s:Option Nat) (sl sc n:Nat) (new:List Value) (V:Vw):atW m e sz b o s sl sc n new (some V) =
  if sl+n≤sc then
   (if new.isEmpty=true then (if n=0 then some (.slice (some ⟨b,o,s⟩) sl sc,m) else atX m e sz (.slice (some ⟨b,o,s⟩) sl sc) n new)
    else if stOk V (o+sl*sz) new=true then some (.slice (some ⟨b,o,s⟩) (sl+n) sc,stM m b (o+sl*sz) new) else atX m e sz (.slice (some ⟨b,o,s⟩) sl sc) n new)
  else if V.ext=false∧(sl*sz=0∨o+sl*sz≤V.cs.length) then some (.slice (some ⟨m.next,0,none⟩) (sl+n) (sl+n),Qk2 m none e (Qb3 V.cs o (sl*sz)++new))
  else if V.ext=true∧V.w=true∧s=none∧sl≤sc∧o+sc*sz=V.cs.length∧V.elem=e∧new.length=n*sz∧new.all oneC=true then
   some (.slice (some ⟨m.next,0,none⟩) (sl+n) (sl+n),Qk2 m (some b) e (Qb3 V.cs o (sl*sz)++new))
  else atX m e sz (.slice (some ⟨b,o,s⟩) sl sc) n new:=_root_.id rfl
theorem Qs2 (e:TypeId) (sz n:Nat) (new:List Value):Qb0 m e sz (.slice none 0 0) (n+1) new=some (.slice (some ⟨m.next,0,none⟩) (n+1) (n+1),Qk2 m none e new):=_root_.id rfl
theorem Qiy (ob:Option Nat) (e:TypeId) (cells:List Value):(Qk2 m ob e cells).next=m.next+1:=by cases ob<;>rfl
theorem Qp1 (ob:Option Nat) (e:TypeId) (cells:List Value) (x:Nat):vw (Qk2 m ob e cells) x=if x=m.next then some ⟨true,e,true,cells⟩ else if some x=ob then none else vw m x:=by
 unfold Qk2
 cases ob with
 |none=>simp only [Qcy,Qec];split<;>simp_all
 |some b =>
  simp only [Qcy,Qec,Qcf,Qyg,Kaj]
  split
  ·rfl
  ·split<;>rfl
def Old (n:Nat) (m m':Mem):Prop:=m.next≤m'.next∧∀ x,x<n→m'.objs.get x=m.objs.get x
theorem Old.refl (n:Nat) (m:Mem):Old n m m:=⟨Knr _,fun _ _=>rfl⟩
theorem Old.trans {n:Nat} {a b c:Mem} (h:Old n a b) (k:Old n b c):Old n a c:=⟨Knt h.1 k.1,fun x hx=>(k.2 x hx).trans (h.2 x hx)⟩
theorem Old.le {n k:Nat} {a b:Mem} (h:Old n a b) (hk:k≤n):Old k a b:=⟨h.1,fun x hx=>h.2 x (by omega)⟩
theorem Old.vw {n:Nat} {a b:Mem} (h:Old n a b) {x:Nat} (hx:x<n):Go.Ev.vw b x=Go.Ev.vw a x:=by unfold Go.Ev.vw;rw [h.2 x hx]
theorem Old.new {n:Nat} {a b:Mem} (h:Old n a b) (hn:n≤b.next) (o:AObj):Old n a (Qah b o):=⟨by rw [Qae];have:=h.1;omega,fun x hx=>by rw [Qam,if_neg (by omega)];exact h.2 x hx⟩
theorem Old.put {n:Nat} {a b:Mem} (h:Old n a b) {k:Nat} (hk:n≤k) (o:AObj):Old n a (Qa3 b k o):=⟨h.1,fun x hx=>by rw [Qbp,if_neg (by omega)];exact h.2 x hx⟩
theorem Old.st {n:Nat} {a b:Mem} (h:Old n a b) {k:Nat} (hk:n≤k) (i:Nat) (l:List Value):Old n a (stM b k i l):=⟨by rw [Qaq];exact h.1,fun x hx=>by rw [Qbl (by omega)];exact h.2 x hx⟩
theorem Old.grow {n:Nat} {a b:Mem} (h:Old n a b) (hn:n≤b.next) (e:TypeId) (cells:List Value):Old n a (Qk2 b none e cells):=h.new hn _
theorem Old.grow' {n:Nat} {a b:Mem} (h:Old n a b) (hn:n≤b.next) {k:Nat} (hk:n≤k) (e:TypeId) (cells:List Value):Old n a (Qk2 b (some k) e cells):=(h.put hk .dead).new hn _
def Own (n0:Nat) (m:Mem) (v:Value) (e:TypeId) (n:Nat) (cells:List Value):Prop :=
 (v=.slice none 0 0∧n=0∧cells=[])∨∃ b,v=.slice (some ⟨b,0,none⟩) n n∧n0≤b∧b<m.next∧vw m b=some ⟨true,e,true,cells⟩
noncomputable def rd (m:Mem) (b o:Nat):Nat→Option (List Value)
 |0=>some []
 |n+1=>oB (Qd9 m b) fun r=>Qbx r (n+1) o
def SlAt (m:Mem) (v:Value) (n:Nat) (cells:List Value):Prop :=
 (v=.slice none 0 0∧n=0∧cells=[])∨∃ b o c,v=.slice (some ⟨b,o,none⟩) n c∧n≤c∧(cells=[]∨rd m b o cells.length=some cells∧b<m.next)
theorem Qkn (l:List Value):Qb3 l 0 l.length=l:=by simp [Qb3]
theorem Qwk (l:List Value) (o:Nat):Qb3 l o 0=[]:=by simp [Qb3]
theorem takeN_c0 (x:Value) (l:List Value) (n:Nat):Qb3 (x::l) 0 (n+1)=x::Qb3 l 0 n:=_root_.id rfl
theorem takeN_cs (x:Value) (l:List Value) (o n:Nat):Qb3 (x::l) (o+1) n=Qb3 l o n:=_root_.id rfl
theorem Qlb {l:List Value} {o n:Nat} (h:o+n≤l.length):(Qb3 l o n).length=n:=by simp [Qb3];omega
theorem Qhy {l:List Value} {o n k:Nat} (h:k<n):(Qb3 l o n)[k]? = l[o+k]? := by simp [Qb3,List.getElem?_take,h]
theorem Qg0:∀ l:List UInt8,(u8s l).length=l.length
 | []=>rfl
 |b::l=>by simp [u8s,Qg0 l]
theorem Qkm:∀ l:List UInt8,u8s l=l.map fun b=>.int .u8 (b.toNat:Int)
 | []=>rfl
 |b::l=>by simp only [u8s,Qkm l,List.map_cons,Qsw,Qji];rfl
theorem one_u8s (l:List UInt8):(u8s l).all oneC=true:=by rw [Qkm];simp [oneC]
def i64s (l:List Int):List Value:=l.map fun n=>.int .i64 n
theorem Qul (l:List Int):(i64s l).length=l.length:=by simp [i64s]
theorem SlAt.shape {n:Nat} {v:Value} {cells:List Value} (h:SlAt m v n cells):∃ a c,v=.slice a n c:=by
 rcases h with ⟨rfl,rfl,_⟩|⟨b,o,c,rfl,_⟩<;>exact⟨_,_,rfl⟩
theorem Qt6 {b o n:Nat} {cells:List Value} (h:rd m b o n=some cells):cells.length=n∧(n≠0→∃ r,Qd9 m b=some r∧Qbx r n o=some cells∧∀ k v,cells[k]? = some v→Qcm r (o+k)=some v):=by
 cases n with
 |zero=>obtain rfl:=Kai h;exact⟨rfl,fun e=>absurd rfl e⟩
 |succ n =>
  simp only [rd,Qac] at h
  obtain⟨r,h1,h2⟩:=h
  obtain⟨h3,h4⟩:=Qd3 h2
  exact⟨h3,fun _=>⟨r,h1,h2,h4⟩⟩
theorem Qlp {r:Row}:∀ {n o:Nat} {l:List Value},l.length=n→(∀ k v,l[k]? = some v→Qcm r (o+k)=some v)→Qbx r n o=some l
 |0,o,[],_,_=>rfl
 |n+1,o,v::l,h,g=>by
  rw [Qgt,show Qcm r o=some v from g 0 v rfl]
  simp only [oB]
  rw [Qlp (l:=l) (by simpa using h) fun k u hu=>by rw [show o+1+k=o+(k+1) from by omega];exact g (k+1) u hu]
theorem rd_vw {b:Nat} {V:Vw} (hv:vw m b=some V) {o k:Nat} (h:o+k≤V.cs.length):rd m b o k=some (Qb3 V.cs o k):=by
 obtain⟨r,h1,h2,h3,h4,h5,h6,_⟩:=Qdm hv
 cases k with
 |zero=>simp [rd,Qb3]
 |succ k =>
  show oB (Qd9 m b) _=_
  rw [h1]
  simp only [oB]
  rw [Qcg h6,if_pos (.inr h)]
theorem rd_old {b o n:Nat} {n0:Nat} {m':Mem} (k:Old n0 m m') (hb:b<n0):rd m' b o n=rd m b o n:=by
 cases n with
 |zero=>rfl
 |succ n=>simp only [rd,Qd9,k.2 b hb]
theorem rd_get {b o n:Nat} {m':Mem} (h:m'.objs.get b=m.objs.get b):rd m' b o n=rd m b o n:=by
 cases n with
 |zero=>rfl
 |succ n=>simp only [rd,Qd9,h]
theorem ld_rd1 {t:TypeId} {i:TI} {b o n k:Nat} {s:Option Nat} {cells:List Value} {v:Value} (hi:ti tb t=some i) (ha:i.agg=false) (h:rd m b o n=some cells) (hk:cells[k]? = some v):Qfi tb t m (.pointer (some ⟨b,o+k,s⟩))=.r v:=by
 obtain⟨h1,h2⟩:=Qt6 h
 have hk1:=(Kgs.1 hk).1
 obtain⟨r,h3,h4,h5⟩:=h2 (by omega)
 simp only [Qfi,loadA,hi,oB,h3,ha,h5 k v hk,oR]
theorem ld_rdA {t:TypeId} {i:TI} {b o n k:Nat} {s:Option Nat} {cells:List Value} (hi:ti tb t=some i) (ha:i.agg=true) (h:rd m b o n=some cells) (hk:k+i.inf.size≤n) (hn:n≠0):Qfi tb t m (.pointer (some ⟨b,o+k,s⟩))=.r (.agg ⟨Qb3 cells k i.inf.size⟩):=by
 obtain⟨h1,h2⟩:=Qt6 h
 obtain⟨r,h3,h4,h5⟩:=h2 hn
 have:Qbx r i.inf.size (o+k)=some (Qb3 cells k i.inf.size):=Qlp (by simp [Qb3];omega) fun j v hj=>by
  have hj2:j<i.inf.size:=by have:=(Kgs.1 hj).1;simp [Qb3] at this;omega
  rw [Qb3,List.getElem?_take,if_pos hj2,List.getElem?_drop] at hj
  rw [show o+k+j=o+(k+j) from by omega];exact h5 _ _ hj
 simp only [Qfi,loadA,hi,oB,h3,ha,this,oR]
theorem SlAt.old {n:Nat} {v:Value} {cells:List Value} {m':Mem} (h:SlAt m v n cells) (k:Old m.next m m'):SlAt m' v n cells:=by
 rcases h with h|⟨b,o,c,rfl,h1,h2|⟨h2,h3⟩⟩
 ·exact .inl h
 ·exact .inr ⟨b,o,c,rfl,h1,.inl h2⟩
 ·exact .inr ⟨b,o,c,rfl,h1,.inr ⟨by rw [rd_old k h3];exact h2,Nat.lt_of_lt_of_le h3 k.1⟩⟩
def SlOld (n0:Nat) (m:Mem) (v:Value) (n:Nat) (cells:List Value):Prop :=
 (v=.slice none 0 0∧n=0∧cells=[])∨∃ b o c,v=.slice (some ⟨b,o,none⟩) n c∧n≤c∧(cells=[]∨rd m b o cells.length=some cells∧b<n0)
theorem SlOld.at {n0 n:Nat} {v:Value} {cells:List Value} (h:SlOld n0 m v n cells) (hn:n0≤m.next):SlAt m v n cells:=by
 rcases h with h|⟨b,o,c,rfl,h1,h2|⟨h2,h3⟩⟩
 ·exact .inl h
 ·exact .inr ⟨b,o,c,rfl,h1,.inl h2⟩
 ·exact .inr ⟨b,o,c,rfl,h1,.inr ⟨h2,Nat.lt_of_lt_of_le h3 hn⟩⟩
theorem SlOld.old {n0 n:Nat} {v:Value} {cells:List Value} {m':Mem} (h:SlOld n0 m v n cells) (k:Old n0 m m'):SlOld n0 m' v n cells:=by
 rcases h with h|⟨b,o,c,rfl,h1,h2|⟨h2,h3⟩⟩
 ·exact .inl h
 ·exact .inr ⟨b,o,c,rfl,h1,.inl h2⟩
 ·exact .inr ⟨b,o,c,rfl,h1,.inr ⟨by rw [rd_old k h3];exact h2,h3⟩⟩
theorem SlAt.load {n k:Nat} {v w:Value} {cells:List Value} (h:SlAt m v n cells) (hk:cells[k]? = some w):∃ b o c,v=.slice (some ⟨b,o,none⟩) n c∧n≤c∧b<m.next∧rd m b o cells.length=some cells∧∀ {t:TypeId} {i:TI} {s:Option Nat},ti tb t=some i→i.agg=false→Qfi tb t m (.pointer (some ⟨b,o+k,s⟩))=.r w:=by
 have hk1:=(Kgs.1 hk).1
 rcases h with ⟨rfl,h1,rfl⟩|⟨b,o,c,rfl,h1,rfl|⟨h2,h3⟩⟩
 ·simp at hk1
 ·simp at hk1
 ·exact⟨b,o,c,rfl,h1,h3,h2,fun hi ha=>ld_rd1 hi ha h2 hk⟩
theorem SlAt.loadA {n k sz:Nat} {v:Value} {cells:List Value} (h:SlAt m v n cells) (hk:k+sz≤cells.length) (hs:0<sz):∃ b o c,v=.slice (some ⟨b,o,none⟩) n c∧n≤c∧b<m.next∧rd m b o cells.length=some cells∧∀ {t:TypeId} {i:TI} {s:Option Nat},ti tb t=some i→i.agg=true→i.inf.size=sz→Qfi tb t m (.pointer (some ⟨b,o+k,s⟩))=.r (.agg ⟨Qb3 cells k sz⟩):=by
 rcases h with ⟨rfl,h1,rfl⟩|⟨b,o,c,rfl,h1,rfl|⟨h2,h3⟩⟩
 ·simp at hk;omega
 ·simp at hk;omega
 ·exact⟨b,o,c,rfl,h1,h3,h2,fun hi ha he=>by subst he;exact ld_rdA hi ha h2 hk (by omega)⟩
theorem Qbo (a:Option Addr) (sl sc n b:Nat) (h:(sl+n+1000)*b≤17592186044416):Qew (.slice a sl sc) n b=true:=by rw [fits_eq];simpa using h
theorem Qai {os:List SOp} (h:∀ Q',Q'=Q→wpR tb F Q' os l ds m):wpX tb F (.reg os) l ds m Q:=xreg (h Q rfl)
theorem Qfv {a b:SCode} {PS:List Value→List Deferred→Mem→Prop} (h:wpX tb F a l ds m (fun e l' ds' m'=>e=.normal∧PS l' ds' m')) (g:∀ l' ds' m',PS l' ds' m'→wpX tb F b l' ds' m' Q):wpX tb F (.seq a b) l ds m Q :=
 xseq (h.mono fun e l' ds' m' ⟨h1,h2⟩=>by subst h1;exact g _ _ _ h2)
theorem xseqR {a b:SCode} {PS PR:List Value→List Deferred→Mem→Prop} (h:wpX tb F a l ds m (fun e l' ds' m'=>(e=.normal∧PS l' ds' m')∨(e=.jump .ret∧PR l' ds' m'))) (g:∀ l' ds' m',PS l' ds' m'→wpX tb F b l' ds' m' Q) (r:∀ l' ds' m',PR l' ds' m'→Q (.jump .ret) l' ds' m'):wpX tb F (.seq a b) l ds m Q :=
 xseq (h.mono fun e l' ds' m' h=>by
  rcases h with ⟨rfl,h⟩|⟨rfl,h⟩
  ·exact g _ _ _ h
  ·exact r _ _ _ h)
def Inv (I:Nat→List Value→List Deferred→Mem→Prop) (n:Nat) (l:List Value) (ds:List Deferred) (m:Mem):Prop:=∃ k,k<n∧I k l ds m
theorem Qdf {b:SCode} {I:Nat→List Value→List Deferred→Mem→Prop} {N:Nat} (h0:I N l ds m) (hr:∀ n l ds m,I n l ds m→wpX tb F b l ds m (Qhg (Inv I n) Q)):wpX tb F (.loop b) l ds m Q :=
 xloop h0 fun n l ds m h=>hr n l ds m h
theorem xif {a b:SCode} {c:Operand} {v:Bool} (hc:evL l c=.bool v) (ht:v=true→wpX tb F a l ds m Q) (hf:v=false→wpX tb F b l ds m Q):wpX tb F (.cond c a b) l ds m Q :=
 xcond hc (by cases v with|true=>exact ht rfl|false=>exact hf rfl)
theorem xno {a b:SCode} {c:Operand} (hc:evL l c=.bool false) (h:wpX tb F b l ds m Q):wpX tb F (.cond c a b) l ds m Q:=xif (v:=false) hc (fun h=>by cases h) (fun _=>h)
theorem xyes {a b:SCode} {c:Operand} (hc:evL l c=.bool true) (h:wpX tb F a l ds m Q):wpX tb F (.cond c a b) l ds m Q:=xif (v:=true) hc (fun _=>h) (fun h=>by cases h)
theorem xsr {os:List SOp} {b:SCode} (h:∀ Q',Q'=Qhg (fun l ds m=>wpX tb F b l ds m Q) Q→wpR tb F Q' os l ds m):wpX tb F (.seq (.reg os) b) l ds m Q:=xseq (Qai h)
noncomputable def vwX (o:AObj):Option Vw:=vwO o
def updL (V:Option Vw) (o:Nat) (l:List Value):Option Vw:=match V with|some V=>some ⟨V.w,V.elem,V.ext,spl V.cs o l⟩|none=>none
theorem Qyi (w:Bool) (e:TypeId) (x:Bool) (cs l:List Value) (o:Nat):updL (some ⟨w,e,x,cs⟩) o l=some ⟨w,e,x,spl cs o l⟩:=_root_.id rfl
theorem vwO_lf (n:Nat) (z:List Value) (e:TypeId) (x:Bool):vwO (.row ⟨.lf,n,z,e,.none,x⟩)=if n=(n / z.length)*z.length then some ⟨true,e,x,repl z (n / z.length)⟩ else vwX (.row ⟨.lf,n,z,e,.none,x⟩):=by
 split
 ·rename_i h
  have:=Qoz true e z (n / z.length) x
  rw [← h] at this
  exact this
 ·rfl
theorem vwO_setL (l:List Value) (o:Nat) (c:T Value) (n:Nat) (z:List Value) (e:TypeId) (x:Bool) (hl:o+l.length≤n) (hs:(vwO (.row ⟨c,n,z,e,.none,x⟩)).isSome=true) :
  vwO (.row ⟨T.setL l o c,n,z,e,.none,x⟩)=updL (vwO (.row ⟨c,n,z,e,.none,x⟩)) o l:=by
 cases h:vwO (.row ⟨c,n,z,e,.none,x⟩) with
 |none=>rw [h] at hs;cases hs
 |some V =>
  have h':Qi9 true ⟨c,n,z,e,.none,x⟩=some V:=h
  have:=Qwi h' hl
  obtain⟨h0,h1,h2,h3,h4,h5⟩:=Qgy h'
  refine (show vwO (.row ⟨T.setL l o c,n,z,e,.none,x⟩)=Qi9 true ⟨T.setL l o c,n,z,e,.none,x⟩ from rfl).trans ?_
  rw [this]
  simp only [updL]
  simp only at h2 h3
  rw [h0,h2,h3]
def blkV:Value→Option Nat
 | .slice (some a) _ _=>some a.block
 |_=>none
def Keep (ob:Option Nat) (m m':Mem):Prop:=m.next≤m'.next∧∀ x,x<m.next→ob≠some x→m'.objs.get x=m.objs.get x
theorem Keep.vw {ob:Option Nat} {a b:Mem} (h:Keep ob a b) {x:Nat} (hx:x<a.next) (hb:ob≠some x):Go.Ev.vw b x=Go.Ev.vw a x:=by unfold Go.Ev.vw;rw [h.2 x hx hb]
theorem Ja7 (ob:Option Nat) (e:TypeId) (cells:List Value) {x:Nat} (hx:x<m.next) (hb:ob≠some x):(Qk2 m ob e cells).objs.get x=m.objs.get x:=by
 unfold Qk2
 rw [Qam]
 cases ob with
 |none=>exact if_neg (by simp only;omega)
 |some b =>
  refine (if_neg (by simp only [Qcf];omega)).trans ?_
  simp only
  rw [Qbp,if_neg (by intro e;exact hb (by rw [e]))]
theorem Qpj (ob:Option Nat) (e:TypeId) (cells:List Value):Keep ob m (Qk2 m ob e cells):=⟨by rw [Qiy];omega,fun x hx hb=>Ja7 _ _ _ hx hb⟩
theorem Own.shape {n0 n:Nat} {v:Value} {e:TypeId} {cells:List Value} (h:Own n0 m v e n cells):∃ a,v=.slice a n n:=by
 rcases h with ⟨rfl,rfl,_⟩|⟨b,rfl,_⟩<;>exact⟨_,rfl⟩
theorem Own.append {n0 n k sz:Nat} {v:Value} {e:TypeId} {cells new:List Value} {m1:Mem} (h:Own n0 m v e n cells) (hm:Old m.next m m1) (hle:n0≤m.next) (hc:cells.length=n*sz) (hn:new.length=(k+1)*sz) (ho:new.all oneC=true) :
  ∃ v' m',Qb0 m1 e sz v (k+1) new=some (v',m')∧Own n0 m' v' e (n+(k+1)) (cells++new)∧Keep (blkV v) m1 m'∧Old n0 m1 m'∧(∃ b,v'=.slice (some ⟨b,0,none⟩) (n+(k+1)) (n+(k+1))∧m1.next≤b):=by
 have h0:=hm.1
 rcases h with ⟨rfl,rfl,rfl⟩|⟨b,rfl,h1,h2,h3⟩
 ·refine⟨_,_,Qs2 _ _ _ _,.inr ⟨m1.next,?_,?_,?_,?_⟩,Qpj _ _ _,(Old.refl _ _).grow (by omega) _ _,⟨_,by rw [Nat.zero_add],Knr _⟩⟩
  ·rw [Nat.zero_add]
  ·omega
  ·rw [Qiy];omega
  ·rw [Qp1,if_pos rfl];rfl
 ·have h4:vw m1 b=some ⟨true,e,true,cells⟩:=by rw [hm.vw h2];exact h3
  have e1:=at_W (m:=m1) e sz b 0 none n n (k+1) new
  rw [h4,Qwe,if_neg (by omega),if_neg (by simp),if_pos ⟨rfl,rfl,rfl,Knr _,by simp [hc],rfl,hn,ho⟩] at e1
  refine⟨_,_,e1,.inr ⟨m1.next,rfl,by omega,by rw [Qiy];omega,?_⟩,Qpj _ _ _,(Old.refl _ _).grow' (by omega) h1 _ _,⟨_,rfl,Knr _⟩⟩
  rw [Qp1,if_pos rfl]
  simp only
  rw [← hc,Qkn]
theorem ble_d (a b:Nat):Nat.ble a b=decide (a≤b):=by rw [Bool.eq_iff_iff,Nat.ble_eq];simp
theorem blt_d (a b:Nat):Nat.blt a b=decide (a<b):=by rw [Bool.eq_iff_iff,Nat.blt_eq];simp
theorem beq_d (a b:Nat):Nat.beq a b=decide (a=b):=by rw [Bool.eq_iff_iff,Nat.beq_eq];simp
theorem u8s_get (l:List UInt8) (k:Nat):(u8s l)[k]? = (l[k]?).map fun b=>.int .u8 (b.toNat:Int):=by rw [Qkm];simp
theorem Qv1 (l:List Int) (k:Nat):(i64s l)[k]? = (l[k]?).map fun b=>.int .i64 b:=by simp [i64s]
end
end Go.Ev

