/- A part of a proof: ScriptBack. -/
import Derived.Test.YtgmkbdmgifdfeaaGreatDoorD9
set_option linter.unusedVariables false
set_option linter.unusedSimpArgs false
namespace Go.Ev
open Go.RowKit
structure Vw where
 w:Bool
 elem:TypeId
 ext:Bool
 cs:List Value
noncomputable def Qjc (w:Bool) (r:Row):Option Vw :=
 match r.fz with
 | .none=>match Qbw r r.n 0 with
   |some cs=>some ⟨w,r.elem,r.ext,cs⟩
   |none=>none
 |_=>none
noncomputable def vwO:AObj→Option Vw
 | .row r=>Qjc true r
 | .glob r=>Qjc false r
 |_=>none
noncomputable def vw (m:Mem) (b:Nat):Option Vw :=
 match m.objs.get b with
 |some o=>vwO o
 |none=>none
theorem Jbz {r:Row} {i:Nat} (h:r.n≤i):Qci r i=none:=by
 obtain⟨ov,n,z,e,fz,x⟩:=r
 unfold Qci
 simp only at h ⊢
 have:Nat.blt i n=false:=by
  cases hb:Nat.blt i n with
  |false=>rfl
  |true=>rw [Nat.blt_eq] at hb;omega
 rw [this]
theorem Qb9 {r:Row} {cs:List Value} (h:∀ i,Qci r i=cs[i]?):∀ k o,Qbw r k o=if k=0∨o+k≤cs.length then some (Qbv cs o k) else none
 |0,o=>by simp [Qgo,Qbv]
 |k+1,o=>by
  rw [Qgp,h o]
  by_cases ho:o<cs.length
  ·rw [Kge ho]
   simp only [oB]
   rw [Qb9 h k (o+1)]
   by_cases hk:o+(k+1)≤cs.length
   ·rw [if_pos (by omega),if_pos (by omega)]
    simp only [Qbv,oB]
    rw [List.drop_eq_getElem_cons ho,List.take_succ_cons]
   ·rw [if_neg (by omega),if_neg (by omega)]
  ·rw [List.getElem?_eq_none (by omega),if_neg (by omega)]
   rfl
theorem Qgv {w:Bool} {r:Row} {v:Vw} (h:Qjc w r=some v):v.w=w∧r.n=v.cs.length∧r.elem=v.elem∧r.ext=v.ext∧r.fz=.none∧∀ i,Qci r i=v.cs[i]? := by
 unfold Qjc at h
 split at h<;>first|(simp at h;done)|skip
 rename_i hf
 split at h<;>first|(simp at h;done)|skip
 rename_i cs hc
 obtain rfl:=Kai h
 obtain⟨h1,h2⟩:=Qd2 hc
 refine⟨rfl,h1.symm,rfl,rfl,hf,fun i=>?_⟩
 by_cases hi:i<cs.length
 ·have:=h2 i _ (Kge hi)
  rw [Nat.zero_add] at this
  rw [this,Kge hi]
 ·have h1:cs.length=r.n:=h1
  rw [Jbz (by omega),List.getElem?_eq_none (by simpa using hi)]
theorem Qir {w:Bool} {r:Row} {cs:List Value} (hf:r.fz=.none) (hn:r.n=cs.length) (h:∀ i,Qci r i=cs[i]?):Qjc w r=some ⟨w,r.elem,r.ext,cs⟩:=by
 unfold Qjc
 rw [hf]
 simp only
 rw [Qb9 h,if_pos (by omega)]
 simp [Qbv,hn]
theorem Qc8 {m:Mem} {b:Nat} {v:Vw} (h:vw m b=some v):∃ r,Qdm m b=some r∧r.n=v.cs.length∧r.elem=v.elem∧r.ext=v.ext∧r.fz=.none∧(∀ i,Qci r i=v.cs[i]?)∧(v.w=true→rowW m b=some r)∧(v.w=false→rowW m b=none):=by
 unfold vw at h
 split at h<;>first|(simp at h;done)|skip
 rename_i o ho
 unfold vwO at h
 split at h<;>first|(simp at h;done)|skip
 ·rename_i r
  obtain⟨h0,h1,h2,h3,h4,h5⟩:=Qgv h
  refine⟨r,by simp [Qdm,ho],h1,h2,h3,h4,h5,fun _=>by simp [rowW,ho],fun e=>?_⟩
  rw [h0] at e;cases e
 ·rename_i r
  obtain⟨h0,h1,h2,h3,h4,h5⟩:=Qgv h
  refine⟨r,by simp [Qdm,ho],h1,h2,h3,h4,h5,fun e=>?_,fun _=>by simp [rowW,ho]⟩
  rw [h0] at e;cases e
def spl (cs:List Value):Nat→List Value→List Value
 |_,[]=>cs
 |i,v::l=>spl (cs.set i v) (i+1) l
theorem Qky:∀ (l:List Value) (cs:List Value) (i:Nat),(spl cs i l).length=cs.length
 | [],_,_=>rfl
 |v::l,cs,i=>by rw [spl,Qky l];simp
theorem Qp3:∀ (l:List Value) (cs:List Value) (i k:Nat),i+l.length≤cs.length→(spl cs i l)[k]? = if i≤k∧k<i+l.length then l[k-i]? else cs[k]?
 | [],cs,i,k,h=>by simp [spl];intros;omega
 |v::l,cs,i,k,h=>by
  simp only [Klc] at h ⊢
  rw [spl,Qp3 l _ _ _ (by simp;omega)]
  by_cases h1:i+1≤k∧k<i+1+l.length
  ·rw [if_pos h1,if_pos (by omega),show k-i=(k-(i+1))+1 from by omega];simp
  ·rw [if_neg h1,List.getElem?_set]
   by_cases h2:i=k
   ·subst h2
    rw [if_pos rfl,if_pos (by omega),if_pos (by omega)];simp
   ·rw [if_neg h2,if_neg (by omega)]
theorem Qvj {cs:List Value} {i:Nat} {l:List Value} (h:i+l.length≤cs.length):spl cs i l=cs.take i++l++cs.drop (i+l.length):=by
 apply List.ext_getElem?
 intro k
 rw [Qp3 l cs i k h]
 simp only [List.getElem?_append,Kla,List.length_take,Nat.min_eq_left (show i≤cs.length by omega)]
 by_cases h1:k<i
 ·rw [if_neg (by omega),if_pos (by omega),if_pos h1,List.getElem?_take,if_pos h1]
 ·by_cases h2:k<i+l.length
  ·rw [if_pos (by omega),if_pos h2,if_neg h1]
  ·rw [if_neg (by omega),if_neg h2,List.getElem?_drop];congr 1;omega
noncomputable def stM (m:Mem) (b i:Nat) (l:List Value):Mem:=match Qcb m b i l with|some m'=>m'|none=>m
def stOk (V:Vw) (i:Nat) (l:List Value):Bool:=V.w&&Nat.ble (i+l.length) V.cs.length&&l.all oneC
theorem Qjv {m:Mem} {b i:Nat} {l:List Value} {V:Vw} (hv:vw m b=some V) (h:stOk V i l=true) :
  ∃ r',Qcb m b i l=some (Qas m b (.row r'))∧Qjc true r'=some ⟨true,V.elem,V.ext,spl V.cs i l⟩:=by
 obtain⟨r,h1,h2,h3,h4,h5,h6,h7,h8⟩:=Qc8 hv
 unfold stOk at h
 simp only [Kba,Nat.ble_eq] at h
 obtain⟨⟨hw,hl⟩,ha⟩:=h
 obtain⟨ov,n,z,e,fz,x⟩:=r
 simp only at h2 h3 h4 h5
 subst h5
 have hrow:=h7 hw
 refine⟨⟨T.setL l i ov,n,z,e,.none,x⟩,?_,?_⟩
 ·unfold Qcb
  rw [hrow]
  simp only [oB,Ql9,fzOk]
  have:(Nat.ble (i+l.length) n&&l.all oneC)=true:=by
   rw [ha,Bool.and_true,Nat.ble_eq];omega
  rw [this]
 ·have:=Qir (w:=true) (r:=⟨T.setL l i ov,n,z,e,.none,x⟩) (cs:=spl V.cs i l) rfl (by rw [Qky];exact h2) fun k=>by
   rw [Qp3 _ _ _ _ hl,← h6]
   unfold Qci
   simp only
   rw [T.get_setL]
   by_cases hk:k<n
   ·have hb:Nat.blt k n=true:=by rw [Nat.blt_eq];exact hk
    rw [hb]
    simp only
    by_cases h1:k<i
    ·rw [if_pos h1,if_neg (by omega)]
    ·rw [if_neg h1]
     by_cases h2:k<i+l.length
     ·rw [if_pos h2,if_pos (by omega),Kge (by omega)]
     ·rw [if_neg h2,if_neg (by omega)]
   ·have hb:Nat.blt k n=false:=by
     cases hb:Nat.blt k n with
     |false=>rfl
     |true=>rw [Nat.blt_eq] at hb;omega
    rw [hb]
    simp only
    rw [if_neg (by omega)]
  rw [this]
  simp only [h3,h4]
theorem Qju {m:Mem} {b i:Nat} {l:List Value} {V:Vw} (hv:vw m b=some V) (h:stOk V i l=true):Qcb m b i l=some (stM m b i l):=by
 obtain⟨r',h1,h2⟩:=Qjv hv h
 unfold stM
 rw [h1]
theorem Qhs {m m':Mem} {b i:Nat} {l:List Value} (h:Qcb m b i l=some m'):∃ r',m'=Qas m b (.row r'):=by
 unfold Qcb at h
 rw [Qae] at h
 obtain⟨r,_,h⟩:=h
 rw [Qae] at h
 obtain⟨r',_,h⟩:=h
 exact⟨r',(Kai h).symm⟩
theorem Qcu {m:Mem} {b i x:Nat} {l:List Value} (hx:x≠b):(stM m b i l).objs.get x=m.objs.get x:=by
 unfold stM
 split
 ·rename_i m' h
  obtain⟨r',rfl⟩:=Qhs h
  rw [Qbk,if_neg hx]
 ·rfl
theorem Qav {m:Mem} {b i:Nat} {l:List Value}:(stM m b i l).next=m.next:=by
 unfold stM
 split
 ·rename_i m' h
  obtain⟨r',rfl⟩:=Qhs h
  rfl
 ·rfl
theorem Qa9 {m:Mem} {b i x:Nat} {l:List Value} (hx:x≠b):vw (stM m b i l) x=vw m x:=by unfold vw;rw [Qcu hx]
theorem Qau {m:Mem} {b i:Nat} {l:List Value} {V:Vw} (hv:vw m b=some V) (h:stOk V i l=true):vw (stM m b i l) b=some ⟨true,V.elem,V.ext,spl V.cs i l⟩:=by
 obtain⟨r',h1,h2⟩:=Qjv hv h
 unfold stM
 rw [h1]
 unfold vw
 simp only [Qbk,if_true,vwO,h2]
theorem Qcs {m:Mem} {o:AObj} {x:Nat}:vw (Qah m o) x=if x=m.next then vwO o else vw m x:=by
 unfold vw
 rw [Qan]
 by_cases h:x=m.next
 ·rw [if_pos h,if_pos h]
 ·rw [if_neg h,if_neg h]
theorem Qyo {m:Mem} {o:AObj} {b x:Nat}:vw (Qas m b o) x=if x=b then vwO o else vw m x:=by
 unfold vw
 rw [Qbk]
 by_cases h:x=b
 ·rw [if_pos h,if_pos h]
 ·rw [if_neg h,if_neg h]
theorem Qcj (e:TypeId) (cells:List Value) (x:Bool):vwO (Qb1 e cells .none x)=some ⟨true,e,x,cells⟩:=by
 unfold Qb1 vwO
 refine Qir (r:=⟨T.ofList cells,cells.length,[],e,.none,x⟩) rfl rfl fun i=>?_
 unfold Qci
 simp only [T.get_ofList]
 by_cases hi:i<cells.length
 ·have hb:Nat.blt i cells.length=true:=by rw [Nat.blt_eq];exact hi
  rw [hb,Kge hi]
 ·have hb:Nat.blt i cells.length=false:=by
   cases hb:Nat.blt i cells.length with
   |false=>rfl
   |true=>rw [Nat.blt_eq] at hb;omega
  rw [hb,List.getElem?_eq_none (by omega)]
theorem Qow (w:Bool) (e:TypeId) (z:List Value) (n:Nat) (x:Bool):Qjc w ⟨.lf,n*z.length,z,e,.none,x⟩=some ⟨w,e,x,repl z n⟩:=by
 refine Qir (r:=⟨.lf,n*z.length,z,e,.none,x⟩) rfl (Qhi z n).symm fun i=>?_
 unfold Qci
 simp only [T.get_lf]
 by_cases hi:i<n*z.length
 ·have hb:Nat.blt i (n*z.length)=true:=by rw [Nat.blt_eq];exact hi
  rw [hb,Qmd,if_pos hi]
 ·have hb:Nat.blt i (n*z.length)=false:=by
   cases hb:Nat.blt i (n*z.length) with
   |false=>rfl
   |true=>rw [Nat.blt_eq] at hb;omega
  rw [hb,Qmd,if_neg hi]
theorem Qjd (e:TypeId) (z:List Value) (n:Nat):vwO (Qcf e (n*z.length) z)=some ⟨true,e,false,repl z n⟩:=Qow _ _ _ _ _
theorem Qh0 (e:TypeId) (z:List Value):vwO (Qcf e z.length z)=some ⟨true,e,false,z⟩:=by
 have:=Qjd e z 1
 rw [Nat.one_mul] at this
 rw [this];simp [repl]
theorem Qwl {w:Bool} {c:T Value} {n:Nat} {z l:List Value} {e:TypeId} {x:Bool} {o:Nat} {V:Vw} (h:Qjc w ⟨c,n,z,e,.none,x⟩=some V) (hl:o+l.length≤n) :
  Qjc w ⟨T.setL l o c,n,z,e,.none,x⟩=some ⟨w,e,x,spl V.cs o l⟩:=by
 obtain⟨h0,h1,h2,h3,h4,h5⟩:=Qgv h
 simp only at h1 h2 h3
 refine Qir (r:=⟨T.setL l o c,n,z,e,.none,x⟩) rfl (by rw [Qky];exact h1) fun k=>?_
 rw [Qp3 _ _ _ _ (by omega),← h5]
 unfold Qci
 simp only
 rw [T.get_setL]
 by_cases hk:k<n
 ·have hb:Nat.blt k n=true:=by rw [Nat.blt_eq];exact hk
  rw [hb]
  simp only
  by_cases h1:k<o
  ·rw [if_pos h1,if_neg (by omega)]
  ·rw [if_neg h1]
   by_cases h2:k<o+l.length
   ·rw [if_pos h2,if_pos (by omega),Kge (by omega)]
   ·rw [if_neg h2,if_neg (by omega)]
 ·have hb:Nat.blt k n=false:=by
   cases hb:Nat.blt k n with
   |false=>rfl
   |true=>rw [Nat.blt_eq] at hb;omega
  rw [hb]
  simp only
  rw [if_neg (by omega)]
end Go.Ev

namespace Go.Ev
open Go.RowKit
section
variable {tb:Tabs} {l:List Value} {m:Mem}
theorem evL_tmp (i:Nat):evL l (.tmp i)=l.getD i undef:=Qa7 l i
theorem Jbh (v:Value):evL l (.const v)=v:=_root_.id rfl
theorem evL_func (f:FuncId):evL l (.func f)=.func (.func f) #[] #[]:=_root_.id rfl
theorem evsL_nil:evsL l []=[]:=_root_.id rfl
theorem Jbd (x:Operand) (xs:List Operand):evsL l (x::xs)=evL l x::evsL l xs:=_root_.id rfl
noncomputable def evPL (l:List Value) (x:List (Nat × Operand)):List (Nat × Value):=evP (T.ofList l) x
theorem evPL_nil:evPL l []=[]:=_root_.id rfl
theorem Jbe (i:Nat) (x:Operand) (xs:List (Nat × Operand)):evPL l ((i,x)::xs)=(i,evL l x)::evPL l xs:=_root_.id rfl
noncomputable def evOL (l:List Value) (x:Option Operand):Option Value:=evO (T.ofList l) x
theorem Jbg:evOL l none=none:=_root_.id rfl
theorem Jbf (x:Operand):evOL l (some x)=some (evL l x):=_root_.id rfl
theorem o_move (x:Operand):opA (.move x) tb (T.ofList l) m=.r (evL l x):=_root_.id rfl
theorem o_assign (x:Operand):opA (.assign x) tb (T.ofList l) m=.e (evL l x) m:=_root_.id rfl
theorem o_pick (c a b:Operand):opA (.pick c a b) tb (T.ofList l) m=Qvx (evL l c) (evL l a) (evL l b):=_root_.id rfl
theorem o_alloc (e:TypeId):opA (.alloc e) tb (T.ofList l) m=Qm7 tb e:=_root_.id rfl
theorem o_box (e:TypeId) (x:Operand):opA (.box e x) tb (T.ofList l) m=.f (Qb1 e (Qa0 (evL l x)) .none false) ptr0:=_root_.id rfl
theorem o_build (ty:TypeId) (ps:Array (Nat × Operand)):opA (.build ty ps) tb (T.ofList l) m=oR (Qs7 tb ty (evPL l ps.toList)):=_root_.id rfl
theorem Qsa (ty:TypeId) (n:Nat) (ps:Array (Nat × Operand)):opA (.buildSlice ty n ps) tb (T.ofList l) m=Qe3 tb ty n (evPL l ps.toList):=_root_.id rfl
theorem o_load (ty:TypeId) (a:Operand):opA (.load ty a) tb (T.ofList l) m=Qdz tb ty m (evL l a):=_root_.id rfl
theorem o_store (ty:TypeId) (a x:Operand):opA (.store ty a x) tb (T.ofList l) m=Qhm tb ty m (evL l a) (evL l x):=_root_.id rfl
theorem Qxh (x:Operand):opA (.nilCheck x) tb (T.ofList l) m=Qg2 (evL l x):=_root_.id rfl
theorem o_binOp (op:BinOp) (ty:TypeId) (x y:Operand) (yt:TypeId):opA (.binOp op ty x y yt) tb (T.ofList l) m=oR (binA tb m op ty x y (evL l x) (evL l y)):=_root_.id rfl
theorem o_unOp (op:UnOp) (ty:TypeId) (x:Operand):opA (.unOp op ty x) tb (T.ofList l) m=oR (unA op (evL l x)):=_root_.id rfl
theorem Jae (s d:TypeId) (x:Operand):opA (.convert s d x) tb (T.ofList l) m=Qff tb m s d (evL l x):=_root_.id rfl
theorem Qm9 (ty:TypeId) (x:Operand):opA (.makeInterface ty x) tb (T.ofList l) m=Qj5 tb ty (evL l x):=_root_.id rfl
theorem Qxi (f:FuncId) (first cap:Array Operand):opA (.makeFunc (.func f) first cap) tb (T.ofList l) m=.r (.func (.func f) ⟨evsL l first.toList⟩ ⟨evsL l cap.toList⟩):=_root_.id rfl
theorem o_slice (ty:TypeId) (x:Operand) (lo hi mx:Option Operand):opA (.slice ty x lo hi mx) tb (T.ofList l) m=oR (Qht tb ty m (evL l x) (evOL l lo) (evOL l hi) (evOL l mx)):=_root_.id rfl
theorem Quh (ty:TypeId) (x:Operand) (f:Nat):opA (.fieldAddr ty x f) tb (T.ofList l) m=oR (Qg9 tb ty (evL l x) f):=_root_.id rfl
theorem Qug (ty:TypeId) (x i:Operand):opA (.indexAddr ty x i) tb (T.ofList l) m=oR (Qeb tb ty (evL l x) (evL l i)):=_root_.id rfl
theorem o_index (ty:TypeId) (x i:Operand):opA (.index ty x i) tb (T.ofList l) m=oR (Qi8 tb ty (evL l x) (evL l i)):=_root_.id rfl
theorem Qr9 (x:Operand) (t:TypeId) (a:TypeId) (ok:Bool):opA (.typeAssert x t a ok) tb (T.ofList l) m=oR (Qeo tb (evL l x) a ok):=_root_.id rfl
theorem Jad (x:Operand) (i:Nat):opA (.extract x i) tb (T.ofList l) m=Qd0 (evL l x) i:=_root_.id rfl
theorem o_callV (f:Operand) (args:Array Operand) (tys:Array TypeId):opA (.call ⟨.value f,args,tys⟩) tb (T.ofList l) m=.c:=_root_.id rfl
theorem o_callB (b:Builtin) (args:Array Operand) (tys:Array TypeId):opA (.call ⟨.builtin b,args,tys⟩) tb (T.ofList l) m=Qcm tb m b tys.toList (evsL l args.toList):=_root_.id rfl
theorem o_defer (c:Call):opA (.defer c) tb (T.ofList l) m=.c:=_root_.id rfl
theorem o_panic (x:Operand):opA (.panic x) tb (T.ofList l) m=.c:=_root_.id rfl
theorem Qc1 (k:IntKind):kEq k k=true:=by cases k<;>rfl
theorem b_add (k:IntKind) (t:TypeId) (x y:Operand) (a b:Int):binA tb m .add t x y (.int k a) (.int k b)=some (.int k (k.wrap (a+b))):=by
 simp only [binA,Qc1,Qig,Qa3,Qdb,Jb9]
theorem b_sub (k:IntKind) (t:TypeId) (x y:Operand) (a b:Int):binA tb m .sub t x y (.int k a) (.int k b)=some (.int k (k.wrap (a-b))):=by
 simp only [binA,Qc1,Qig,Qa3,Qdb,Qp2]
theorem b_eql (k:IntKind) (t:TypeId) (x y:Operand) (a b:Int):binA tb m .eql t x y (.int k a) (.int k b)=some (.bool (decide (a=b))):=by
 simp only [binA,Qc1,Qig,Qeg];rfl
theorem b_neq (k:IntKind) (t:TypeId) (x y:Operand) (a b:Int):binA tb m .neq t x y (.int k a) (.int k b)=some (.bool (!decide (a=b))):=by
 simp only [binA,Qc1,Qig,Qeg];rfl
theorem b_lss (k:IntKind) (t:TypeId) (x y:Operand) (a b:Int):binA tb m .lss t x y (.int k a) (.int k b)=some (.bool (decide (a<b))):=by
 simp only [binA,Qc1,Qig,Qev]
theorem b_gtr (k:IntKind) (t:TypeId) (x y:Operand) (a b:Int):binA tb m .gtr t x y (.int k a) (.int k b)=some (.bool (decide (b<a))):=by
 simp only [binA,Qc1,Qig,Qev]
theorem b_leq (k:IntKind) (t:TypeId) (x y:Operand) (a b:Int):binA tb m .leq t x y (.int k a) (.int k b)=some (.bool (decide (a≤b))):=by
 simp only [binA,Qc1,Qig,Qev,← decide_not,Int.not_lt]
theorem b_geq (k:IntKind) (t:TypeId) (x y:Operand) (a b:Int):binA tb m .geq t x y (.int k a) (.int k b)=some (.bool (decide (b≤a))):=by
 simp only [binA,Qc1,Qig,Qev,← decide_not,Int.not_lt]
theorem b_beql (t:TypeId) (x y:Operand) (a b:ByteArray):binA tb m .eql t x y (.string a) (.string b)=some (.bool (decide (a.data.toList=b.data.toList))):=by
 simp only [binA,Qrs,Qc7]
 congr 2;rw [Bool.eq_iff_iff];simp
theorem b_bneq (t:TypeId) (x y:Operand) (a b:ByteArray):binA tb m .neq t x y (.string a) (.string b)=some (.bool (!decide (a.data.toList=b.data.toList))):=by
 simp only [binA,Qrs,Qc7]
 congr 3;rw [Bool.eq_iff_iff];simp
theorem Qf7 (t:TypeId) (x y:Operand) (a b:List UInt8) (h:a.length+b.length≤9223372036854775807):binA tb m .add t x y (.string ⟨⟨a⟩⟩) (.string ⟨⟨b⟩⟩)=some (.string ⟨⟨a++b⟩⟩):=by
 have h':Nat.ble (a.length+b.length) 9223372036854775807=true:=by rw [Nat.ble_eq];exact h
 simp only [binA,Qrs,h']
theorem b_shr (k k':IntKind) (t:TypeId) (x y:Operand) (a s:Nat):binA tb m .shr t x y (.int k (a:Int)) (.int k' (s:Int))=some (.int k ((a / 2 ^ Nat.min s k.bits:Nat):Int)):=by
 show Qed .shr k (.ofNat a) (.ofNat s)=_
 simp only [Qed,Qa3]
 rw [← Nat.shiftRight_eq_div_pow];rfl
theorem b_shl (k k':IntKind) (t:TypeId) (x y:Operand) (a s:Nat):binA tb m .shl t x y (.int k (a:Int)) (.int k' (s:Int))=some (.int k (k.wrap ((a*2 ^ Nat.min s k.bits:Nat):Int))):=by
 show Qed .shl k (.ofNat a) (.ofNat s)=_
 have:Qkr k (Nat.shiftLeft a (Nat.min s k.bits))=k.wrap ((a*2 ^ Nat.min s k.bits:Nat):Int):=by
  have:=Qdb k (.ofNat (Nat.shiftLeft a (Nat.min s k.bits)))
  rw [show Qmn k (.ofNat (Nat.shiftLeft a (Nat.min s k.bits)))=Qkr k (Nat.shiftLeft a (Nat.min s k.bits)) from rfl] at this
  rw [this]
  congr 1
  show ((a <<< Nat.min s k.bits:Nat):Int)=_
  rw [Nat.shiftLeft_eq]
 simp only [Qed,Qa3,this]
theorem b_and (k:IntKind) (t:TypeId) (x y:Operand) (a b:Nat):binA tb m .and t x y (.int k (a:Int)) (.int k (b:Int))=some (.int k (k.wrap ((a &&& b:Nat):Int))):=by
 have:=Qdb k (.ofNat (Nat.land a b))
 rw [show Qmn k (.ofNat (Nat.land a b))=Qkr k (Nat.land a b) from rfl] at this
 simp only [binA,Qc1,Qig]
 show oI k (some (Qkr k (Nat.land a b)))=_
 rw [this];simp only [oI,Qa3];rfl
theorem b_or (k:IntKind) (t:TypeId) (x y:Operand) (a b:Nat):binA tb m .or t x y (.int k (a:Int)) (.int k (b:Int))=some (.int k (k.wrap ((a ||| b:Nat):Int))):=by
 have:=Qdb k (.ofNat (Nat.lor a b))
 rw [show Qmn k (.ofNat (Nat.lor a b))=Qkr k (Nat.lor a b) from rfl] at this
 simp only [binA,Qc1,Qig]
 show oI k (some (Qkr k (Nat.lor a b)))=_
 rw [this];simp only [oI,Qa3];rfl
theorem u_not (b:Bool):unA .not (.bool b)=some (.bool !b):=_root_.id rfl
theorem u_neg (k:IntKind) (n:Int):unA .neg (.int k n)=some (.int k (k.wrap (-n))):=by
 simp only [unA,Qa3,Qdb,Qp2]
 congr 3;omega
theorem wr64 (n:Int) (h1 : -9223372036854775808≤n) (h2:n<9223372036854775808):IntKind.wrap .i64 n=n:=by
 rw [Qjs];split<;>omega
theorem wru64 (n:Int) (h1:0≤n) (h2:n<18446744073709551616):IntKind.wrap .u64 n=n:=by rw [Qpu];omega
theorem wru8 (n:Int) (h1:0≤n) (h2:n<256):IntKind.wrap .u8 n=n:=by rw [Qyg];omega
theorem wru32 (n:Int) (h1:0≤n) (h2:n<4294967296):IntKind.wrap .u32 n=n:=by rw [Qu9];omega
def ldV (i:TI) (cs:List Value) (o:Nat):Option Value :=
 match i.agg with
 |true=>if i.inf.size=0∨o+i.inf.size≤cs.length then some (.agg ⟨Qbv cs o i.inf.size⟩) else none
 |false=>cs[o]?
noncomputable def ldX (tb:Tabs) (t:TypeId) (m:Mem) (b o:Nat) (s:Option Nat):OR:=Qdz tb t m (.pointer (some ⟨b,o,s⟩))
noncomputable def ldW (tb:Tabs) (t:TypeId) (m:Mem) (b o:Nat) (s:Option Nat):Option TI→Option Vw→OR
 |some i,some V=>oR (ldV i V.cs o)
 |_,_=>ldX tb t m b o s
theorem o_loadW (t:TypeId) (b o:Nat) (s:Option Nat):Qdz tb t m (.pointer (some ⟨b,o,s⟩))=ldW tb t m b o s (ti tb t) (vw m b):=by
 unfold ldW
 split
 ·rename_i i V hi hv
  obtain⟨r,h1,h2,h3,h4,h5,h6,_⟩:=Qc8 hv
  simp only [Qdz,loadA,hi,oB,h1,ldV]
  cases ha:i.agg with
  |true =>
   simp only
   rw [Qb9 h6]
   by_cases hc:i.inf.size=0∨o+i.inf.size≤V.cs.length
   ·rw [if_pos hc,if_pos hc]
   ·rw [if_neg hc,if_neg hc]
  |false =>
   simp only
   rw [h6]
 ·rfl
theorem ldW_some (t:TypeId) (b o:Nat) (s:Option Nat) (i:TI) (w:Bool) (e:TypeId) (x:Bool) (cs:List Value):ldW tb t m b o s (some i) (some ⟨w,e,x,cs⟩)=oR (ldV i cs o):=_root_.id rfl
noncomputable def stX (tb:Tabs) (t:TypeId) (m:Mem) (b o:Nat) (s:Option Nat) (v:Value):OR:=Qhm tb t m (.pointer (some ⟨b,o,s⟩)) v
noncomputable def stW (tb:Tabs) (t:TypeId) (m:Mem) (b o:Nat) (s:Option Nat) (v:Value):Option TI→Option Vw→OR
 |some i,some V=>if (Qa0 v).length=i.inf.size∧stOk V o (Qa0 v)=true then .e undef (stM m b o (Qa0 v)) else stX tb t m b o s v
 |_,_=>stX tb t m b o s v
theorem o_storeW (t:TypeId) (b o:Nat) (s:Option Nat) (v:Value):Qhm tb t m (.pointer (some ⟨b,o,s⟩)) v=stW tb t m b o s v (ti tb t) (vw m b):=by
 unfold stW
 split
 ·rename_i i V hi hv
  split
  ·rename_i h
   obtain⟨h1,h2⟩:=h
   have:Nat.beq (Qa0 v).length i.inf.size=true:=by rw [Nat.beq_eq];exact h1
   simp only [Qhm,Qvf,hi,oB,this,Qju hv h2,oM]
  ·rfl
 ·rfl
theorem stW_some (t:TypeId) (b o:Nat) (s:Option Nat) (v:Value) (i:TI) (V:Vw):stW tb t m b o s v (some i) (some V)=if (Qa0 v).length=i.inf.size∧stOk V o (Qa0 v)=true then .e undef (stM m b o (Qa0 v)) else stX tb t m b o s v:=_root_.id rfl
theorem Jb7 (e:TypeId) (sz sc:Nat) (new:List Value):Qbq m e sz (.slice none 0 sc) 0 new=some (.slice none 0 sc,m):=_root_.id rfl
theorem ap_in {b o sl sc:Nat} {s:Option Nat} {V:Vw} (e:TypeId) (sz n:Nat) (new:List Value) (hv:vw m b=some V) (hn:new≠[]) (hc:sl+n≤sc) (hs:stOk V (o+sl*sz) new=true) :
  Qbq m e sz (.slice (some ⟨b,o,s⟩) sl sc) n new=some (.slice (some ⟨b,o,s⟩) (sl+n) sc,stM m b (o+sl*sz) new):=by
 have:Nat.ble (sl+n) sc=true:=by rw [Nat.ble_eq];exact hc
 simp only [Qbq,this]
 cases new with
 |nil=>exact absurd rfl hn
 |cons v new=>simp only [Qju hv hs,oB]
theorem Qu4 {b o sl sc:Nat} {s:Option Nat} (e:TypeId) (sz:Nat) (hc:sl≤sc):Qbq m e sz (.slice (some ⟨b,o,s⟩) sl sc) 0 []=some (.slice (some ⟨b,o,s⟩) sl sc,m):=by
 have:Nat.ble sl sc=true:=by rw [Nat.ble_eq];exact hc
 simp only [Qbq,this,Nat.add_zero]
theorem ap_fix {b o sl sc:Nat} {V:Vw} (e:TypeId) (sz n:Nat) (new:List Value) (s:Option Nat) (hv:vw m b=some V) (hx:V.ext=false) (hc:sc<sl+n) (hb:sl*sz=0∨o+sl*sz≤V.cs.length) :
  Qbq m e sz (.slice (some ⟨b,o,s⟩) sl sc) n new=some (.slice (some ⟨m.next,0,none⟩) (sl+n) (sl+n),Qah m (Qb1 e (Qbv V.cs o (sl*sz)++new) .none true)):=by
 obtain⟨r,h1,h2,h3,h4,h5,h6,_⟩:=Qc8 hv
 have:Nat.ble (sl+n) sc=false:=by
  cases hb:Nat.ble (sl+n) sc with
  |false=>rfl
  |true=>rw [Nat.ble_eq] at hb;omega
 simp only [Qbq,this,growA,h1,oB]
 rw [h4,hx]
 simp only
 rw [Qb9 h6,if_pos hb]
 rfl
theorem ap_grow {b o sl sc:Nat} {V:Vw} (e:TypeId) (sz n:Nat) (new:List Value) (hv:vw m b=some V) (hx:V.ext=true) (hw:V.w=true) (hc:sc<sl+n) (he:o+sc*sz=V.cs.length) (het:V.elem=e) (hn:new.length=n*sz) (ha:new.all oneC=true) (hsl:sl≤sc) :
  Qbq m e sz (.slice (some ⟨b,o,none⟩) sl sc) n new=some (.slice (some ⟨m.next,0,none⟩) (sl+n) (sl+n),Qah (Qas m b .dead) (Qb1 e (Qbv V.cs o (sl*sz)++new) .none true)):=by
 obtain⟨r,h1,h2,h3,h4,h5,h6,h7,_⟩:=Qc8 hv
 have hb:Nat.ble (sl+n) sc=false:=by
  cases hb:Nat.ble (sl+n) sc with
  |false=>rfl
  |true=>rw [Nat.ble_eq] at hb;omega
 have h8:=h7 hw
 have e1:(Nat.beq (o+sc*sz) r.n&&Nat.beq r.elem e&&Nat.beq new.length (n*sz)&&new.all oneC)=true:=by
  rw [h2,h3,he,het,hn,ha];simp
 have hle:sl*sz≤sc*sz:=Nat.mul_le_mul_right sz hsl
 simp only [Qbq,hb,growA,h1,oB,h4,hx,h5,h8,e1]
 rw [Qb9 h6,if_pos (by omega)]
 rfl
theorem fi_slice {b o l c k:Nat} {s:Option Nat} {V:Vw} (n:Nat) (hv:vw m b=some V) (h:k=0∨o+k≤V.cs.length):Qe6 m k n (.slice (some ⟨b,o,s⟩) l c)=some (Qbv V.cs o k):=by
 obtain⟨r,h1,h2,h3,h4,h5,h6,_⟩:=Qc8 hv
 cases k with
 |zero=>simp [Qe6,Qbv]
 |succ k =>
  simp only [Qe6,h1,oB]
  rw [Qb9 h6,if_pos h]
end
end Go.Ev

namespace Go.Ev
open Go.RowKit
def gx:List Value→Nat→Value
 | [],_=>undef
 |x::_,0=>x
 |_::l,n+1=>gx l n
theorem gx_c0 (x:Value) (l:List Value):gx (x::l) 0=x:=_root_.id rfl
theorem gx_cs (x:Value) (l:List Value) (n:Nat):gx (x::l) (n+1)=gx l n:=_root_.id rfl
theorem Qnr:∀ (l:List Value) (n:Nat),l.getD n undef=gx l n
 | [],n=>by simp [gx]
 |x::l,0=>rfl
 |x::l,n+1=>by rw [List.getD_cons_succ];exact Qnr l n
theorem Ja5 {l:List Value} {n:Nat} {v:Value} (h:n<l.length):gx (l.set n v) n=v:=by
 rw [← Qnr];simp [List.getD_eq_getElem?_getD,h]
theorem Qnq {l:List Value} {n k:Nat} {v:Value} (h:n≠k):gx (l.set n v) k=gx l k:=by
 rw [← Qnr,← Qnr];simp [List.getD_eq_getElem?_getD,List.getElem?_set,h]
section
variable (tb:Tabs)
noncomputable def resX (rs:List ResultVar) (l:List Value) (m:Mem):Option Value :=
 match resA tb (T.ofList l) m rs with
 |some [v]=>some v
 |some vs=>some (.tuple ⟨vs⟩)
 |none=>none
def endX (rs:List ResultVar) (R:OutA→Mem→Prop):Qda
 | .normal,l,ds,m=>ds=[]∧∃ v,resX tb rs l m=some v∧R (.ret v) m
 | .jump .ret,l,ds,m=>ds=[]∧∃ v,resX tb rs l m=some v∧R (.ret v) m
 | .pan ch,_,ds,m=>ds=[]∧R (.pan ch) m
 |_,_,_,_=>False
def retR (P:Value→Mem→Prop):OutA→Mem→Prop
 | .ret v,m=>P v m
 | .pan _,_=>False
variable {tb}
variable {F:FC} {l:List Value} {ds:List Deferred} {m:Mem} {Q:Qda}
theorem Qcx (N:List Value→List Deferred→Mem→Prop):Qhx N Q .normal l ds m=N l ds m:=_root_.id rfl
theorem Qoz (N:List Value→List Deferred→Mem→Prop) (c:Code):Qhx N Q (.jump c) l ds m=Q (.jump c) l ds m:=_root_.id rfl
theorem Qyv (N:List Value→List Deferred→Mem→Prop) (c:List PanicEntry):Qhx N Q (.pan c) l ds m=Q (.pan c) l ds m:=_root_.id rfl
theorem Qq8 (id:Nat):Qpr id Q .normal l ds m=Q .normal l ds m:=_root_.id rfl
theorem Qya (id:Nat) (c:List PanicEntry):Qpr id Q (.pan c) l ds m=Q (.pan c) l ds m:=_root_.id rfl
theorem Qog (id i:Nat):Qpr id Q (.jump (.exit i)) l ds m=if i=id then Q .normal l ds m else Q (.jump (.exit i)) l ds m:=_root_.id rfl
theorem retR_ret (P:Value→Mem→Prop) (v:Value):retR P (.ret v) m=P v m:=_root_.id rfl
theorem Qdd:resX tb [] l m=some (.tuple ⟨[]⟩):=_root_.id rfl
theorem Qat (i:Nat):resX tb [.tmp i] l m=some (gx l i):=by
 rw [← Qnr]
 have:=Qa7 l i
 simp only [ev] at this
 simp only [resX,resA,oB,this]
theorem Qfh (i j:Nat):resX tb [.tmp i,.tmp j] l m=some (.tuple ⟨[gx l i,gx l j]⟩):=by
 rw [← Qnr,← Qnr]
 have h1:=Qa7 l i
 have h2:=Qa7 l j
 simp only [ev] at h1 h2
 simp only [resX,resA,oB,h1,h2]
theorem callsZ {f:FuncId} {fd:Func} {c:Code} {s:SCode} {n:Nat} {rs:List ResultVar} {args:List Value} {R:OutA→Mem→Prop} (hf:tb.funcs.get f=some fd) (hb:fd.body=some c) (hs:Qa2 c=s) (hn:fd.ntmps=n) (hr:fd.results.toList=rs)
  (h:wpX tb ⟨f,.normal,none⟩ s (args++List.replicate (n-args.length) undef) [] m (endX tb rs R)):Qaw tb f args m R:=by
 subst hn;subst hr
 refine callsX hf hb hs (h.mono fun e l' ds' m' h=>?_)
 cases e with
 |normal=>exact h
 |jump c=>cases c<;>exact h
 |pan ch=>exact h
theorem Qak {f:FuncId} {first cap args:List Value} {R:OutA→Mem→Prop} {K:Value→List Deferred→Mem→Prop} {PK:List PanicEntry→Mem→Prop} (hov:tb.ov.get f=none) (h:Qaw tb f (first++args++cap) m R)
  (k:∀ v m',R (.ret v) m'→K v ds m') (pk:∀ ch m',R (.pan ch) m'→PK ch m'):Qey tb (Qaz tb (.func (.func f) ⟨first⟩ ⟨cap⟩) args m) ds m K PK:=by
 have e:Qaz tb (.func (.func f) ⟨first⟩ ⟨cap⟩) args m=.enter f (first++args++cap):=by
  obtain⟨g,hg,_⟩:=h
  unfold Qf2 at hg
  split at hg<;>first|(simp at hg;done)|skip
  rename_i fn hfn
  split at hg<;>first|(simp at hg;done)|skip
  rename_i c hc
  simp only [Qaz,Qd8,Ql4,hov,hfn,hc]
 rw [e]
 refine Qaw.mono h fun o m' ho=>?_
 cases o with
 |ret v=>exact k _ _ ho
 |pan ch=>exact pk _ _ ho
theorem Qrj (f:Operand) (args:Array Operand) (tys:Array TypeId) (ty:TypeId) (K:Value→List Deferred→Mem→Prop) (PK:List PanicEntry→Mem→Prop) :
  Qgi tb F (.call ⟨.value f,args,tys⟩) ty l ds m K PK=Qey tb (Qaz tb (evL l f) (evsL l args.toList) m) ds m K PK:=_root_.id rfl
theorem Qpw (x:Operand) (ty:TypeId) (K:Value→List Deferred→Mem→Prop) (PK:List PanicEntry→Mem→Prop) :
  Qgi tb F (.panic x) ty l ds m K PK=(Qnm (evL l x)=true∧PK [{ v:=evL l x,recovered:=false }] m):=_root_.id rfl
variable (tb)
noncomputable def wpS (F:FC) (Q:Qda) (d:Option Tmp) (op:Op) (ty:TypeId) (os:List SOp) (r:OR) (l:List Value) (ds:List Deferred) (m:Mem):Prop:=match r with
 | .r v=>wpR tb F Q os (Qbu d v l) ds m
 | .f ob mk=>wpR tb F Q os (Qbu d (mk m.next) l) ds (Qah m ob)
 | .e v m'=>wpR tb F Q os (Qbu d v l) ds m'
 | .c=>Qgi tb F op ty l ds m (fun v ds m=>wpR tb F Q os (Qbu d v l) ds m) (fun ch m=>Q (.pan ch) l ds m)
 | .bad=>False
noncomputable def wpG (F:FC) (Q:Qda) (d:Option Tmp) (op:Op) (ty:TypeId) (os:List SOp) (w:Bool) (l:List Value) (ds:List Deferred) (m:Mem):Prop:=match w with
 |false=>wpR tb F Q os (Qbu d undef l) ds m
 |true=>wpS tb F Q d op ty os (opA op tb (T.ofList l) m) l ds m
variable {tb}
theorem wpR_cons (d:Option Tmp) (op:Op) (ty:TypeId) (g:SG) (os:List SOp):wpR tb F Q (⟨d,op,ty,g⟩::os) l ds m=(dstB d l.length=true∧wpG tb F Q d op ty os (Qgu l g) l ds m):=_root_.id rfl
theorem wpG_true (d:Option Tmp) (op:Op) (ty:TypeId) (os:List SOp):wpG tb F Q d op ty os true l ds m=wpS tb F Q d op ty os (opA op tb (T.ofList l) m) l ds m:=_root_.id rfl
theorem Qyi (d:Option Tmp) (op:Op) (ty:TypeId) (os:List SOp):wpG tb F Q d op ty os false l ds m=wpR tb F Q os (Qbu d undef l) ds m:=_root_.id rfl
theorem wpS_r (d:Option Tmp) (op:Op) (ty:TypeId) (os:List SOp) (v:Value):wpS tb F Q d op ty os (.r v) l ds m=wpR tb F Q os (Qbu d v l) ds m:=_root_.id rfl
theorem wpS_f (d:Option Tmp) (op:Op) (ty:TypeId) (os:List SOp) (ob:AObj) (mk:Nat→Value):wpS tb F Q d op ty os (.f ob mk) l ds m=wpR tb F Q os (Qbu d (mk m.next) l) ds (Qah m ob):=_root_.id rfl
theorem wpS_e (d:Option Tmp) (op:Op) (ty:TypeId) (os:List SOp) (v:Value) (m':Mem):wpS tb F Q d op ty os (.e v m') l ds m=wpR tb F Q os (Qbu d v l) ds m':=_root_.id rfl
theorem wpS_c (d:Option Tmp) (op:Op) (ty:TypeId) (os:List SOp):wpS tb F Q d op ty os .c l ds m=Qgi tb F op ty l ds m (fun v ds m=>wpR tb F Q os (Qbu d v l) ds m) (fun ch m=>Q (.pan ch) l ds m):=_root_.id rfl
theorem wpR_nil:wpR tb F Q [] l ds m=Q .normal l ds m:=_root_.id rfl
theorem dB_some (d n:Nat):dstB (some d) n=decide (d<n):=by
 unfold dstB
 rw [Bool.eq_iff_iff,Nat.blt_eq];simp
theorem dB_none (n:Nat):dstB none n=true:=_root_.id rfl
theorem wX_no:Qgu l .no=true:=_root_.id rfl
theorem wX_on (d:Nat) (w:Bool):Qgu l (.on d w)=isB (gx l d) w:=by rw [← Qnr];rfl
theorem Qei (i:Nat):evL l (.tmp i)=gx l i:=by rw [← Qnr];exact evL_tmp i
theorem isB_bool (b w:Bool):isB (.bool b) w=(b==w):=_root_.id rfl
theorem Qwy (d:Nat) (v:Value):Qbu (some d) v l=l.set d v:=_root_.id rfl
theorem Qwz (v:Value):Qbu none v l=l:=_root_.id rfl
theorem oR_some (v:Value):oR (some v)=.r v:=_root_.id rfl
theorem oE_some (v:Value):oE (some (v,m))=.e v m:=_root_.id rfl
theorem nil_ptr (a:Addr):Qg2 (.pointer (some a))=.r (.pointer (some a)):=_root_.id rfl
theorem Qz7 (c:Bool) (a b:Value):Qvx (.bool c) a b=.r (if c then a else b):=by cases c<;>rfl
theorem Qqj {α β : Type} (a : α) (f : α → Option β):oB (some a) f=f a:=_root_.id rfl
theorem ia_slice (t:TypeId) (k:IntKind) (z:Int) (b o:Nat) (s:Option Nat) (n c:Nat):Qeb tb t (.slice (some ⟨b,o,s⟩) n c) (.int k z)=oB (ti tb t) fun i=>match i.d with
  | .slice elem=>if 0≤z∧z.toNat<n then oB (ti tb elem) fun e=>some (.pointer (some ⟨b,o+z.toNat*e.inf.size,none⟩)) else none
  |_=>none:=by
 cases z with
 |ofNat j =>
  show Qeb tb t (.slice (some ⟨b,o,s⟩) n c) (.int k (.ofNat j))=_
  simp only [Qeb,addA,Int.ofNat_eq_natCast,Int.natCast_nonneg,Int.toNat_natCast,true_and]
  congr 1
  funext i
  obtain⟨d,inf,agg,zc,hz,fl,gd,hl⟩:=i
  cases d<;>simp only
  by_cases h:j<n
  ·have hb:Nat.blt j n=true:=by rw [Nat.blt_eq];exact h
   simp only [hb,if_pos h]
  ·have hb:Nat.blt j n=false:=by
    cases hb:Nat.blt j n with
    |false=>rfl
    |true=>rw [Nat.blt_eq] at hb;exact absurd hb h
   simp only [hb,if_neg h]
 |negSucc j =>
  have:¬ (0≤Int.negSucc j∧(Int.negSucc j).toNat<n):=by omega
  simp only [Qeb,if_neg this]
  cases ti tb t with
  |none=>rfl
  |some i=>simp only [oB];split<;>rfl
theorem ia_str (t:TypeId) (k:IntKind) (z:Int) (s:ByteArray):Qi8 tb t (.string s) (.int k z)=oB (ti tb t) fun i=>match i.d with
  | .string=>if 0≤z then (match s.data.toList[z.toNat]? with|some b=>some (.int .u8 (b.toNat:Int))|none=>none) else none
  |_=>none:=by
 cases z with
 |ofNat j =>
  simp only [Qi8,Int.ofNat_eq_natCast,Int.natCast_nonneg,Int.toNat_natCast,if_true,Qq6,Qjn]
  congr 1
  funext i
  obtain⟨d,inf,agg,zc,hz,fl,gd,hl⟩:=i
  cases d<;>rfl
 |negSucc j =>
  have:¬ (0≤Int.negSucc j):=by omega
  simp only [Qi8,if_neg this]
  cases ti tb t with
  |none=>rfl
  |some i=>simp only [oB];split<;>rfl
theorem ia_agg (t:TypeId) (k:IntKind) (z:Int) (cs:Array Value):Qi8 tb t (.agg cs) (.int k z)=oB (ti tb t) fun i=>match i.d with
  | .array len elem=>if 0≤z∧z.toNat<len then oB (ti tb elem) fun e=>Qia tb elem cs.toList (z.toNat*e.inf.size) else none
  |_=>none:=by
 cases z with
 |ofNat j =>
  simp only [Qi8,Int.ofNat_eq_natCast,Int.natCast_nonneg,Int.toNat_natCast,true_and]
  congr 1
  funext i
  obtain⟨d,inf,agg,zc,hz,fl,gd,hl⟩:=i
  cases d<;>simp only
  rename_i len elem
  by_cases h:j<len
  ·have hb:Nat.blt j len=true:=by rw [Nat.blt_eq];exact h
   simp only [hb,if_pos h]
  ·have hb:Nat.blt j len=false:=by
    cases hb:Nat.blt j len with
    |false=>rfl
    |true=>rw [Nat.blt_eq] at hb;exact absurd hb h
   simp only [hb,if_neg h]
 |negSucc j =>
  have:¬ (0≤Int.negSucc j∧(Int.negSucc j).toNat<j):=by omega
  simp only [Qi8]
  cases ti tb t with
  |none=>rfl
  |some i =>
   simp only [oB]
   split
   ·rw [if_neg (by omega)]
   ·rfl
theorem cv_int (s d:TypeId) (k:IntKind) (n:Int):Qff tb m s d (.int k n)=match ti tb s,ti tb d with
  |some _,some j=>match j.d with | .int q=>.r (.int q (q.wrap n))|_=>.bad
  |_,_=>.bad:=by
 unfold Qff
 cases ti tb s<;>cases ti tb d<;>try rfl
 rename_i i j
 obtain⟨jd,inf,agg,zc,hz,fl,gd,hl⟩:=j
 simp only
 cases jd<;>simp only [Qa3,Qdb]
theorem lo_nil (c:T Value) (i:Nat):Qg5 c [] i=[]:=_root_.id rfl
theorem lo_cons (c:T Value) (z:Value) (zs:List Value) (i:Nat):Qg5 c (z::zs) i=(match c.get i with|some v=>v|none=>z)::Qg5 c zs (i+1):=_root_.id rfl
theorem bound_eq (k:IntKind) (z:Int) (y:Nat):Qq7 (.int k z) y=if 0≤z∧z.toNat≤y then some z.toNat else none:=by
 cases z with
 |ofNat j =>
  simp only [Qq7,Int.ofNat_eq_natCast,Int.natCast_nonneg,Int.toNat_natCast,true_and]
  by_cases h:j≤y
  ·have hb:Nat.ble j y=true:=by rw [Nat.ble_eq];exact h
   simp only [hb,if_pos h]
  ·have hb:Nat.ble j y=false:=by
    cases hb:Nat.ble j y with
    |false=>rfl
    |true=>rw [Nat.ble_eq] at hb;exact absurd hb h
   simp only [hb,if_neg h]
 |negSucc j =>
  have:¬ (0≤Int.negSucc j∧(Int.negSucc j).toNat≤y):=by omega
  simp only [Qq7,if_neg this]
theorem fits_eq (a:Option Addr) (sl sc n b:Nat):Qdx (.slice a sl sc) n b=decide ((sl+n+1000)*b≤17592186044416):=by
 unfold Qdx
 rw [Bool.eq_iff_iff,Nat.ble_eq];simp
theorem Jan (t:TypeId) (a:Option Addr) (n c:Nat):lenA tb t m (.slice a n c)=oB (ti tb t) fun i=>match i.d with | .slice _=>some (.int .i64 (n:Int))|_=>none:=by
 simp only [lenA,Qa3];rfl
theorem len_str (t:TypeId) (s:ByteArray):lenA tb t m (.string s)=oB (ti tb t) fun i=>match i.d with | .string=>some (.int .i64 (s.data.toList.length:Int))|_=>none:=by
 simp only [lenA,Qa3];rfl
noncomputable def slX (tb:Tabs) (t:TypeId) (m:Mem) (x:Value) (lo hi mx:Option Value):Option Value:=Qht tb t m x lo hi mx
noncomputable def slW (tb:Tabs) (t:TypeId) (m:Mem) (b o:Nat) (s:Option Nat) (len cap:Nat) (lo hi mx:Option Value):Option TI→Option Vw→Option Value
 |some i,some V=>match i.d with
  | .slice elem=>oB (Qf5 len cap lo hi mx) fun (l,h,q)=>oB (ti tb elem) fun e=>Qp5 V.ext ⟨b,o,s⟩ mx l h q e.inf.size
  |_=>slX tb t m (.slice (some ⟨b,o,s⟩) len cap) lo hi mx
 |_,_=>slX tb t m (.slice (some ⟨b,o,s⟩) len cap) lo hi mx
theorem sl_W (t:TypeId) (b o:Nat) (s:Option Nat) (len cap:Nat) (lo hi mx:Option Value):Qht tb t m (.slice (some ⟨b,o,s⟩) len cap) lo hi mx=slW tb t m b o s len cap lo hi mx (ti tb t) (vw m b):=by
 unfold slW
 split
 ·rename_i i V hi hv
  obtain⟨r,h1,h2,h3,h4,_⟩:=Qc8 hv
  split
  ·rename_i e he
   simp only [Qht,hi,oB,he,h1,h4]
  ·rfl
 ·rfl
theorem slW_some (t:TypeId) (b o:Nat) (s:Option Nat) (len cap:Nat) (lo hi mx:Option Value) (i:TI) (V:Vw):slW tb t m b o s len cap lo hi mx (some i) (some V)=match i.d with
  | .slice elem=>oB (Qf5 len cap lo hi mx) fun (l,h,q)=>oB (ti tb elem) fun e=>Qp5 V.ext ⟨b,o,s⟩ mx l h q e.inf.size
  |_=>slX tb t m (.slice (some ⟨b,o,s⟩) len cap) lo hi mx:=_root_.id rfl
theorem sl_str (t:TypeId) (s:ByteArray) (lo hi:Option Value):Qht tb t m (.string s) lo hi none=oB (ti tb t) fun i=>match i.d with
  | .string=>slStr s lo hi
  |_=>none:=by
 simp only [Qht]
 congr 1;funext i
 obtain⟨d,inf,agg,zc,hz,fl,gd,hl⟩:=i
 cases d<;>rfl
noncomputable def fiX (m:Mem) (k n:Nat) (x:Value):Option (List Value):=Qe6 m k n x
noncomputable def fiW (m:Mem) (k n b o:Nat) (s:Option Nat) (l c:Nat):Option Vw→Option (List Value)
 |some V=>if k=0∨o+k≤V.cs.length then some (Qbv V.cs o k) else fiX m k n (.slice (some ⟨b,o,s⟩) l c)
 |none=>fiX m k n (.slice (some ⟨b,o,s⟩) l c)
theorem fi_W (k n b o:Nat) (s:Option Nat) (l c:Nat):Qe6 m k n (.slice (some ⟨b,o,s⟩) l c)=fiW m k n b o s l c (vw m b):=by
 unfold fiW
 split
 ·rename_i V hv
  split
  ·rename_i h;exact fi_slice n hv h
  ·rfl
 ·rfl
theorem fiW_some (k n b o:Nat) (s:Option Nat) (l c:Nat) (V:Vw):fiW m k n b o s l c (some V)=if k=0∨o+k≤V.cs.length then some (Qbv V.cs o k) else fiX m k n (.slice (some ⟨b,o,s⟩) l c):=_root_.id rfl
theorem fi_nil (k n l c:Nat):Qe6 m k n (.slice none l c)=some []:=by cases k<;>rfl
theorem fi_str (k n:Nat) (s:ByteArray):Qe6 m k n (.string s)=some (u8s (s.data.toList.take n)):=_root_.id rfl
noncomputable def atX (m:Mem) (e:TypeId) (sz:Nat) (x:Value) (n:Nat) (new:List Value):Option (Value × Mem):=Qbq m e sz x n new
noncomputable def Qla (m:Mem) (ob:Option Nat) (e:TypeId) (cells:List Value):Mem:=Qah (match ob with|some b=>Qas m b .dead|none=>m) (Qb1 e cells .none true)
noncomputable def atW (m:Mem) (e:TypeId) (sz b o:Nat) (s:Option Nat) (sl sc n:Nat) (new:List Value):Option Vw→Option (Value × Mem)
 |some V =>
  if sl+n≤sc then
   (if new.isEmpty=true then (if n=0 then some (.slice (some ⟨b,o,s⟩) sl sc,m) else atX m e sz (.slice (some ⟨b,o,s⟩) sl sc) n new)
    else if stOk V (o+sl*sz) new=true then some (.slice (some ⟨b,o,s⟩) (sl+n) sc,stM m b (o+sl*sz) new) else atX m e sz (.slice (some ⟨b,o,s⟩) sl sc) n new)
  else if V.ext=false∧(sl*sz=0∨o+sl*sz≤V.cs.length) then some (.slice (some ⟨m.next,0,none⟩) (sl+n) (sl+n),Qla m none e (Qbv V.cs o (sl*sz)++new))
  else if V.ext=true∧V.w=true∧s=none∧sl≤sc∧o+sc*sz=V.cs.length∧V.elem=e∧new.length=n*sz∧new.all oneC=true then
   some (.slice (some ⟨m.next,0,none⟩) (sl+n) (sl+n),Qla m (some b) e (Qbv V.cs o (sl*sz)++new))
  else atX m e sz (.slice (some ⟨b,o,s⟩) sl sc) n new
 |none=>atX m e sz (.slice (some ⟨b,o,s⟩) sl sc) n new
theorem at_W (e:TypeId) (sz b o:Nat) (s:Option Nat) (sl sc n:Nat) (new:List Value):Qbq m e sz (.slice (some ⟨b,o,s⟩) sl sc) n new=atW m e sz b o s sl sc n new (vw m b):=by
 unfold atW
 split
 ·rename_i V hv
  split
  ·rename_i h
   split
   ·rename_i hn
    obtain rfl:=List.isEmpty_iff.1 hn
    split
    ·rename_i h0;subst h0;exact Qu4 e sz h
    ·rfl
   ·rename_i hn
    split
    ·rename_i hs;exact ap_in e sz n new hv (fun e=>hn (by rw [e];rfl)) h hs
    ·rfl
  ·rename_i h
   split
   ·rename_i h2;exact ap_fix e sz n new s hv h2.1 (by omega) h2.2
   ·split
    ·rename_i h2
     obtain⟨h3,h4,rfl,h6,h7,h8,h9,h10⟩:=h2
     exact ap_grow e sz n new hv h3 h4 (by omega) h7 h8 h9 h10 h6
    ·rfl
 ·rfl
theorem Qrb (e:TypeId) (sz b o:Nat) (s:Option Nat) (sl sc n:Nat) (new:List Value) (V:Vw):atW m e sz b o s sl sc n new (some V) =
  if sl+n≤sc then
   (if new.isEmpty=true then (if n=0 then some (.slice (some ⟨b,o,s⟩) sl sc,m) else atX m e sz (.slice (some ⟨b,o,s⟩) sl sc) n new)
    else if stOk V (o+sl*sz) new=true then some (.slice (some ⟨b,o,s⟩) (sl+n) sc,stM m b (o+sl*sz) new) else atX m e sz (.slice (some ⟨b,o,s⟩) sl sc) n new)
  else if V.ext=false∧(sl*sz=0∨o+sl*sz≤V.cs.length) then some (.slice (some ⟨m.next,0,none⟩) (sl+n) (sl+n),Qla m none e (Qbv V.cs o (sl*sz)++new))
  else if V.ext=true∧V.w=true∧s=none∧sl≤sc∧o+sc*sz=V.cs.length∧V.elem=e∧new.length=n*sz∧new.all oneC=true then
   some (.slice (some ⟨m.next,0,none⟩) (sl+n) (sl+n),Qla m (some b) e (Qbv V.cs o (sl*sz)++new))
  else atX m e sz (.slice (some ⟨b,o,s⟩) sl sc) n new:=_root_.id rfl
theorem Qtb (e:TypeId) (sz n:Nat) (new:List Value):Qbq m e sz (.slice none 0 0) (n+1) new=some (.slice (some ⟨m.next,0,none⟩) (n+1) (n+1),Qla m none e new):=_root_.id rfl
theorem Qg7 (ob:Option Nat) (e:TypeId) (cells:List Value):(Qla m ob e cells).next=m.next+1:=by cases ob<;>rfl
theorem Ql8 (ob:Option Nat) (e:TypeId) (cells:List Value) (x:Nat):vw (Qla m ob e cells) x=if x=m.next then some ⟨true,e,true,cells⟩ else if some x=ob then none else vw m x:=by
 unfold Qla
 cases ob with
 |none=>simp only [Qcs,Qcj];split<;>simp_all
 |some b =>
  simp only [Qcs,Qcj,Qcc,Qyo,Kaj]
  split
  ·rfl
  ·split<;>rfl
def Old (n:Nat) (m m':Mem):Prop:=m.next≤m'.next∧∀ x,x<n→m'.objs.get x=m.objs.get x
theorem Old.refl (n:Nat) (m:Mem):Old n m m:=⟨Knr _,fun _ _=>rfl⟩
theorem Old.trans {n:Nat} {a b c:Mem} (h:Old n a b) (k:Old n b c):Old n a c:=⟨Knt h.1 k.1,fun x hx=>(k.2 x hx).trans (h.2 x hx)⟩
theorem Old.le {n k:Nat} {a b:Mem} (h:Old n a b) (hk:k≤n):Old k a b:=⟨h.1,fun x hx=>h.2 x (by omega)⟩
theorem Old.vw {n:Nat} {a b:Mem} (h:Old n a b) {x:Nat} (hx:x<n):Go.Ev.vw b x=Go.Ev.vw a x:=by unfold Go.Ev.vw;rw [h.2 x hx]
theorem Old.new {n:Nat} {a b:Mem} (h:Old n a b) (hn:n≤b.next) (o:AObj):Old n a (Qah b o):=⟨by rw [Qaf];have:=h.1;omega,fun x hx=>by rw [Qan,if_neg (by omega)];exact h.2 x hx⟩
theorem Old.put {n:Nat} {a b:Mem} (h:Old n a b) {k:Nat} (hk:n≤k) (o:AObj):Old n a (Qas b k o):=⟨h.1,fun x hx=>by rw [Qbk,if_neg (by omega)];exact h.2 x hx⟩
theorem Old.st {n:Nat} {a b:Mem} (h:Old n a b) {k:Nat} (hk:n≤k) (i:Nat) (l:List Value):Old n a (stM b k i l):=⟨by rw [Qav];exact h.1,fun x hx=>by rw [Qcu (by omega)];exact h.2 x hx⟩
theorem Old.grow {n:Nat} {a b:Mem} (h:Old n a b) (hn:n≤b.next) (e:TypeId) (cells:List Value):Old n a (Qla b none e cells):=h.new hn _
theorem Old.grow' {n:Nat} {a b:Mem} (h:Old n a b) (hn:n≤b.next) {k:Nat} (hk:n≤k) (e:TypeId) (cells:List Value):Old n a (Qla b (some k) e cells):=(h.put hk .dead).new hn _
def Own (n0:Nat) (m:Mem) (v:Value) (e:TypeId) (n:Nat) (cells:List Value):Prop :=
 (v=.slice none 0 0∧n=0∧cells=[])∨∃ b,v=.slice (some ⟨b,0,none⟩) n n∧n0≤b∧b<m.next∧vw m b=some ⟨true,e,true,cells⟩
noncomputable def rd (m:Mem) (b o:Nat):Nat→Option (List Value)
 |0=>some []
 |n+1=>oB (Qdm m b) fun r=>Qbw r (n+1) o
def SlAt (m:Mem) (v:Value) (n:Nat) (cells:List Value):Prop :=
 (v=.slice none 0 0∧n=0∧cells=[])∨∃ b o c,v=.slice (some ⟨b,o,none⟩) n c∧n≤c∧(cells=[]∨rd m b o cells.length=some cells∧b<m.next)
theorem Qis (l:List Value):Qbv l 0 l.length=l:=by simp [Qbv]
theorem Qwp (l:List Value) (o:Nat):Qbv l o 0=[]:=by simp [Qbv]
theorem takeN_c0 (x:Value) (l:List Value) (n:Nat):Qbv (x::l) 0 (n+1)=x::Qbv l 0 n:=_root_.id rfl
theorem Qh1 {l:List Value} {o n:Nat} (h:o+n≤l.length):(Qbv l o n).length=n:=by simp [Qbv];omega
theorem Qfs {l:List Value} {o n k:Nat} (h:k<n):(Qbv l o n)[k]? = l[o+k]? := by simp [Qbv,List.getElem?_take,h]
theorem Qfl:∀ l:List UInt8,(u8s l).length=l.length
 | []=>rfl
 |b::l=>by simp [u8s,Qfl l]
theorem Qfr:∀ l:List UInt8,u8s l=l.map fun b=>.int .u8 (b.toNat:Int)
 | []=>rfl
 |b::l=>by simp only [u8s,Qfr l,List.map_cons,Qq6,Qjn];rfl
theorem one_u8s (l:List UInt8):(u8s l).all oneC=true:=by rw [Qfr];simp [oneC]
def i64s (l:List Int):List Value:=l.map fun n=>.int .i64 n
theorem Qnn (l:List Int):(i64s l).length=l.length:=by simp [i64s]
theorem SlAt.shape {n:Nat} {v:Value} {cells:List Value} (h:SlAt m v n cells):∃ a c,v=.slice a n c:=by
 rcases h with ⟨rfl,rfl,_⟩|⟨b,o,c,rfl,_⟩<;>exact⟨_,_,rfl⟩
theorem Qub {b o n:Nat} {cells:List Value} (h:rd m b o n=some cells):cells.length=n∧(n≠0→∃ r,Qdm m b=some r∧Qbw r n o=some cells∧∀ k v,cells[k]? = some v→Qci r (o+k)=some v):=by
 cases n with
 |zero=>obtain rfl:=Kai h;exact⟨rfl,fun e=>absurd rfl e⟩
 |succ n =>
  simp only [rd,Qae] at h
  obtain⟨r,h1,h2⟩:=h
  obtain⟨h3,h4⟩:=Qd2 h2
  exact⟨h3,fun _=>⟨r,h1,h2,h4⟩⟩
theorem Qin {r:Row}:∀ {n o:Nat} {l:List Value},l.length=n→(∀ k v,l[k]? = some v→Qci r (o+k)=some v)→Qbw r n o=some l
 |0,o,[],_,_=>rfl
 |n+1,o,v::l,h,g=>by
  rw [Qgp,show Qci r o=some v from g 0 v rfl]
  simp only [oB]
  rw [Qin (l:=l) (by simpa using h) fun k u hu=>by rw [show o+1+k=o+(k+1) from by omega];exact g (k+1) u hu]
theorem rd_of {b o:Nat} {r:Row} {l:List Value} (h:Qdm m b=some r) (g:∀ k v,l[k]? = some v→Qci r (o+k)=some v):rd m b o l.length=some l:=by
 cases l with
 |nil=>rfl
 |cons v l=>show oB (Qdm m b) _=_;rw [h];exact Qin rfl g
theorem rd_vw {b:Nat} {V:Vw} (hv:vw m b=some V) {o k:Nat} (h:o+k≤V.cs.length):rd m b o k=some (Qbv V.cs o k):=by
 obtain⟨r,h1,h2,h3,h4,h5,h6,_⟩:=Qc8 hv
 cases k with
 |zero=>simp [rd,Qbv]
 |succ k =>
  show oB (Qdm m b) _=_
  rw [h1]
  simp only [oB]
  rw [Qb9 h6,if_pos (.inr h)]
theorem rd_old {b o n:Nat} {n0:Nat} {m':Mem} (k:Old n0 m m') (hb:b<n0):rd m' b o n=rd m b o n:=by
 cases n with
 |zero=>rfl
 |succ n=>simp only [rd,Qdm,k.2 b hb]
theorem rd_get {b o n:Nat} {m':Mem} (h:m'.objs.get b=m.objs.get b):rd m' b o n=rd m b o n:=by
 cases n with
 |zero=>rfl
 |succ n=>simp only [rd,Qdm,h]
theorem ld_rd1 {t:TypeId} {i:TI} {b o n k:Nat} {s:Option Nat} {cells:List Value} {v:Value} (hi:ti tb t=some i) (ha:i.agg=false) (h:rd m b o n=some cells) (hk:cells[k]? = some v):Qdz tb t m (.pointer (some ⟨b,o+k,s⟩))=.r v:=by
 obtain⟨h1,h2⟩:=Qub h
 have hk1:=(Kgs.1 hk).1
 obtain⟨r,h3,h4,h5⟩:=h2 (by omega)
 simp only [Qdz,loadA,hi,oB,h3,ha,h5 k v hk,oR]
theorem ld_rdA {t:TypeId} {i:TI} {b o n k:Nat} {s:Option Nat} {cells:List Value} (hi:ti tb t=some i) (ha:i.agg=true) (h:rd m b o n=some cells) (hk:k+i.inf.size≤n) (hn:n≠0):Qdz tb t m (.pointer (some ⟨b,o+k,s⟩))=.r (.agg ⟨Qbv cells k i.inf.size⟩):=by
 obtain⟨h1,h2⟩:=Qub h
 obtain⟨r,h3,h4,h5⟩:=h2 hn
 have:Qbw r i.inf.size (o+k)=some (Qbv cells k i.inf.size):=Qin (by simp [Qbv];omega) fun j v hj=>by
  have hj2:j<i.inf.size:=by have:=(Kgs.1 hj).1;simp [Qbv] at this;omega
  rw [Qbv,List.getElem?_take,if_pos hj2,List.getElem?_drop] at hj
  rw [show o+k+j=o+(k+j) from by omega];exact h5 _ _ hj
 simp only [Qdz,loadA,hi,oB,h3,ha,this,oR]
theorem SlAt.first {n k:Nat} {v:Value} {cells:List Value} (h:SlAt m v n cells) (hk:cells.length=k) (j:Nat):Qe6 m k j v=some cells:=by
 subst hk
 rcases h with ⟨rfl,h1,h2⟩|⟨b,o,c,rfl,h1,rfl|⟨h2,h3⟩⟩
 ·rw [h2,fi_nil]
 ·rfl
 ·cases cells with
  |nil=>rfl
  |cons x l=>exact h2
theorem SlAt.old {n:Nat} {v:Value} {cells:List Value} {m':Mem} (h:SlAt m v n cells) (k:Old m.next m m'):SlAt m' v n cells:=by
 rcases h with h|⟨b,o,c,rfl,h1,h2|⟨h2,h3⟩⟩
 ·exact .inl h
 ·exact .inr ⟨b,o,c,rfl,h1,.inl h2⟩
 ·exact .inr ⟨b,o,c,rfl,h1,.inr ⟨by rw [rd_old k h3];exact h2,Nat.lt_of_lt_of_le h3 k.1⟩⟩
def SlOld (n0:Nat) (m:Mem) (v:Value) (n:Nat) (cells:List Value):Prop :=
 (v=.slice none 0 0∧n=0∧cells=[])∨∃ b o c,v=.slice (some ⟨b,o,none⟩) n c∧n≤c∧(cells=[]∨rd m b o cells.length=some cells∧b<n0)
theorem SlOld.at {n0 n:Nat} {v:Value} {cells:List Value} (h:SlOld n0 m v n cells) (hn:n0≤m.next):SlAt m v n cells:=by
 rcases h with h|⟨b,o,c,rfl,h1,h2|⟨h2,h3⟩⟩
 ·exact .inl h
 ·exact .inr ⟨b,o,c,rfl,h1,.inl h2⟩
 ·exact .inr ⟨b,o,c,rfl,h1,.inr ⟨h2,Nat.lt_of_lt_of_le h3 hn⟩⟩
theorem SlOld.old {n0 n:Nat} {v:Value} {cells:List Value} {m':Mem} (h:SlOld n0 m v n cells) (k:Old n0 m m'):SlOld n0 m' v n cells:=by
 rcases h with h|⟨b,o,c,rfl,h1,h2|⟨h2,h3⟩⟩
 ·exact .inl h
 ·exact .inr ⟨b,o,c,rfl,h1,.inl h2⟩
 ·exact .inr ⟨b,o,c,rfl,h1,.inr ⟨by rw [rd_old k h3];exact h2,h3⟩⟩
theorem SlAt.load {n k:Nat} {v w:Value} {cells:List Value} (h:SlAt m v n cells) (hk:cells[k]? = some w):∃ b o c,v=.slice (some ⟨b,o,none⟩) n c∧n≤c∧b<m.next∧rd m b o cells.length=some cells∧∀ {t:TypeId} {i:TI} {s:Option Nat},ti tb t=some i→i.agg=false→Qdz tb t m (.pointer (some ⟨b,o+k,s⟩))=.r w:=by
 have hk1:=(Kgs.1 hk).1
 rcases h with ⟨rfl,h1,rfl⟩|⟨b,o,c,rfl,h1,rfl|⟨h2,h3⟩⟩
 ·simp at hk1
 ·simp at hk1
 ·exact⟨b,o,c,rfl,h1,h3,h2,fun hi ha=>ld_rd1 hi ha h2 hk⟩
theorem SlAt.loadA {n k sz:Nat} {v:Value} {cells:List Value} (h:SlAt m v n cells) (hk:k+sz≤cells.length) (hs:0<sz):∃ b o c,v=.slice (some ⟨b,o,none⟩) n c∧n≤c∧b<m.next∧rd m b o cells.length=some cells∧∀ {t:TypeId} {i:TI} {s:Option Nat},ti tb t=some i→i.agg=true→i.inf.size=sz→Qdz tb t m (.pointer (some ⟨b,o+k,s⟩))=.r (.agg ⟨Qbv cells k sz⟩):=by
 rcases h with ⟨rfl,h1,rfl⟩|⟨b,o,c,rfl,h1,rfl|⟨h2,h3⟩⟩
 ·simp at hk;omega
 ·simp at hk;omega
 ·exact⟨b,o,c,rfl,h1,h3,h2,fun hi ha he=>by subst he;exact ld_rdA hi ha h2 hk (by omega)⟩
theorem Qce (a:Option Addr) (sl sc n b:Nat) (h:(sl+n+1000)*b≤17592186044416):Qdx (.slice a sl sc) n b=true:=by rw [fits_eq];simpa using h
theorem Qal {os:List SOp} (h:∀ Q',Q'=Q→wpR tb F Q' os l ds m):wpX tb F (.reg os) l ds m Q:=xreg (h Q rfl)
theorem Qb0 {a b:SCode} {PS:List Value→List Deferred→Mem→Prop} (h:wpX tb F a l ds m (fun e l' ds' m'=>e=.normal∧PS l' ds' m')) (g:∀ l' ds' m',PS l' ds' m'→wpX tb F b l' ds' m' Q):wpX tb F (.seq a b) l ds m Q :=
 xseq (h.mono fun e l' ds' m' ⟨h1,h2⟩=>by subst h1;exact g _ _ _ h2)
theorem Qtn {a b:SCode} {PS PR:List Value→List Deferred→Mem→Prop} (h:wpX tb F a l ds m (fun e l' ds' m'=>(e=.normal∧PS l' ds' m')∨(e=.jump .ret∧PR l' ds' m'))) (g:∀ l' ds' m',PS l' ds' m'→wpX tb F b l' ds' m' Q) (r:∀ l' ds' m',PR l' ds' m'→Q (.jump .ret) l' ds' m'):wpX tb F (.seq a b) l ds m Q :=
 xseq (h.mono fun e l' ds' m' h=>by
  rcases h with ⟨rfl,h⟩|⟨rfl,h⟩
  ·exact g _ _ _ h
  ·exact r _ _ _ h)
def Inv (I:Nat→List Value→List Deferred→Mem→Prop) (n:Nat) (l:List Value) (ds:List Deferred) (m:Mem):Prop:=∃ k,k<n∧I k l ds m
theorem Qem {b:SCode} {I:Nat→List Value→List Deferred→Mem→Prop} {N:Nat} (h0:I N l ds m) (hr:∀ n l ds m,I n l ds m→wpX tb F b l ds m (Qhx (Inv I n) Q)):wpX tb F (.loop b) l ds m Q :=
 xloop h0 fun n l ds m h=>hr n l ds m h
theorem xif {a b:SCode} {c:Operand} {v:Bool} (hc:evL l c=.bool v) (ht:v=true→wpX tb F a l ds m Q) (hf:v=false→wpX tb F b l ds m Q):wpX tb F (.cond c a b) l ds m Q :=
 xcond hc (by cases v with|true=>exact ht rfl|false=>exact hf rfl)
theorem xno {a b:SCode} {c:Operand} (hc:evL l c=.bool false) (h:wpX tb F b l ds m Q):wpX tb F (.cond c a b) l ds m Q:=xif (v:=false) hc (fun h=>by cases h) (fun _=>h)
theorem xyes {a b:SCode} {c:Operand} (hc:evL l c=.bool true) (h:wpX tb F a l ds m Q):wpX tb F (.cond c a b) l ds m Q:=xif (v:=true) hc (fun _=>h) (fun h=>by cases h)
theorem xsr {os:List SOp} {b:SCode} (h:∀ Q',Q'=Qhx (fun l ds m=>wpX tb F b l ds m Q) Q→wpR tb F Q' os l ds m):wpX tb F (.seq (.reg os) b) l ds m Q:=xseq (Qal h)
noncomputable def vwX (o:AObj):Option Vw:=vwO o
def updL (V:Option Vw) (o:Nat) (l:List Value):Option Vw:=match V with|some V=>some ⟨V.w,V.elem,V.ext,spl V.cs o l⟩|none=>none
theorem Qyr (w:Bool) (e:TypeId) (x:Bool) (cs l:List Value) (o:Nat):updL (some ⟨w,e,x,cs⟩) o l=some ⟨w,e,x,spl cs o l⟩:=_root_.id rfl
theorem vwO_lf (n:Nat) (z:List Value) (e:TypeId) (x:Bool):vwO (.row ⟨.lf,n,z,e,.none,x⟩)=if n=(n / z.length)*z.length then some ⟨true,e,x,repl z (n / z.length)⟩ else vwX (.row ⟨.lf,n,z,e,.none,x⟩):=by
 split
 ·rename_i h
  have:=Qow true e z (n / z.length) x
  rw [← h] at this
  exact this
 ·rfl
theorem vwO_setL (l:List Value) (o:Nat) (c:T Value) (n:Nat) (z:List Value) (e:TypeId) (x:Bool) (hl:o+l.length≤n) (hs:(vwO (.row ⟨c,n,z,e,.none,x⟩)).isSome=true) :
  vwO (.row ⟨T.setL l o c,n,z,e,.none,x⟩)=updL (vwO (.row ⟨c,n,z,e,.none,x⟩)) o l:=by
 cases h:vwO (.row ⟨c,n,z,e,.none,x⟩) with
 |none=>rw [h] at hs;cases hs
 |some V =>
  have h':Qjc true ⟨c,n,z,e,.none,x⟩=some V:=h
  have:=Qwl h' hl
  obtain⟨h0,h1,h2,h3,h4,h5⟩:=Qgv h'
  refine (show vwO (.row ⟨T.setL l o c,n,z,e,.none,x⟩)=Qjc true ⟨T.setL l o c,n,z,e,.none,x⟩ from rfl).trans ?_
  rw [this]
  simp only [updL]
  simp only at h2 h3
  rw [h0,h2,h3]
def blkV:Value→Option Nat
 | .slice (some a) _ _=>some a.block
 |_=>none
def Keep (ob:Option Nat) (m m':Mem):Prop:=m.next≤m'.next∧∀ x,x<m.next→ob≠some x→m'.objs.get x=m.objs.get x
theorem Keep.vw {ob:Option Nat} {a b:Mem} (h:Keep ob a b) {x:Nat} (hx:x<a.next) (hb:ob≠some x):Go.Ev.vw b x=Go.Ev.vw a x:=by unfold Go.Ev.vw;rw [h.2 x hx hb]
theorem Ja6 (ob:Option Nat) (e:TypeId) (cells:List Value) {x:Nat} (hx:x<m.next) (hb:ob≠some x):(Qla m ob e cells).objs.get x=m.objs.get x:=by
 unfold Qla
 rw [Qan]
 cases ob with
 |none=>exact if_neg (by simp only;omega)
 |some b =>
  refine (if_neg (by simp only [Qcc];omega)).trans ?_
  simp only
  rw [Qbk,if_neg (by intro e;exact hb (by rw [e]))]
theorem Qi1 (ob:Option Nat) (e:TypeId) (cells:List Value):Keep ob m (Qla m ob e cells):=⟨by rw [Qg7];omega,fun x hx hb=>Ja6 _ _ _ hx hb⟩
theorem Own.shape {n0 n:Nat} {v:Value} {e:TypeId} {cells:List Value} (h:Own n0 m v e n cells):∃ a,v=.slice a n n:=by
 rcases h with ⟨rfl,rfl,_⟩|⟨b,rfl,_⟩<;>exact⟨_,rfl⟩
theorem Own.at {n0 n:Nat} {v:Value} {e:TypeId} {cells:List Value} (h:Own n0 m v e n cells):SlAt m v n cells:=by
 rcases h with h|⟨b,rfl,h1,h2,h3⟩
 ·exact .inl h
 ·refine .inr ⟨b,0,n,rfl,Knr _,.inr ⟨?_,h2⟩⟩
  have:=rd_vw h3 (o:=0) (k:=cells.length) (by simp)
  rw [this];simp [Qbv]
theorem Own.append {n0 n k sz:Nat} {v:Value} {e:TypeId} {cells new:List Value} {m1:Mem} (h:Own n0 m v e n cells) (hm:Old m.next m m1) (hle:n0≤m.next) (hc:cells.length=n*sz) (hn:new.length=(k+1)*sz) (ho:new.all oneC=true) :
  ∃ v' m',Qbq m1 e sz v (k+1) new=some (v',m')∧Own n0 m' v' e (n+(k+1)) (cells++new)∧Keep (blkV v) m1 m'∧Old n0 m1 m'∧(∃ b,v'=.slice (some ⟨b,0,none⟩) (n+(k+1)) (n+(k+1))∧m1.next≤b):=by
 have h0:=hm.1
 rcases h with ⟨rfl,rfl,rfl⟩|⟨b,rfl,h1,h2,h3⟩
 ·refine⟨_,_,Qtb _ _ _ _,.inr ⟨m1.next,?_,?_,?_,?_⟩,Qi1 _ _ _,(Old.refl _ _).grow (by omega) _ _,⟨_,by rw [Nat.zero_add],Knr _⟩⟩
  ·rw [Nat.zero_add]
  ·omega
  ·rw [Qg7];omega
  ·rw [Ql8,if_pos rfl];rfl
 ·have h4:vw m1 b=some ⟨true,e,true,cells⟩:=by rw [hm.vw h2];exact h3
  have e1:=at_W (m:=m1) e sz b 0 none n n (k+1) new
  rw [h4,Qrb,if_neg (by omega),if_neg (by simp),if_pos ⟨rfl,rfl,rfl,Knr _,by simp [hc],rfl,hn,ho⟩] at e1
  refine⟨_,_,e1,.inr ⟨m1.next,rfl,by omega,by rw [Qg7];omega,?_⟩,Qi1 _ _ _,(Old.refl _ _).grow' (by omega) h1 _ _,⟨_,rfl,Knr _⟩⟩
  rw [Ql8,if_pos rfl]
  simp only
  rw [← hc,Qis]
theorem ble_d (a b:Nat):Nat.ble a b=decide (a≤b):=by rw [Bool.eq_iff_iff,Nat.ble_eq];simp
theorem blt_d (a b:Nat):Nat.blt a b=decide (a<b):=by rw [Bool.eq_iff_iff,Nat.blt_eq];simp
theorem beq_d (a b:Nat):Nat.beq a b=decide (a=b):=by rw [Bool.eq_iff_iff,Nat.beq_eq];simp
theorem Qyt (l:List UInt8) (k:Nat):(u8s l)[k]? = (l[k]?).map fun b=>.int .u8 (b.toNat:Int):=by rw [Qfr];simp
theorem Qv3 (l:List Int) (k:Nat):(i64s l)[k]? = (l[k]?).map fun b=>.int .i64 b:=by simp [i64s]
end
end Go.Ev

