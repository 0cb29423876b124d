/- A part of a proof: ScriptOwn. -/
import GoSem.Step
set_option linter.unusedVariables false
set_option linter.unusedSimpArgs false
namespace Go.Ev
inductive T (α : Type) where
 |lf
 |nd (l:T α) (v:Option α) (r:T α)
theorem beqF {a b:Nat} (h:¬ a=b):Nat.beq a b=false:=by
 cases hb:Nat.beq a b with
 |false=>rfl
 |true=>exact absurd (Nat.eq_of_beq_eq_true hb) h
namespace T
variable {α : Type}
noncomputable def get (t:T α):Nat→Option α :=
 T.rec (motive:=fun _=>Nat→Option α) (fun _=>none)
  (fun _ v _ gl gr n=>Nat.rec (motive:=fun _=>Option α) v (fun n _=>Bool.rec (motive:=fun _=>Option α) (gr (Nat.div n 2)) (gl (Nat.div n 2)) (Nat.beq (Nat.mod n 2) 0)) n) t
noncomputable def mkl (l:T α) (v:Option α) (r:T α):T α :=
 T.rec (motive:=fun _=>T α) (.nd .lf v r) (fun a b c _ _=>.nd (.nd a b c) v r) l
noncomputable def mkr (l:T α) (v:Option α) (r:T α):T α :=
 T.rec (motive:=fun _=>T α) (.nd l v .lf) (fun a b c _ _=>.nd l v (.nd a b c)) r
theorem mkl_eq (l:T α) (v:Option α) (r:T α):mkl l v r=.nd l v r:=by cases l<;>rfl
theorem mkr_eq (l:T α) (v:Option α) (r:T α):mkr l v r=.nd l v r:=by cases r<;>rfl
noncomputable def one (x:Option α) (f:Nat):Nat→T α :=
 Nat.rec (motive:=fun _=>Nat→T α) (fun _=>.lf)
  (fun _ ih n=>Nat.rec (motive:=fun _=>T α) (.nd .lf x .lf) (fun n _=>Bool.rec (motive:=fun _=>T α) (mkr .lf none (ih (Nat.div n 2))) (mkl (ih (Nat.div n 2)) none .lf) (Nat.beq (Nat.mod n 2) 0)) n) f
noncomputable def put (t:T α) (x:Option α):Nat→T α :=
 T.rec (motive:=fun _=>Nat→T α) (fun n=>one x (n+1) n)
  (fun l v r pl pr n=>Nat.rec (motive:=fun _=>T α) (.nd l x r) (fun n _=>Bool.rec (motive:=fun _=>T α) (mkr l v (pr (Nat.div n 2))) (mkl (pl (Nat.div n 2)) v r) (Nat.beq (Nat.mod n 2) 0)) n) t
noncomputable def set (t:T α) (n:Nat) (x : α):T α := put t (some x) n
theorem get_lf (n:Nat):get (.lf:T α) n=none:=rfl
theorem get_zero (l:T α) (v:Option α) (r:T α):get (.nd l v r) 0=v:=rfl
theorem get_succ (l:T α) (v:Option α) (r:T α) (n:Nat):get (.nd l v r) (n+1)=if n%2=0 then get l (n / 2) else get r (n / 2):=by
 show Bool.rec (motive:=fun _=>Option α) (get r (n / 2)) (get l (n / 2)) (Nat.beq (n%2) 0)=_
 by_cases h:n%2=0
 ·rw [if_pos h,h];rfl
 ·rw [if_neg h,beqF h]
theorem one_zero (x:Option α) (f:Nat):one x (f+1) 0=.nd .lf x .lf:=rfl
theorem one_succ (x:Option α) (f n:Nat):one x (f+1) (n+1)=if n%2=0 then .nd (one x f (n / 2)) none .lf else .nd .lf none (one x f (n / 2)):=by
 show Bool.rec (motive:=fun _=>T α) (mkr .lf none (one x f (n / 2))) (mkl (one x f (n / 2)) none .lf) (Nat.beq (n%2) 0)=_
 by_cases h:n%2=0
 ·rw [if_pos h,h,← mkl_eq];rfl
 ·rw [if_neg h,beqF h,← mkr_eq]
theorem put_lf (x:Option α) (n:Nat):put (.lf:T α) x n=one x (n+1) n:=rfl
theorem put_zero (l:T α) (v:Option α) (r:T α) (x:Option α):put (.nd l v r) x 0=.nd l x r:=rfl
theorem put_succ (l:T α) (v:Option α) (r:T α) (x:Option α) (n:Nat):put (.nd l v r) x (n+1)=if n%2=0 then .nd (put l x (n / 2)) v r else .nd l v (put r x (n / 2)):=by
 show Bool.rec (motive:=fun _=>T α) (mkr l v (put r x (n / 2))) (mkl (put l x (n / 2)) v r) (Nat.beq (n%2) 0)=_
 by_cases h:n%2=0
 ·rw [if_pos h,h,← mkl_eq];rfl
 ·rw [if_neg h,beqF h,← mkr_eq]
theorem get_one (x:Option α):∀ (f n k:Nat),n<f→get (one x f n) k=if k=n then x else none:=by
 intro f
 induction f with
 |zero=>intro n k h;omega
 |succ f ih =>
  intro n k h
  cases n with
  |zero =>
   rw [one_zero]
   cases k with
   |zero=>simp [get_zero]
   |succ k=>rw [get_succ];simp [get_lf]
  |succ n =>
   rw [one_succ]
   cases k with
   |zero=>split<;>simp [get_zero]
   |succ k =>
    by_cases hn:n%2=0
    ·rw [if_pos hn,get_succ]
     by_cases hk:k%2=0
     ·rw [if_pos hk,ih _ _ (by omega)]
      by_cases e:k=n
      ·subst e;simp
      ·rw [if_neg (by omega),if_neg (by omega)]
     ·rw [if_neg hk,get_lf,if_neg (by intro e;have:k=n:=(by omega);subst this;exact hk hn)]
    ·rw [if_neg hn,get_succ]
     by_cases hk:k%2=0
     ·rw [if_pos hk,get_lf,if_neg (by intro e;have:k=n:=(by omega);subst this;exact hn hk)]
     ·rw [if_neg hk,ih _ _ (by omega)]
      by_cases e:k=n
      ·subst e;simp
      ·rw [if_neg (by omega),if_neg (by omega)]
theorem get_put (t:T α) (x:Option α):∀ (n k:Nat),get (put t x n) k=if k=n then x else get t k:=by
 induction t with
 |lf=>intro n k;rw [put_lf,get_one _ _ _ _ (by omega),get_lf]
 |nd l v r ihl ihr =>
  intro n k
  cases n with
  |zero =>
   rw [put_zero]
   cases k with
   |zero=>simp [get_zero]
   |succ k=>rw [get_succ,get_succ];simp
  |succ n =>
   rw [put_succ]
   cases k with
   |zero=>split<;>simp [get_zero]
   |succ k =>
    by_cases hn:n%2=0
    ·rw [if_pos hn,get_succ,get_succ]
     by_cases hk:k%2=0
     ·rw [if_pos hk,if_pos hk,ihl]
      by_cases e:k=n
      ·subst e;simp
      ·rw [if_neg (by omega),if_neg (by omega)]
     ·rw [if_neg hk,if_neg hk,if_neg (by intro e;have:k=n:=(by omega);subst this;exact hk hn)]
    ·rw [if_neg hn,get_succ,get_succ]
     by_cases hk:k%2=0
     ·rw [if_pos hk,if_pos hk,if_neg (by intro e;have:k=n:=(by omega);subst this;exact hn hk)]
     ·rw [if_neg hk,if_neg hk,ihr]
      by_cases e:k=n
      ·subst e;simp
      ·rw [if_neg (by omega),if_neg (by omega)]
theorem get_set (t:T α) (n:Nat) (x : α) (k:Nat):get (set t n x) k=if k=n then some x else get t k:=get_put t (some x) n k
noncomputable def setL (l:List α):Nat→T α → T α :=
 List.rec (motive:=fun _=>Nat→T α → T α) (fun _ t=>t) (fun x _ ih n t=>T.casesOn (motive:=fun _=>T α) (set t n x) (ih (n+1) .lf) (fun a b c=>ih (n+1) (.nd a b c))) l
theorem setL_nil (n:Nat) (t:T α):setL [] n t=t:=rfl
theorem setL_cons (x : α) (l:List α) (n:Nat) (t:T α):setL (x::l) n t=setL l (n+1) (set t n x):=by
 show T.casesOn (motive:=fun _=>T α) (set t n x) (setL l (n+1) .lf) (fun a b c=>setL l (n+1) (.nd a b c))=_
 cases set t n x<;>rfl
theorem get_setL (l:List α):∀ (n:Nat) (t:T α) (k:Nat),get (setL l n t) k=if k<n then get t k else if k<n+l.length then l[k-n]? else get t k:=by
 induction l with
 |nil=>intro n t k;rw [setL_nil];simp;intros;omega
 |cons x l ih =>
  intro n t k
  rw [setL_cons,ih,get_set]
  by_cases h1:k<n
  ·rw [if_pos (by omega),if_neg (by omega),if_pos h1]
  ·rw [if_neg h1]
   by_cases h2:k=n
   ·subst h2
    rw [if_pos (by omega),if_pos rfl,if_pos (by simp)];simp
   ·rw [if_neg (by omega:¬ k<n+1)]
    by_cases h3:k<n+1+l.length
    ·rw [if_pos h3,if_pos (by simp;omega)]
     obtain⟨j,hj⟩:∃ j,k-n=j+1:=⟨k-n-1,by omega⟩
     rw [hj,show k-(n+1)=j from by omega];simp
    ·rw [if_neg h3,if_neg h2,if_neg (by simp only [List.length_cons];omega)]
noncomputable def ofList (l:List α):T α := setL l 0 .lf
theorem get_ofList (l:List α) (k:Nat):get (ofList l) k=l[k]? := by
 unfold ofList
 rw [get_setL]
 by_cases h:k<l.length
 ·rw [if_neg (by omega),if_pos (by omega)];simp
 ·rw [if_neg (by omega),if_neg (by omega),get_lf,List.getElem?_eq_none (by omega)]
end T
end Go.Ev

namespace Go.Ev
def oB {α β : Type} (x:Option α) (f : α → Option β):Option β :=
 match x with
 |some a=>f a
 |none=>none
theorem oB_some {α β : Type} {x:Option α} {f : α → Option β} {b : β}:oB x f=some b↔∃ a,x=some a∧f a=some b:=by
 cases x<;>simp [oB]
def fNat {α : Type} (n:Nat) (k:Nat → α) : α :=
 match n with
 |0=>k 0
 |m+1=>k (m+1)
theorem fNat_eq {α : Type} (n:Nat) (k:Nat → α):fNat n k=k n:=by cases n<;>rfl
def fInt {α : Type} (n:Int) (k:Int → α) : α :=
 match n with
 | .ofNat n=>fNat n fun n=>k (.ofNat n)
 | .negSucc n=>fNat n fun n=>k (.negSucc n)
theorem fInt_eq {α : Type} (n:Int) (k:Int → α):fInt n k=k n:=by cases n<;>simp [fInt,fNat_eq]
def kEq:IntKind→IntKind→Bool
 | .i8,.i8=>true | .i16,.i16=>true | .i32,.i32=>true | .i64,.i64=>true
 | .u8,.u8=>true | .u16,.u16=>true | .u32,.u32=>true | .u64,.u64=>true
 |_,_=>false
def intEq:Int→Int→Bool
 | .ofNat a,.ofNat b=>Nat.beq a b
 | .negSucc a,.negSucc b=>Nat.beq a b
 |_,_=>false
def intLt:Int→Int→Bool
 | .ofNat a,.ofNat b=>Nat.blt a b
 | .negSucc _,.ofNat _=>true
 | .negSucc a,.negSucc b=>Nat.blt b a
 | .ofNat _,.negSucc _=>false
def addI:Int→Int→Int
 | .ofNat a,.ofNat b=>.ofNat (a+b)
 |x,y=>x+y
def subI:Int→Int→Int
 | .ofNat a,.ofNat b=>match Nat.ble b a with|true=>.ofNat (a-b)|false=>.negSucc (b-a-1)
 |x,y=>x-y
def mulI:Int→Int→Int
 | .ofNat a,.ofNat b=>.ofNat (a*b)
 |x,y=>x*y
def quoI:Int→Int→Option Int
 | .ofNat a,.ofNat (b+1)=>some (.ofNat (a / (b+1)))
 |_,.ofNat 0=>none
 |x,y=>some (x.tdiv y)
def remI:Int→Int→Option Int
 | .ofNat a,.ofNat (b+1)=>some (.ofNat (a%(b+1)))
 |_,.ofNat 0=>none
 |x,y=>some (x.tmod y)
def wrapN (k:IntKind) (m:Nat):Int :=
 match k with
 | .i64=>match Nat.blt m 9223372036854775808 with|true=>.ofNat m|false=>IntKind.wrap .i64 (.ofNat m)
 | .i32=>match Nat.blt m 2147483648 with|true=>.ofNat m|false=>IntKind.wrap .i32 (.ofNat m)
 | .i16=>match Nat.blt m 32768 with|true=>.ofNat m|false=>IntKind.wrap .i16 (.ofNat m)
 | .i8=>match Nat.blt m 128 with|true=>.ofNat m|false=>IntKind.wrap .i8 (.ofNat m)
 | .u64=>.ofNat (m%18446744073709551616)
 | .u32=>.ofNat (m%4294967296)
 | .u16=>.ofNat (m%65536)
 | .u8=>.ofNat (m%256)
def wrapF (k:IntKind) (n:Int):Int :=
 match n with
 | .ofNat m=>wrapN k m
 | .negSucc m=>match k with
   | .i64=>match Nat.blt m 9223372036854775808 with|true=>.negSucc m|false=>IntKind.wrap .i64 (.negSucc m)
   | .u64=>.ofNat (18446744073709551615-m%18446744073709551616)
   |k=>IntKind.wrap k (.negSucc m)
def vInt (k:IntKind) (n:Int):Value:=fInt n fun n=>.int k n
def bitsI (op:BinOp) (k:IntKind) (x y:Int):Option Int :=
 match op with
 | .and=>some (k.wrap (BitVec.ofInt k.bits x &&& BitVec.ofInt k.bits y).toNat)
 | .or=>some (k.wrap (BitVec.ofInt k.bits x ||| BitVec.ofInt k.bits y).toNat)
 | .xor=>some (k.wrap (BitVec.ofInt k.bits x ^^^ BitVec.ofInt k.bits y).toNat)
 | .andNot=>some (k.wrap (BitVec.ofInt k.bits x &&& ~~~ BitVec.ofInt k.bits y).toNat)
 |_=>none
def bitsF (op:BinOp) (k:IntKind) (x y:Int):Option Int :=
 match x,y with
 | .ofNat a,.ofNat b =>
   match op with
   | .and=>some (wrapN k (Nat.land a b))
   | .or=>some (wrapN k (Nat.lor a b))
   | .xor=>some (wrapN k (Nat.xor a b))
   |op=>bitsI op k (.ofNat a) (.ofNat b)
 |x,y=>bitsI op k x y
def oI (k:IntKind) (x:Option Int):Option Value:=match x with|some n=>some (vInt k n)|none=>none
def intOp (op:BinOp) (k:IntKind) (x y:Int):Option Value :=
 match op with
 | .add=>some (vInt k (wrapF k (addI x y)))
 | .sub=>some (vInt k (wrapF k (subI x y)))
 | .mul=>some (vInt k (wrapF k (mulI x y)))
 | .quo=>oB (quoI x y) fun r=>some (vInt k (wrapF k r))
 | .rem=>oI k (remI x y)
 | .eql=>some (.bool (intEq x y))
 | .neq=>some (.bool (!intEq x y))
 | .lss=>some (.bool (intLt x y))
 | .leq=>some (.bool (!intLt y x))
 | .gtr=>some (.bool (intLt y x))
 | .geq=>some (.bool (!intLt x y))
 |op=>oI k (bitsF op k x y)
def shiftOp (op:BinOp) (k:IntKind) (x y:Int):Option Value :=
 match y with
 | .negSucc _=>none
 | .ofNat y =>
   match op,x with
   | .shl,.ofNat a=>some (vInt k (wrapN k (Nat.shiftLeft a (Nat.min y k.bits))))
   | .shr,.ofNat a=>some (vInt k (.ofNat (Nat.shiftRight a (Nat.min y k.bits))))
   | .shl,x=>some (vInt k (k.wrap (x*2 ^ Nat.min y k.bits)))
   | .shr,x=>some (vInt k (x.fdiv (2 ^ Nat.min y k.bits)))
   |_,_=>none
def bytesEq:List UInt8→List UInt8→Bool
 | [],[]=>true
 |a::x,b::y=>match Nat.beq a.toNat b.toNat with|true=>bytesEq x y|false=>false
 |_,_=>false
def strOp (op:BinOp) (a b:ByteArray):Option Value :=
 match op with
 | .add=>match Nat.ble (a.data.toList.length+b.data.toList.length) 9223372036854775807 with
   |true=>some (.string ⟨⟨a.data.toList++b.data.toList⟩⟩)
   |false=>none
 | .eql=>some (.bool (bytesEq a.data.toList b.data.toList))
 | .neq=>some (.bool (!bytesEq a.data.toList b.data.toList))
 | .lss=>some (.bool (Op.bytesLess a.data.toList b.data.toList))
 | .leq=>some (.bool (Op.bytesLess a.data.toList b.data.toList||bytesEq a.data.toList b.data.toList))
 | .gtr=>some (.bool (!(Op.bytesLess a.data.toList b.data.toList||bytesEq a.data.toList b.data.toList)))
 | .geq=>some (.bool (!Op.bytesLess a.data.toList b.data.toList))
 |_=>none
structure TI where
 d:TypeDesc
 inf:TypeInfo
 agg:Bool
 zc:List Value
 hasZ:Bool
 flds:List (Nat × Nat × TypeId × Bool)
 guard:Bool
 held:Bool
def isAggD:TypeDesc→Bool
 | .struct _=>true
 | .array _ _=>true
 |_=>false
def cellsOfV:Value→List Value
 | .agg cs=>cs.toList
 |v=>[v]
def flatV:Value→Bool
 | .bool _=>true
 | .int _ _=>true
 | .string _=>true
 | .pointer none=>true
 | .slice none _ _=>true
 | .map none=>true
 | .nilFunc=>true
 | .nilIface=>true
 |_=>false
def hasZ0 (P:Program) (i:TypeInfo) (d:TypeDesc):Bool :=
 match i.zero with
 |some z=>(cellsOfV z).all flatV&&Nat.beq (cellsOfV z).length i.size&&(match d with | .struct fs=>fs.toList.all fun f=>(P.info? f.type).isSome|_=>true)
 |none=>false
def mkTI (P:Program) (t:TypeId):Option TI :=
 match P.info? t,P.underlying t with
 |some i,some d=>some {
   d,inf:=i,agg:=isAggD d
   zc:=match i.zero with|some z=>cellsOfV z|none=>[]
   hasZ:=hasZ0 P i d
   flds:=match d with
    | .struct fs=>fs.toList.map fun f=>(f.offset,P.cellsOf f.type,f.type,f.name == "_")
    |_=>[]
   guard:=P.eqGuardType P.depth t
   held:=P.stoodInHeld t }
 |_,_=>none
def zeroV (i:TI):Option Value :=
 match i.hasZ with
 |true=>i.inf.zero
 |false=>none
inductive Fz where
 |none
 |str
 |rng (lo hi:Nat)
structure Row where
 ov:T Value
 n:Nat
 z:List Value
 elem:TypeId
 fz:Fz
 ext:Bool
inductive AObj where
 |row (r:Row)
 |glob (r:Row)
 |map (es:List MapEntry) (clock:Nat)
 |strIter (s:ByteArray) (pos:Nat) (rest:List UInt8)
 |mapIter (mp:Option Nat) (since:Nat) (seen:List Nat) (stepped:Nat)
 |loop (st:LoopState) (pe:Option Code) (fn:FuncId) (tmps:T Value) (nt:Nat) (ps:List Tmp) (a b:Code) (ds:Nat)
 |dfr (calls:Option (List Deferred))
 |dead
structure Mem where
 objs:T AObj
 next:Nat
structure Tabs where
 p:Program
 types:T (Option TI)
 funcs:T Func
 ov:T (List Value→Mem→Option (Value × Mem))
 g:Nat
noncomputable def mkTabs (P:Program) (g:Nat) (ov:T (List Value→Mem→Option (Value × Mem))):Tabs :=
 { p:=P,types:=T.ofList ((List.range P.types.size).map (mkTI P)),funcs:=T.ofList P.funcs.toList,ov,g }
section
variable (tb:Tabs)
noncomputable def ti (t:TypeId):Option TI :=
 match tb.types.get t with
 |some x=>x
 |none=>none
noncomputable def putObj (m:Mem) (b:Nat) (o:AObj):Mem:=match m with|⟨objs,next⟩=>⟨objs.set b o,next⟩
noncomputable def newObjA (m:Mem) (o:AObj):Mem:=match m with|⟨objs,next⟩=>⟨objs.set next o,next+1⟩
noncomputable def rowOf (m:Mem) (b:Nat):Option Row :=
 match m.objs.get b with
 |some (.row r)=>some r
 |some (.glob r)=>some r
 |_=>none
noncomputable def rowW (m:Mem) (b:Nat):Option Row :=
 match m.objs.get b with
 |some (.row r)=>some r
 |_=>none
noncomputable def cellAt (r:Row) (i:Nat):Option Value :=
 match r with
 | ⟨ov,n,z,_,_,_⟩ =>
   match Nat.blt i n with
   |true=>match ov.get i with
    |some v=>some v
    |none=>z[i%z.length]?
   |false=>none
noncomputable def cellsFrom (r:Row) (k:Nat):Nat→Option (List Value) :=
 Nat.rec (motive:=fun _=>Nat→Option (List Value)) (fun _=>some []) (fun _ ih i=>oB (cellAt r i) fun v=>oB (ih (i+1)) fun l=>some (v::l)) k
noncomputable def loadA (t:TypeId) (m:Mem) (b o:Nat):Option Value :=
 oB (ti tb t) fun i=>oB (rowOf m b) fun r =>
  match i.agg with
  |true=>oB (cellsFrom r i.inf.size o) fun l=>some (.agg ⟨l⟩)
  |false=>cellAt r o
def fzOk (fz:Fz) (i k:Nat):Bool :=
 match fz with
 | .none=>true
 | .str=>true
 | .rng lo hi=>Nat.ble hi i||Nat.ble (i+k) lo
def oneC (v:Value):Bool :=
 match v with
 | .agg _=>false
 | .tuple _=>false
 |_=>true
noncomputable def setCells (r:Row) (i:Nat) (l:List Value):Option Row :=
 match r with
 | ⟨ov,n,z,elem,fz,ext⟩ =>
   match Nat.ble (i+l.length) n&&l.all oneC with
   |true=>match fzOk fz i l.length with
    |true=>some ⟨T.setL l i ov,n,z,elem,fz,ext⟩
    |false=>none
   |false=>none
noncomputable def storeCellsA (m:Mem) (b i:Nat) (l:List Value):Option Mem :=
 oB (rowW m b) fun r=>oB (setCells r i l) fun r'=>some (putObj m b (.row r'))
noncomputable def storeA (t:TypeId) (m:Mem) (b o:Nat) (v:Value):Option Mem :=
 oB (ti tb t) fun i =>
  match Nat.beq (cellsOfV v).length i.inf.size with
  |true=>storeCellsA m b o (cellsOfV v)
  |false=>none
noncomputable def rowObj (elem:TypeId) (cells:List Value) (fz:Fz) (ext:Bool):AObj:=.row ⟨T.ofList cells,cells.length,[],elem,fz,ext⟩
def zeroObj (elem:TypeId) (n:Nat) (z:List Value):AObj:=.row ⟨.lf,n,z,elem,.none,false⟩
def takeN (l:List Value) (off n:Nat):List Value:=(l.drop off).take n
noncomputable def partA (t:TypeId) (cs:List Value) (off:Nat):Option Value :=
 oB (ti tb t) fun i =>
  match i.agg with
  |true=>some (.agg ⟨takeN cs off i.inf.size⟩)
  |false=>cs[off]?
noncomputable def fillA (place:Nat→Option (Nat × Nat)) (n:Nat):List (Nat × Value)→T Value→Option (T Value)
 | [],c=>some c
 | (i,v)::rest,c =>
   match place i with
   |some (off,sz) =>
    match Nat.beq (cellsOfV v).length sz&&Nat.ble (off+(cellsOfV v).length) n with
    |true=>fillA place n rest (T.setL (cellsOfV v) off c)
    |false=>none
   |none=>none
noncomputable def listOf (c:T Value):List Value→Nat→List Value
 | [],_=>[]
 |z::zs,i=>(match c.get i with|some v=>v|none=>z)::listOf c zs (i+1)
def placeS (flds:List (Nat × Nat × TypeId × Bool)) (i:Nat):Option (Nat × Nat) :=
 match flds[i]? with
 |some (o,s,_)=>some (o,s)
 |none=>none
noncomputable def buildA (t:TypeId) (parts:List (Nat × Value)):Option Value :=
 oB (ti tb t) fun i =>
  match i.hasZ,i.d with
  |true,.struct _=>oB (fillA (placeS i.flds) i.zc.length parts .lf) fun c=>some (.agg ⟨listOf c i.zc 0⟩)
  |true,.array _ elem=>oB (ti tb elem) fun e=>oB (fillA (fun j=>some (j*e.inf.size,e.inf.size)) i.zc.length parts .lf) fun c=>some (.agg ⟨listOf c i.zc 0⟩)
  |_,_=>none
noncomputable def eqFields (eq:TypeId→Value→Value→Option Bool) (xs ys:List Value):List (Nat × Nat × TypeId × Bool)→Option Bool
 | []=>some true
 | (o,_,t,blank)::fs =>
   match blank with
   |true=>eqFields eq xs ys fs
   |false =>
    oB (partA tb t xs o) fun a=>oB (partA tb t ys o) fun b=>oB (eq t a b) fun r =>
     match r with
     |true=>eqFields eq xs ys fs
     |false=>some false
noncomputable def eqElems (eq:TypeId→Value→Value→Option Bool) (elem:TypeId) (n:Nat) (xs ys:List Value):Nat→Nat→Option Bool
 |0,_=>some true
 |k+1,i =>
  oB (partA tb elem xs (i*n)) fun a=>oB (partA tb elem ys (i*n)) fun b=>oB (eq elem a b) fun r =>
   match r with
   |true=>eqElems eq elem n xs ys k (i+1)
   |false=>some false
noncomputable def ptrEq (m:Mem) (a b:Addr):Option Bool :=
 match Nat.beq a.block b.block with
 |true=>some (Nat.beq a.off b.off)
 |false =>
  match rowOf m a.block,rowOf m b.block with
  |some r,some q=>match r.fz,q.fz with
   | .none,.none=>some false
   |_,_=>none
  |_,_=>none
noncomputable def eqPtr (m:Mem):Option Addr→Option Addr→Option Bool
 |none,none=>some true
 |none,some _=>some false
 |some _,none=>some false
 |some a,some b=>ptrEq m a b
def eqBool:Value→Value→Option Bool
 | .bool a,.bool b=>some (a==b)
 |_,_=>none
def eqInt:Value→Value→Option Bool
 | .int k a,.int k' b=>match kEq k k' with|true=>some (intEq a b)|false=>none
 |_,_=>none
def eqStr:Value→Value→Option Bool
 | .string a,.string b=>some (bytesEq a.data.toList b.data.toList)
 |_,_=>none
noncomputable def eqPt (m:Mem) (e:TypeId):Value→Value→Option Bool
 | .pointer a,.pointer b=>oB (ti tb e) fun ie=>match ie.inf.size with|0=>none|_+1=>eqPtr m a b
 |_,_=>none
noncomputable def eqIf (eq:TypeId→Value→Value→Option Bool):Value→Value→Option Bool
 | .nilIface,.nilIface=>some true
 | .nilIface,.iface _ _=>some false
 | .iface _ _,.nilIface=>some false
 | .iface tx vx,.iface ty vy =>
   match Nat.beq tx ty with
   |false=>some false
   |true=>oB (ti tb tx) fun j=>match j.inf.comparable with
    |true=>eq tx vx vy
    |false=>none
 |_,_=>none
noncomputable def eqSt (eq:TypeId→Value→Value→Option Bool) (i:TI):Value→Value→Option Bool
 | .agg xs,.agg ys=>match i.held with|true=>none|false=>eqFields tb eq xs.toList ys.toList i.flds
 |_,_=>none
noncomputable def eqAr (eq:TypeId→Value→Value→Option Bool) (len:Nat) (elem:TypeId):Value→Value→Option Bool
 | .agg xs,.agg ys=>oB (ti tb elem) fun e=>eqElems tb eq elem e.inf.size xs.toList ys.toList len 0
 |_,_=>none
def eqSl:Value→Value→Option Bool
 | .slice none _ _,.slice none _ _=>some true
 | .slice none _ _,.slice (some _) _ _=>some false
 | .slice (some _) _ _,.slice none _ _=>some false
 |_,_=>none
def eqMp:Value→Value→Option Bool
 | .map none,.map none=>some true
 | .map none,.map (some _)=>some false
 | .map (some _),.map none=>some false
 |_,_=>none
def eqFn:Value→Value→Option Bool
 | .nilFunc,.nilFunc=>some true
 | .nilFunc,.func _ _ _=>some false
 | .func _ _ _,.nilFunc=>some false
 |_,_=>none
noncomputable def eqA (m:Mem):Nat→TypeId→Value→Value→Option Bool
 |0,_,_,_=>none
 |d+1,t,x,y =>
  oB (ti tb t) fun i =>
  match i.d with
  | .bool=>eqBool x y
  | .int _=>eqInt x y
  | .string=>eqStr x y
  | .pointer e=>eqPt tb m e x y
  | .interface _=>eqIf tb (eqA m d) x y
  | .struct _=>eqSt tb (eqA m d) i x y
  | .array len elem=>eqAr tb (eqA m d) len elem x y
  | .slice _=>eqSl x y
  | .map _ _=>eqMp x y
  | .func _ _ _=>eqFn x y
  |_=>none
def isConst:Operand→Bool
 | .const _=>true
 |_=>false
noncomputable def guardOk (t:TypeId) (x y:Operand) (a b:Value):Bool :=
 match a,b with
 | .nilIface,.nilIface=>isConst x||isConst y
 | .agg _,.agg _=>match ti tb t with|some i=>!i.guard|none=>false
 |_,_=>true
noncomputable def eqOp (m:Mem) (t:TypeId) (x y:Operand) (a b:Value):Option Bool :=
 match guardOk tb t x y a b with
 |true=>eqA tb m 64 t a b
 |false=>none
noncomputable def binA (m:Mem) (op:BinOp) (t:TypeId) (x y:Operand) (a b:Value):Option Value :=
 match a,b with
 | .int k n,.int k' n' =>
   match op with
   | .shl=>shiftOp .shl k n n'
   | .shr=>shiftOp .shr k n n'
   |op=>match kEq k k' with|true=>intOp op k n n'|false=>none
 | .string s,.string s'=>strOp op s s'
 |a,b=>match op with
  | .eql=>oB (eqOp tb m t x y a b) fun r=>some (.bool r)
  | .neq=>oB (eqOp tb m t x y a b) fun r=>some (.bool (!r))
  |_=>none
def unA (op:UnOp) (x:Value):Option Value :=
 match op,x with
 | .neg,.int k n=>some (vInt k (wrapF k (subI 0 n)))
 | .xor,.int k n=>oI k (bitsI .xor k (if k.signed then -1 else k.max) n)
 | .not,.bool b=>some (.bool !b)
 |_,_=>none
def bound (x:Value) (y:Nat):Option Nat :=
 match x with
 | .int _ (.ofNat n)=>match Nat.ble n y with|true=>some n|false=>none
 |_=>none
def oBound (x:Option Value) (dflt y:Nat):Option Nat :=
 match x with
 |some v=>bound v y
 |none=>some dflt
def addA (a:Addr) (n:Nat):Addr:=⟨a.block,a.off+n,none⟩
def addIf (b:Bool) (a:Addr) (n:Nat):Addr:=match b with|true=>a|false=>addA a n
def bounds3 (len cap:Nat) (lo hi mx:Option Value):Option (Nat × Nat × Nat) :=
 match mx,hi with
 |some _,none=>none
 |_,_=>oB (oBound mx cap cap) fun q=>oB (oBound hi len q) fun h=>oB (oBound lo 0 h) fun l =>
  match Nat.ble l h&&Nat.ble h q with
  |true=>some (l,h,q)
  |false=>none
def slStr (s:ByteArray) (lo hi:Option Value):Option Value :=
 oB (bounds3 s.data.toList.length s.data.toList.length lo hi none) fun (l,h,_)=>some (.string ⟨⟨(s.data.toList.drop l).take (h-l)⟩⟩)
def slExt (ext:Bool) (a:Addr) (mx:Option Value) (l h q sz:Nat):Option Value :=
 match ext with
 |false=>match a.spot with
  |none=>some (.slice (some (addIf (Nat.beq q l) a (l*sz))) (h-l) (q-l))
  |some _=>none
 |true=>match a.spot with
  |some (_+1)=>none
  |some 0=>some (.slice (some ⟨a.block,(addIf (Nat.beq q l) a (l*sz)).off,some 0⟩) (h-l) (q-l))
  |none=>match mx with
   |some _=>some (.slice (some ⟨a.block,(addIf (Nat.beq q l) a (l*sz)).off,some 0⟩) (h-l) (q-l))
   |none=>match Nat.beq q l with
    |true=>match l*sz with
     |0=>none
     |k+1=>some (.slice (some ⟨a.block,a.off,some (k+1)⟩) 0 0)
    |false=>some (.slice (some (addA a (l*sz))) (h-l) (q-l))
noncomputable def sliceA (t:TypeId) (m:Mem) (x:Value) (lo hi mx:Option Value):Option Value :=
 oB (ti tb t) fun i =>
 match i.d,x with
 | .string,.string s=>match mx with
   |some _=>none
   |none=>slStr s lo hi
 | .slice elem,.slice none len cap =>
   oB (bounds3 len cap lo hi mx) fun (l,h,q)=>oB (ti tb elem) fun _=>some (.slice none (h-l) (q-l))
 | .slice elem,.slice (some a) len cap =>
   oB (bounds3 len cap lo hi mx) fun (l,h,q) =>
   oB (ti tb elem) fun e=>oB (rowOf m a.block) fun r=>slExt r.ext a mx l h q e.inf.size
 | .array n elem,.pointer (some a) =>
   oB (bounds3 n n lo hi mx) fun (l,h,q) =>
   oB (ti tb elem) fun e=>oB (rowOf m a.block) fun r=>match r.ext with
    |false=>some (.slice (some (addIf (Nat.beq q l) a (l*e.inf.size))) (h-l) (q-l))
    |true=>some (.slice (some ⟨a.block,(addIf (Nat.beq q l) a (l*e.inf.size)).off,some 0⟩) (h-l) (q-l))
 |_,_=>none
noncomputable def indexAddrA (t:TypeId) (x ix:Value):Option Value :=
 match ix with
 | .int _ (.ofNat j) =>
   oB (ti tb t) fun i =>
   match i.d,x with
   | .array len elem,.pointer (some a) =>
     match Nat.blt j len with
     |true=>oB (ti tb elem) fun e=>some (.pointer (some (addA a (j*e.inf.size))))
     |false=>none
   | .slice elem,.slice (some a) len _ =>
     match Nat.blt j len with
     |true=>oB (ti tb elem) fun e=>some (.pointer (some (addA a (j*e.inf.size))))
     |false=>none
   |_,_=>none
 |_=>none
noncomputable def fieldAddrA (t:TypeId) (x:Value) (f:Nat):Option Value :=
 oB (ti tb t) fun i =>
 match x with
 | .pointer (some a)=>match i.flds[f]? with
   |some (o,s,_)=>match s with
    |0=>none
    |_+1=>some (.pointer (some (addA a o)))
   |none=>none
 |_=>none
noncomputable def fieldA (t:TypeId) (x:Value) (f:Nat):Option Value :=
 oB (ti tb t) fun i =>
 match x with
 | .agg cs=>match i.flds[f]? with
   |some (o,_,ft,_)=>partA tb ft cs.toList o
   |none=>none
 |_=>none
def byteV (b:UInt8):Value:=fNat b.toNat fun n=>.int .u8 (.ofNat n)
noncomputable def indexA (t:TypeId) (x ix:Value):Option Value :=
 match ix with
 | .int _ (.ofNat j) =>
   oB (ti tb t) fun i =>
   match i.d,x with
   | .array len elem,.agg cs =>
     match Nat.blt j len with
     |true=>oB (ti tb elem) fun e=>partA tb elem cs.toList (j*e.inf.size)
     |false=>none
   | .string,.string s=>match s.data.toList[j]? with
     |some b=>some (byteV b)
     |none=>none
   |_,_=>none
 |_=>none
def bytesL:List Value→Option (List UInt8)
 | []=>some []
 | .int .u8 (.ofNat n)::l=>oB (bytesL l) fun r=>some (UInt8.ofNat n::r)
 |_=>none
def u8s:List UInt8→List Value
 | []=>[]
 |b::l=>byteV b::u8s l
noncomputable def bytesAt (m:Mem) (b o n:Nat):Option ByteArray :=
 oB (rowOf m b) fun r=>oB (cellsFrom r n o) fun l=>oB (bytesL l) fun bs=>some ⟨⟨bs⟩⟩
noncomputable def lenA (t:TypeId) (m:Mem) (x:Value):Option Value :=
 match x with
 | .slice _ n _=>oB (ti tb t) fun i=>match i.d with | .slice _=>some (vInt .i64 (.ofNat n))|_=>none
 | .string s=>oB (ti tb t) fun i=>match i.d with | .string=>some (vInt .i64 (.ofNat s.data.toList.length))|_=>none
 | .map none=>oB (ti tb t) fun i=>match i.d with | .map _ _=>some (.int .i64 (.ofNat 0))|_=>none
 | .map (some r)=>oB (ti tb t) fun i=>match i.d with
   | .map _ _=>match m.objs.get r with|some (.map es _)=>some (vInt .i64 (.ofNat es.length))|_=>none
   |_=>none
 | .agg _=>oB (ti tb t) fun i=>match i.d with | .array n _=>some (.int .i64 (.ofNat n))|_=>none
 | .pointer _=>oB (ti tb t) fun i=>match i.d with
   | .pointer arr=>oB (ti tb arr) fun j=>match j.d with | .array n _=>some (.int .i64 (.ofNat n))|_=>none
   |_=>none
 |_=>none
noncomputable def capA (t:TypeId) (m:Mem) (x:Value):Option Value :=
 match x with
 | .slice none _ c=>oB (ti tb t) fun i=>match i.d with | .slice _=>some (vInt .i64 (.ofNat c))|_=>none
 | .slice (some a) _ c=>oB (ti tb t) fun i=>match i.d with
   | .slice _=>match a.spot with
     |some 0=>some (vInt .i64 (.ofNat c))
     |some (_+1)=>none
     |none=>oB (rowOf m a.block) fun r=>match r.ext with
      |true=>none
      |false=>some (vInt .i64 (.ofNat c))
   |_=>none
 |_=>none
noncomputable def firstA (m:Mem) (k n:Nat):Value→Option (List Value)
 | .slice (some a) _ _=>match k with
   |0=>some []
   |k+1=>oB (rowOf m a.block) fun r=>cellsFrom r (k+1) a.off
 | .slice none _ _=>some []
 | .string s=>some (u8s (s.data.toList.take n))
 |_=>none
def lenOfA:Value→Option Nat
 | .slice _ n _=>some n
 | .string s=>some s.data.toList.length
 |_=>none
def repl (z:List Value):Nat→List Value
 |0=>[]
 |n+1=>z++repl z n
noncomputable def appended (m:Mem) (xt elem:TypeId) (sz:Nat) (x:Value):Option (Nat × List Value) :=
 oB (ti tb xt) fun j =>
 match j.d with
 | .int _=>match x with
   | .int _ (.ofNat n)=>oB (ti tb elem) fun e=>match e.hasZ,Nat.ble (n*e.inf.bytes) 281474976710656,Nat.blt n 9223372036854775808 with
     |true,true,true=>some (n,repl e.zc n)
     |_,_,_=>none
   |_=>none
 |_=>oB (lenOfA x) fun n=>oB (firstA m (n*sz) n x) fun l=>some (n,l)
noncomputable def newRowV (m:Mem) (elem:TypeId) (cells:List Value) (n:Nat):Option (Value × Mem) :=
 some (.slice (some ⟨m.next,0,none⟩) n n,newObjA m (rowObj elem cells .none true))
noncomputable def growA (m:Mem) (elem:TypeId) (sz:Nat) (a:Addr) (sl sc n:Nat) (new:List Value):Option (Value × Mem) :=
 oB (rowOf m a.block) fun r =>
 match r.ext with
 |false=>oB (cellsFrom r (sl*sz) a.off) fun old=>newRowV m elem (old++new) (sl+n)
 |true=>match a.spot with
  |some 0=>oB (cellsFrom r (sl*sz) a.off) fun old=>newRowV m elem (old++new) (sl+n)
  |some (k+1)=>match r.fz,rowW m a.block,Nat.beq (a.off+(k+1)) r.n&&Nat.beq r.elem elem&&Nat.beq new.length (n*sz)&&new.all oneC with
   | .none,some _,true=>newRowV (putObj m a.block .dead) elem new n
   |_,_,_=>none
  |none=>match r.fz,rowW m a.block,Nat.beq (a.off+sc*sz) r.n&&Nat.beq r.elem elem&&Nat.beq new.length (n*sz)&&new.all oneC with
   | .none,some _,true=>oB (cellsFrom r (sl*sz) a.off) fun old=>newRowV (putObj m a.block .dead) elem (old++new) (sl+n)
   |_,_,_=>none
noncomputable def appendTo (m:Mem) (elem:TypeId) (sz:Nat) (s:Value) (n:Nat) (new:List Value):Option (Value × Mem) :=
 match s with
 | .slice none sl sc =>
   match n with
   |0=>match Nat.beq sl 0 with|true=>some (.slice none 0 sc,m)|false=>none
   |n+1=>match Nat.beq sl 0&&Nat.beq sc 0 with|true=>newRowV m elem new (n+1)|false=>none
 | .slice (some a) sl sc =>
   match Nat.ble (sl+n) sc with
   |true=>match new with
    | []=>some (.slice (some a) (sl+n) sc,m)
    |v::new=>oB (storeCellsA m a.block (a.off+sl*sz) (v::new)) fun m=>some (.slice (some a) (sl+n) sc,m)
   |false=>growA m elem sz a sl sc n new
 |_=>none
def appendFits (s:Value) (n bytes:Nat):Bool :=
 match s with
 | .slice _ sl _=>Nat.ble ((sl+n+1000)*bytes) 17592186044416
 |_=>false
noncomputable def appendA (tys:List TypeId) (m:Mem) (s x:Value):Option (Value × Mem) :=
 match tys with
 |st::xt::_ =>
  oB (ti tb st) fun i =>
  match i.d with
  | .slice elem =>
    oB (ti tb elem) fun e =>
    oB (appended tb m xt elem e.inf.size x) fun (n,new) =>
    match e.inf.size,e.inf.bytes,e.hasZ,appendFits s n e.inf.bytes with
    |_+1,_+1,true,true=>appendTo m elem e.inf.size s n new
    |_,_,_,_=>none
  |_=>none
 |_=>none
noncomputable def copyA (tys:List TypeId) (m:Mem) (d s:Value):Option (Value × Mem) :=
 match tys with
 |dt::_ =>
  oB (ti tb dt) fun i =>
  match i.d,d with
  | .slice elem,.slice base dl _ =>
    oB (ti tb elem) fun e=>oB (lenOfA s) fun sl =>
    oB (firstA m (Nat.min sl dl*e.inf.size) (Nat.min sl dl) s) fun cells =>
    match base,cells with
    |some a,v::l=>oB (storeCellsA m a.block a.off (v::l)) fun m=>some (vInt .i64 (.ofNat (Nat.min sl dl)),m)
    |_,_=>some (vInt .i64 (.ofNat (Nat.min sl dl)),m)
  |_,_=>none
 |_=>none
noncomputable def keyFind (m:Mem) (kt:TypeId) (k:Value):List MapEntry→Nat→Option (Option (Nat × Value))
 | [],_=>some none
 |e::es,i=>oB (eqA tb m 64 kt k e.key) fun r =>
  match r with
  |true=>some (some (i,e.val))
  |false=>keyFind m kt k es (i+1)
def setEntry (f:MapEntry→MapEntry):List MapEntry→Nat→List MapEntry
 | [],_=>[]
 |e::es,0=>f e::es
 |e::es,i+1=>e::setEntry f es i
noncomputable def keyOk (kt:TypeId) (k:Value):Bool :=
 match ti tb kt,k with
 |some i,.int _ _=>match i.d with | .int _=>true|_=>false
 |some i,.string _=>match i.d with | .string=>true|_=>false
 |some i,.agg cs=>match i.d with
  | .struct _=>Nat.beq cs.toList.length i.inf.size&&i.flds.all fun (o,s,t,_)=>Nat.blt o cs.toList.length&&Nat.beq s 1&&(match ti tb t,cs.toList[o]? with
    |some j,some (.int _ _)=>(match j.d with | .int _=>true|_=>false)
    |some j,some (.string _)=>(match j.d with | .string=>true|_=>false)
    |_,_=>false)
  |_=>false
 |_,_=>false
noncomputable def mapOf (m:Mem) (r:Nat):Option (List MapEntry × Nat) :=
 match m.objs.get r with
 |some (.map es c)=>some (es,c)
 |_=>none
def sameK1 (x y:Value):Bool :=
 match x,y with
 | .int k a,.int k' b=>kEq k k'&&intEq a b
 | .string a,.string b=>bytesEq a.data.toList b.data.toList
 |_,_=>false
def sameKs:List Value→List Value→Bool
 | [],[]=>true
 |x::l,y::k=>match sameK1 x y with|true=>sameKs l k|false=>false
 |_,_=>false
def sameK (x y:Value):Bool :=
 match x,y with
 | .agg a,.agg b=>sameKs a.toList b.toList
 |x,y=>sameK1 x y
def okTup (ok:Bool) (v:Value) (b:Bool):Value:=match ok with|true=>.tuple #[v,.bool b]|false=>v
noncomputable def lookupA (t:TypeId) (m:Mem) (x k:Value) (ok:Bool):Option Value :=
 oB (ti tb t) fun i =>
 match i.d with
 | .map kt et =>
   match keyOk tb kt k with
   |false=>none
   |true =>
   match x with
   | .map none=>oB (ti tb et) fun j=>oB (zeroV j) fun z=>some (okTup ok z false)
   | .map (some r)=>oB (mapOf m r) fun (es,_)=>oB (keyFind tb m kt k es 0) fun q =>
     match q with
     |some (_,v)=>some (okTup ok v true)
     |none=>oB (ti tb et) fun j=>oB (zeroV j) fun z=>some (okTup ok z false)
   |_=>none
 |_=>none
noncomputable def mapUpdateA (t:TypeId) (m:Mem) (x k v:Value):Option Mem :=
 oB (ti tb t) fun i =>
 match i.d,x with
 | .map kt _,.map (some r)=>match keyOk tb kt k with
   |false=>none
   |true=>oB (mapOf m r) fun (es,c)=>oB (keyFind tb m kt k es 0) fun q =>
    match q with
    |some (i,_)=>oB (es[i]?) fun e=>match sameK e.key k with
     |true=>some (putObj m r (.map (setEntry (fun e => { e with key:=k,val:=v }) es i) c))
     |false=>none
    |none=>some (putObj m r (.map (es++[{ key:=k,val:=v,born:=c }]) (c+1)))
 |_,_=>none
noncomputable def mapEntryA (t:TypeId) (m:Mem) (x k:Value):Option (Value × Mem) :=
 oB (ti tb t) fun i =>
 match i.d,x with
 | .map kt et,.map (some r)=>match keyOk tb kt k with
   |false=>none
   |true=>oB (mapOf m r) fun (es,c)=>oB (keyFind tb m kt k es 0) fun q =>
    match q with
    |some (i,v)=>oB (es[i]?) fun e=>match sameK e.key k with
     |true=>some (.tuple #[v,vInt .i64 (.ofNat e.born)],putObj m r (.map (setEntry (fun e => { e with key:=k }) es i) c))
     |false=>none
    |none=>oB (ti tb et) fun j=>oB (zeroV j) fun z=>some (.tuple #[z,vInt .i64 (.ofNat c)],putObj m r (.map (es++[{ key:=k,val:=z,born:=c }]) (c+1)))
 |_,_=>none
def bornIdx (s:Nat):List MapEntry→Nat→Option Nat
 | [],_=>none
 |e::es,i=>match Nat.beq e.born s with|true=>some i|false=>bornIdx s es (i+1)
noncomputable def entryStoreA (m:Mem) (x st v:Value):Option Mem :=
 match x,st with
 | .map (some r),.int _ (.ofNat s)=>oB (mapOf m r) fun (es,c)=>oB (bornIdx s es 0) fun i=>some (putObj m r (.map (setEntry (fun e => { e with val:=v }) es i) c))
 |_,_=>none
def eraseAt:List MapEntry→Nat→List MapEntry
 | [],_=>[]
 |_::es,0=>es
 |e::es,i+1=>e::eraseAt es i
noncomputable def deleteA (tys:List TypeId) (m:Mem) (x k:Value):Option Mem :=
 match tys with
 |mt::_ =>
  oB (ti tb mt) fun i =>
  match i.d,x with
  | .map kt _,.map (some r)=>match keyOk tb kt k with
    |false=>none
    |true=>oB (mapOf m r) fun (es,c)=>oB (keyFind tb m kt k es 0) fun q =>
     match q with
     |some (i,_)=>some (putObj m r (.map (eraseAt es i) c))
     |none=>some m
  |_,_=>none
 |_=>none
noncomputable def clearA (t:TypeId) (m:Mem) (x:Value):Option Mem :=
 oB (ti tb t) fun i =>
 match x with
 | .map none=>some m
 | .map (some r)=>oB (mapOf m r) fun (_,c)=>some (putObj m r (.map [] c))
 | .slice none _ _=>some m
 | .slice (some a) n _=>match n with
   |0=>some m
   |n+1=>match i.d with
    | .slice e=>oB (ti tb e) fun j=>match j.hasZ,j.zc with
      |true,z::zs=>storeCellsA m a.block a.off (repl (z::zs) (n+1))
      |_,_=>none
    |_=>none
 |_=>none
noncomputable def rangeA (t:TypeId) (m:Mem) (x:Value):Option (Value × Mem) :=
 oB (ti tb t) fun i =>
 match i.d,x with
 | .string,.string s=>some (.pointer (some ⟨m.next,0,none⟩),newObjA m (.strIter s 0 s.data.toList))
 | .map _ _,.map none=>some (.pointer (some ⟨m.next,0,none⟩),newObjA m (.mapIter none 0 [] 0))
 | .map _ _,.map (some r)=>oB (mapOf m r) fun (_,c)=>some (.pointer (some ⟨m.next,0,none⟩),newObjA m (.mapIter (some r) c [] c))
 |_,_=>none
def unseen (seen:List Nat):List MapEntry→List MapEntry
 | []=>[]
 |e::es=>match seen.any (Nat.beq e.born) with
  |true=>unseen seen es
  |false=>e::unseen seen es
noncomputable def nextMap (m:Mem) (b:Nat) (r since:Nat) (seen:List Nat) (last:Nat):Option (Value × Mem) :=
 oB (mapOf m r) fun (es,c) =>
  match es.all (fun e=>Nat.blt e.born since)&&Nat.beq last c&&Nat.ble since last with
  |false=>none
  |true =>
   match unseen seen es with
   | []=>some (.tuple #[.bool false],m)
   | [e]=>some (.tuple #[.bool true,e.key,e.val],putObj m b (.mapIter (some r) since (seen++[e.born]) c))
   |_=>none
noncomputable def nextStr (m:Mem) (b:Nat) (s:ByteArray) (pos:Nat) (rest:List UInt8):Option (Value × Mem) :=
 match rest with
 |c::rest=>match Nat.blt c.toNat 128 with
  |true=>some (.tuple #[.bool true,vInt .i64 (.ofNat pos),vInt .i32 (.ofNat c.toNat)],putObj m b (.strIter s (pos+1) rest))
  |false=>some (.tuple #[.bool true,vInt .i64 (.ofNat pos),vInt .i32 (.ofNat (Utf8.decode s pos).1)],putObj m b (.strIter s (pos+(Utf8.decode s pos).2) (s.data.toList.drop (pos+(Utf8.decode s pos).2))))
 | []=>some (.tuple #[.bool false],m)
noncomputable def nextA (m:Mem) (it:Value) (isS:Bool):Option (Value × Mem) :=
 match it with
 | .pointer (some ⟨b,0,none⟩) =>
   match m.objs.get b with
   |some (.strIter s pos rest)=>match isS with
    |true=>nextStr m b s pos rest
    |false=>none
   |some (.mapIter none _ _ _)=>match isS with
    |false=>some (.tuple #[.bool false],m)
    |true=>none
   |some (.mapIter (some r) since seen last)=>match isS with
    |true=>none
    |false=>nextMap m b r since seen last
   |_=>none
 |_=>none
noncomputable def entryA (m:Mem) (it:Value):Option Value :=
 match it with
 | .pointer (some ⟨b,0,none⟩) =>
   match m.objs.get b with
   |some (.mapIter (some r) _ seen stepped) =>
    match seen.getLast? with
    |some stamp=>oB (mapOf m r) fun (es,c) =>
     match Nat.beq c stepped with
     |true=>match es.find? (fun e=>Nat.beq e.born stamp) with
      |some e=>some (.tuple #[e.key,e.val])
      |none=>none
     |false=>none
    |none=>none
   |_=>none
 |_=>none
def taFail (i:TI) (ok:Bool):Option Value :=
 match ok with
 |true=>oB (zeroV i) fun z=>some (.tuple #[z,.bool false])
 |false=>none
def taV (i:TI) (asserted:TypeId) (ok:Bool) (x:Value):Option Value :=
 match x with
 | .nilIface=>taFail i ok
 | .iface t v=>match Nat.beq t asserted with
   |true=>some (okTup ok v true)
   |false=>taFail i ok
 |_=>none
noncomputable def typeAssertA (x:Value) (asserted:TypeId) (ok:Bool):Option Value :=
 oB (ti tb asserted) fun i =>
 match i.d with
 | .interface _=>none
 |_=>taV i asserted ok x
end
end Go.Ev

