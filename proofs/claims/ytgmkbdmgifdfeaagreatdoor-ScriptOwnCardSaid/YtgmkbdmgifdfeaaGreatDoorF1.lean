/- A part of a proof: ScriptOwn. -/
import Derived.Test.YtgmkbdmgifdfeaaGreatDoorF0
set_option linter.unusedVariables false
set_option linter.unusedSimpArgs false
namespace Go.Ev
noncomputable def lrec {α β : Type} (nil : β) (cons : α → List α → β → β) (l:List α) : β :=
 List.rec (motive:=fun _ => β) nil cons l
theorem lrec_cons {α β : Type} (nil : β) (cons : α → List α → β → β) (x : α) (l:List α):lrec nil cons (x::l)=cons x l (lrec nil cons l):=rfl
section
variable (tb:Tabs)
noncomputable def ev (t:T Value) (x:Operand):Value :=
 match x with
 | .tmp i=>match t.get i with|some v=>v|none=>undef
 | .const v=>v
 | .global g=>.pointer (some ⟨g,0,none⟩)
 | .func f=>.func (.func f) #[] #[]
noncomputable def evs (t:T Value):List Operand→List Value
 | []=>[]
 |x::l=>ev t x::evs t l
noncomputable def evP (t:T Value):List (Nat × Operand)→List (Nat × Value)
 | []=>[]
 | (i,x)::l=>(i,ev t x)::evP t l
noncomputable def evO (t:T Value):Option Operand→Option Value
 |none=>none
 |some x=>some (ev t x)
inductive OR where
 |r (v:Value)
 |f (o:AObj) (mk:Nat→Value)
 |e (v:Value) (m:Mem)
 |c
 |bad
def oR (x:Option Value):OR:=match x with|some v=>.r v|none=>.bad
def oE (x:Option (Value × Mem)):OR:=match x with|some (v,m)=>.e v m|none=>.bad
def oM (x:Option Mem):OR:=match x with|some m=>.e undef m|none=>.bad
def ptr0 (b:Nat):Value:=.pointer (some ⟨b,0,none⟩)
noncomputable def opAlloc (e:TypeId):OR :=
 match ti tb e with
 |some i=>match i.hasZ with|true=>.f (zeroObj e i.zc.length i.zc) ptr0|false=>.bad
 |none=>.bad
noncomputable def opBox (e:TypeId) (v:Value):OR:=.f (rowObj e (cellsOfV v) .none false) ptr0
noncomputable def opBuildSlice (t:TypeId) (len:Nat) (parts:List (Nat × Value)):OR :=
 match ti tb t with
 |some i=>match i.d with
  | .slice elem=>match ti tb elem with
    |some e=>match e.hasZ,Nat.ble (len*e.inf.size) 16777216 with
     |true,true=>match fillA (fun j=>some (j*e.inf.size,e.inf.size)) (len*e.inf.size) parts .lf with
      |some c=>.f (.row ⟨c,len*e.inf.size,e.zc,elem,.none,false⟩) fun b=>.slice (some ⟨b,0,none⟩) len len
      |none=>.bad
     |_,_=>.bad
    |none=>.bad
  |_=>.bad
 |none=>.bad
noncomputable def opMakeSlice (t:TypeId) (l c:Value):OR :=
 match l,c with
 | .int _ (.ofNat l),.int _ (.ofNat c)=>match ti tb t with
   |some i=>match i.d with
    | .slice elem=>match ti tb elem with
      |some e=>match e.hasZ,Nat.ble l c&&Nat.ble (e.inf.bytes*c) 281474976710656&&Nat.blt c 9223372036854775808 with
       |true,true=>.f (zeroObj elem (c*e.inf.size) e.zc) fun b=>.slice (some ⟨b,0,none⟩) l c
       |_,_=>.bad
      |none=>.bad
    |_=>.bad
   |none=>.bad
 |_,_=>.bad
noncomputable def convPtr (m:Mem) (s d:TypeDesc) (a:Addr):OR :=
 match s with
 | .pointer e=>match d with
   | .unsafePointer=>match ti tb e,rowOf m a.block with
     |some j,some r=>match j.inf.size,Nat.blt a.off r.n with
      |_+1,true=>.r (.pointer (some a))
      |_,_=>.bad
     |_,_=>.bad
   |_=>.bad
 | .unsafePointer=>match d with
   | .pointer u=>match ti tb u,rowOf m a.block with
     |some j,some r=>match r.ext,j.inf.size,liesAt tb.p tb.p.depth r.elem (r.n / tb.p.cellsOf r.elem) a.off u 1 with
      |false,_+1,true=>.r (.pointer (some a))
      |_,_,_=>.bad
     |_,_=>.bad
   |_=>.bad
 |_=>.bad
noncomputable def convStr (s d:TypeDesc) (b:ByteArray):OR :=
 match s with
 | .string=>match d with
   | .string=>.r (.string b)
   | .slice e=>match ti tb e with
     |some j=>match j.d,Nat.beq j.inf.size 1 with
      | .int .u8,true=>.f (rowObj e (u8s b.data.toList) .str true) fun r=>.slice (some ⟨r,0,none⟩) b.data.toList.length b.data.toList.length
      |_,_=>.bad
     |none=>.bad
   |_=>.bad
 |_=>.bad
noncomputable def convNilSl (s d:TypeDesc):OR :=
 match s with
 | .slice e=>match d with
   | .string=>match ti tb e with
     |some j=>match j.d with | .int .u8=>.r (.string ⟨⟨[]⟩⟩)|_=>.bad
     |none=>.bad
   |_=>.bad
 |_=>.bad
noncomputable def convSl (m:Mem) (same:Bool) (s d:TypeDesc) (x:Value) (a:Addr) (len:Nat):OR :=
 match s with
 | .slice e=>match d with
   | .string=>match ti tb e with
     |some j=>match j.d with
      | .int .u8=>match len with
        |0=>.r (.string ⟨⟨[]⟩⟩)
        |len+1=>match bytesAt m a.block a.off (len+1) with|some b=>.r (.string b)|none=>.bad
      |_=>.bad
     |none=>.bad
   | .slice e'=>match same,ti tb e',len with
     |true,some j,_+1=>match j.d with
      | .int .u8=>match rowW m a.block with
        |some r=>match r.fz with
         | .none=>.e x (putObj m a.block (.row ⟨r.ov,r.n,r.z,r.elem,.str,r.ext⟩))
         | .str=>.e x m
         | .rng _ _=>.bad
        |none=>.bad
      |_=>.bad
     |_,_,_=>.bad
   |_=>.bad
 |_=>.bad
noncomputable def opConv (m:Mem) (src dst:TypeId) (x:Value):OR :=
 match ti tb src,ti tb dst with
 |some s,some d =>
  match x with
  | .int _ n=>match d.d with | .int k=>.r (vInt k (wrapF k n))|_=>.bad
  | .string b=>convStr tb s.d d.d b
  | .slice none _ _=>convNilSl tb s.d d.d
  | .slice (some a) len _=>convSl tb m (Nat.beq src dst) s.d d.d x a len
  | .pointer (some a)=>convPtr tb m s.d d.d a
  |_=>.bad
 |_,_=>.bad
noncomputable def opSAP (arr:TypeId) (x:Value):OR :=
 match ti tb arr,x with
 |some i,.slice (some a) len _=>match i.d with
  | .array n _=>match Nat.ble n len&&Nat.ble 1 len,a.spot with
    |true,none=>.r (.pointer (some a))
    |true,some 0=>.r (.pointer (some ⟨a.block,a.off,none⟩))
    |_,_=>.bad
  |_=>.bad
 |_,_=>.bad
def maxI (k:IntKind):Int→List Value→Option Value
 |x,[]=>some (.int k x)
 |x,.int _ y::l=>match intLt x y with|true=>maxI k y l|false=>maxI k x l
 |_,_=>none
def minI (k:IntKind):Int→List Value→Option Value
 |x,[]=>some (.int k x)
 |x,.int _ y::l=>match intLt y x with|true=>minI k y l|false=>minI k x l
 |_,_=>none
noncomputable def opUnsafeString (m:Mem) (tys:List TypeId) (p:Option Addr) (n:Nat):OR :=
 match n with
 |0=>match tys with|_::_=>.r (.string ⟨⟨[]⟩⟩) | []=>.bad
 |n+1=>match p,tys with
  |some a,t::_=>match rowW m a.block,ti tb t with
   |some r,some i=>match i.d,r.fz with
    | .pointer e,.none =>
      match Nat.beq e r.elem&&Nat.beq (tb.p.cellsOf r.elem) 1&&Nat.ble (n+1) 9223372036854775807,bytesAt m a.block a.off (n+1) with
      |true,some b=>.e (.string b) (putObj m a.block (.row ⟨r.ov,r.n,r.z,r.elem,.rng a.off (a.off+(n+1)),r.ext⟩))
      |_,_=>.bad
    |_,_=>.bad
   |_,_=>.bad
  |_,_=>.bad
noncomputable def opBuiltin (m:Mem) (b:Builtin) (tys:List TypeId) (args:List Value):OR :=
 match b with
 | .len=>match args,tys with | [x],t::_=>oR (lenA tb t m x)|_,_=>.bad
 | .cap=>match args,tys with | [x],t::_=>oR (capA tb t m x)|_,_=>.bad
 | .append=>match args with | [s,x]=>oE (appendA tb tys m s x)|_=>.bad
 | .copy=>match args with | [d,s]=>oE (copyA tb tys m d s)|_=>.bad
 | .delete=>match args with | [x,k]=>(match deleteA tb tys m x k with|some m=>.e undef m|none=>.bad)|_=>.bad
 | .clear=>match args,tys with | [x],t::_=>(match clearA tb t m x with|some m=>.e undef m|none=>.bad)|_,_=>.bad
 | .max=>match args with | .int k x::l=>oR (maxI k x l)|_=>.bad
 | .min=>match args with | .int k x::l=>oR (minI k x l)|_=>.bad
 | .unsafeSliceData=>match args with
   | [.slice none _ _]=>.r (.pointer none)
   | [.slice (some a) _ (_+1)]=>match a.spot with
     |none=>.r (.pointer (some a))
     |some 0=>.r (.pointer (some ⟨a.block,a.off,none⟩))
     |_=>.bad
   |_=>.bad
 | .unsafeString=>match args with | [.pointer p,.int _ (.ofNat n)]=>opUnsafeString tb m tys p n|_=>.bad
 | .recover=>.c
 | .panic=>.c
 |_=>.bad
def opNilCheck (v:Value):OR :=
 match v with
 | .pointer none=>.bad
 | .nilIface=>.bad
 | .nilFunc=>.bad
 | .func (.method _) _ _=>.bad
 |v=>.r v
noncomputable def opMkIface (t:TypeId) (v:Value):OR :=
 match ti tb t with
 |some i=>match i.d with | .interface _=>.bad|_=>.r (.iface t v)
 |none=>.bad
noncomputable def opLoad (t:TypeId) (m:Mem) (a:Value):OR :=
 match a with
 | .pointer (some a)=>oR (loadA tb t m a.block a.off)
 |_=>.bad
noncomputable def opStore (t:TypeId) (m:Mem) (a v:Value):OR :=
 match a with
 | .pointer (some a)=>oM (storeA tb t m a.block a.off v)
 |_=>.bad
def opPick (c a b:Value):OR :=
 match c with
 | .bool true=>.r a
 | .bool false=>.r b
 |_=>.bad
def opExtract (x:Value) (i:Nat):OR :=
 match x with
 | .tuple vs=>oR vs.toList[i]?
 |_=>.bad
noncomputable def opMakeMap (r:Option Value):OR :=
 match r with
 |none=>.f (.map [] 0) fun b=>.map (some b)
 |some _=>.bad
noncomputable def opCall (t:T Value) (m:Mem) (c:Call):OR :=
 match c.callee with
 | .builtin b=>opBuiltin tb m b c.argTypes.toList (evs t c.args.toList)
 |_=>.c
end
noncomputable def kMove (x:Operand) (tb:Tabs) (t:T Value) (m:Mem):OR:=.r (ev t x)
noncomputable def kAssign (x:Operand) (tb:Tabs) (t:T Value) (m:Mem):OR:=.e (ev t x) m
noncomputable def kPick (c a b:Operand) (tb:Tabs) (t:T Value) (m:Mem):OR:=opPick (ev t c) (ev t a) (ev t b)
noncomputable def kAlloc (e:TypeId) (tb:Tabs) (t:T Value) (m:Mem):OR:=opAlloc tb e
noncomputable def kBox (e:TypeId)(x:Operand) (tb:Tabs) (t:T Value) (m:Mem):OR:=opBox e (ev t x)
noncomputable def kBuild (ty:TypeId)(ps:Array (Nat × Operand)) (tb:Tabs) (t:T Value) (m:Mem):OR:=oR (buildA tb ty (evP t ps.toList))
noncomputable def kBuildSlice (ty:TypeId)(n:Nat)(ps:Array (Nat × Operand)) (tb:Tabs) (t:T Value) (m:Mem):OR:=opBuildSlice tb ty n (evP t ps.toList)
noncomputable def kLoad (ty:TypeId)(a:Operand) (tb:Tabs) (t:T Value) (m:Mem):OR:=opLoad tb ty m (ev t a)
noncomputable def kStore (ty:TypeId)(a x:Operand) (tb:Tabs) (t:T Value) (m:Mem):OR:=opStore tb ty m (ev t a) (ev t x)
noncomputable def kNilCheck (x:Operand) (tb:Tabs) (t:T Value) (m:Mem):OR:=opNilCheck (ev t x)
noncomputable def kBinOp (op:BinOp)(ty:TypeId)(x y:Operand) (tb:Tabs) (t:T Value) (m:Mem):OR:=oR (binA tb m op ty x y (ev t x) (ev t y))
noncomputable def kUnOp (op:UnOp)(x:Operand) (tb:Tabs) (t:T Value) (m:Mem):OR:=oR (unA op (ev t x))
noncomputable def kConvert (s d:TypeId)(x:Operand) (tb:Tabs) (t:T Value) (m:Mem):OR:=opConv tb m s d (ev t x)
noncomputable def kMakeInterface (ty:TypeId)(x:Operand) (tb:Tabs) (t:T Value) (m:Mem):OR:=opMkIface tb ty (ev t x)
noncomputable def kMakeFunc (fn:Fn)(first cap:Array Operand) (tb:Tabs) (t:T Value) (m:Mem):OR :=
 match fn with
 | .yield _=>.bad
 |fn=>.r (.func fn ⟨evs t first.toList⟩ ⟨evs t cap.toList⟩)
noncomputable def kMakeMap (r:Option Operand) (tb:Tabs) (t:T Value) (m:Mem):OR:=opMakeMap (evO t r)
noncomputable def kMakeSlice (ty:TypeId)(l c:Operand) (tb:Tabs) (t:T Value) (m:Mem):OR:=opMakeSlice tb ty (ev t l) (ev t c)
noncomputable def kSlice (ty:TypeId)(x:Operand)(lo hi mx:Option Operand) (tb:Tabs) (t:T Value) (m:Mem):OR:=oR (sliceA tb ty m (ev t x) (evO t lo) (evO t hi) (evO t mx))
noncomputable def kSliceToArrayPointer (arr:TypeId)(x:Operand) (tb:Tabs) (t:T Value) (m:Mem):OR:=opSAP tb arr (ev t x)
noncomputable def kFieldAddr (ty:TypeId)(x:Operand)(f:Nat) (tb:Tabs) (t:T Value) (m:Mem):OR:=oR (fieldAddrA tb ty (ev t x) f)
noncomputable def kField (ty:TypeId)(x:Operand)(f:Nat) (tb:Tabs) (t:T Value) (m:Mem):OR:=oR (fieldA tb ty (ev t x) f)
noncomputable def kIndexAddr (ty:TypeId)(x i:Operand) (tb:Tabs) (t:T Value) (m:Mem):OR:=oR (indexAddrA tb ty (ev t x) (ev t i))
noncomputable def kIndex (ty:TypeId)(x i:Operand) (tb:Tabs) (t:T Value) (m:Mem):OR:=oR (indexA tb ty (ev t x) (ev t i))
noncomputable def kLookup (ty:TypeId)(x k:Operand)(ok:Bool) (tb:Tabs) (t:T Value) (m:Mem):OR:=oR (lookupA tb ty m (ev t x) (ev t k) ok)
noncomputable def kMapUpdate (ty:TypeId)(a k x:Operand) (tb:Tabs) (t:T Value) (m:Mem):OR:=oM (mapUpdateA tb ty m (ev t a) (ev t k) (ev t x))
noncomputable def kInsert (ty:TypeId)(a k x:Operand) (tb:Tabs) (t:T Value) (m:Mem):OR:=oM (mapUpdateA tb ty m (ev t a) (ev t k) (ev t x))
noncomputable def kMapEntry (ty:TypeId)(a k:Operand) (tb:Tabs) (t:T Value) (m:Mem):OR:=oE (mapEntryA tb ty m (ev t a) (ev t k))
noncomputable def kEntryStore (a s x:Operand) (tb:Tabs) (t:T Value) (m:Mem):OR:=oM (entryStoreA m (ev t a) (ev t s) (ev t x))
noncomputable def kRange (ty:TypeId)(x:Operand) (tb:Tabs) (t:T Value) (m:Mem):OR:=oE (rangeA tb ty m (ev t x))
noncomputable def kNext (it:Operand)(s:Bool) (tb:Tabs) (t:T Value) (m:Mem):OR:=oE (nextA m (ev t it) s)
noncomputable def kEntry (it:Operand) (tb:Tabs) (t:T Value) (m:Mem):OR:=oR (entryA m (ev t it))
noncomputable def kTypeAssert (x:Operand)(asserted:TypeId)(ok:Bool) (tb:Tabs) (t:T Value) (m:Mem):OR:=oR (typeAssertA tb (ev t x) asserted ok)
noncomputable def kExtract (x:Operand)(i:Nat) (tb:Tabs) (t:T Value) (m:Mem):OR:=opExtract (ev t x) i
noncomputable def kCall (c:Call) (tb:Tabs) (t:T Value) (m:Mem):OR:=opCall tb t m c
def kC (_:Tabs) (_:T Value) (_:Mem):OR:=.c
def kBad (_:Tabs) (_:T Value) (_:Mem):OR:=.bad
noncomputable def opA (o:Op):Tabs→T Value→Mem→OR :=
 match o with
 | .move x=>kMove x
 | .assign x=>kAssign x
 | .pick c a b=>kPick c a b
 | .alloc e=>kAlloc e
 | .box e x=>kBox e x
 | .build ty ps=>kBuild ty ps
 | .buildSlice ty n ps=>kBuildSlice ty n ps
 | .load ty a=>kLoad ty a
 | .store ty a x=>kStore ty a x
 | .nilCheck x=>kNilCheck x
 | .binOp op ty x y _=>kBinOp op ty x y
 | .unOp op _ x=>kUnOp op x
 | .convert s d x=>kConvert s d x
 | .makeInterface ty x=>kMakeInterface ty x
 | .makeFunc fn first cap=>kMakeFunc fn first cap
 | .makeMap _ r=>kMakeMap r
 | .makeSlice ty l c=>kMakeSlice ty l c
 | .slice ty x lo hi mx=>kSlice ty x lo hi mx
 | .sliceToArrayPointer arr x=>kSliceToArrayPointer arr x
 | .fieldAddr ty x f=>kFieldAddr ty x f
 | .field ty x f=>kField ty x f
 | .indexAddr ty x i=>kIndexAddr ty x i
 | .index ty x i=>kIndex ty x i
 | .lookup ty x k ok=>kLookup ty x k ok
 | .mapUpdate ty a k x=>kMapUpdate ty a k x
 | .insert ty a k x=>kInsert ty a k x
 | .mapEntry ty a k=>kMapEntry ty a k
 | .entryStore _ a s x=>kEntryStore a s x
 | .range ty x=>kRange ty x
 | .next it s=>kNext it s
 | .entry it=>kEntry it
 | .typeAssert x _ asserted ok=>kTypeAssert x asserted ok
 | .extract x i=>kExtract x i
 | .call c=>kCall c
 | .defer _=>kC
 | .panic _=>kC
 |_=>kBad
def operandOk (G:Nat):Operand→Bool
 | .const v=>(cellsOfV v).all flatV
 | .global g=>Nat.blt g G
 |_=>true
def opOk (G:Nat) (o:Oper):Bool:=o.op.operands.toList.all (operandOk G)
def rankIn (x:Nat):List Nat→Nat→Nat
 | [],i=>i
 |y::l,i=>match Nat.beq y x with|true=>i|false=>rankIn x l (i+1)
def memN (x:Nat):List Nat→Bool
 | []=>false
 |y::l=>match Nat.beq y x with|true=>true|false=>memN x l
def topoPass (md:Region.Mode):List (Oper × Nat)→List Nat→List Nat
 | [],d=>d
 | (o,j)::l,d=>match memN j d||!o.after.toList.all fun e=>!Region.binds md e||memN e.on d with
   |true=>topoPass md l d
   |false=>topoPass md l (d++[j])
def topo (md:Region.Mode) (l:List (Oper × Nat)):Nat→List Nat→List Nat
 |0,d=>d
 |n+1,d=>topo md l n (topoPass md l d)
def drawBy (md:Region.Mode) (l:List (Oper × Nat)) (n:Nat) (r:Nat→Nat):Bool:=l.all fun (o,j)=>o.after.toList.all fun e=>!Region.binds md e||(Nat.blt e.on n&&Nat.blt (r e.on) (r j))
def drawMd (ops:Array Oper) (md:Region.Mode):Bool :=
 match drawBy md ops.toList.zipIdx ops.toList.length (fun x=>x) with
 |true=>true
 |false=>drawBy md ops.toList.zipIdx ops.toList.length (fun x=>rankIn x (topo md ops.toList.zipIdx ops.toList.length []) 0)
def drawOk (ops:Array Oper):Bool:=drawMd ops .any&&drawMd ops .text&&drawMd ops .gc
def codeOk (G:Nat):Code→Bool
 | .region _ ops draw=>ops.toList.all (opOk G)&&(!draw||drawOk ops)
 | .seq a b=>codeOk G a&&codeOk G b
 | .cond c a b=>operandOk G c&&codeOk G a&&codeOk G b
 | .block _ b=>codeOk G b
 | .loop b=>codeOk G b
 | .scope b=>codeOk G b
 | .rangeFunc f _ a b=>operandOk G f&&codeOk G a&&codeOk G b
 |_=>true
section
variable (tb:Tabs)
inductive HK where
 |r
 |f (b:Nat)
 |s
structure Hist where
 i:Nat
 o:Oper
 vs:List Value
 k:HK
 v:Value
inductive AItem where
 |code (c:Code)
 |inBlock (id:Nat)
 |inLoop (body:Code)
 |inScope (body:Code)
 |ops (ops:Array Oper) (l:List Oper)
 |dr (ops:Array Oper) (rem:List (Nat × Oper)) (hist:List Hist) (mask:Nat)
 |inRangeFunc (loop:Nat)
 |endRangeFunc (loop:Nat)
 |beginRound
structure AFrame where
 fn:FuncId
 tmps:T Value
 nt:Nat
 todo:List AItem
 defers:List Deferred
 mode:FrameMode
 kind:CallKind
 ro:Option Nat
structure AM where
 fr:AFrame
 callers:List AFrame
 mem:Mem
noncomputable def wantedA (t:T Value) (ops:Array Oper) (g:Option (Nat × Bool)):Bool :=
 match g with
 |none=>true
 |some (j,want)=>match ops.toList[j]? with
  |some oj=>match oj.dst with
   |some d=>match t.get d with
    |some (.bool b)=>match b,want with|true,true=>true|false,false=>true|_,_=>false
    |_=>false
   |none=>false
  |none=>false
noncomputable def putT (t:T Value) (nt:Nat) (d:Option Tmp) (v:Value):Option (T Value) :=
 match d with
 |none=>some t
 |some d=>match Nat.blt d nt with
  |true=>match t.set d v with
   | .lf=>some .lf
   | .nd a b c=>some (.nd a b c)
  |false=>none
inductive OpsR where
 |done (t:T Value) (m:Mem)
 |stop (o:Oper) (l:List Oper) (t:T Value) (m:Mem)
 |bad
noncomputable def opsPut (t:Option (T Value)) (m:Mem) (ih:T Value→Mem→OpsR):OpsR :=
 match t with
 |some t=>ih t m
 |none=>.bad
noncomputable def opsK (r:OR) (o:Oper) (l:List Oper) (nt:Nat) (t:T Value) (m:Mem) (ih:T Value→Mem→OpsR):OpsR :=
 match r with
 | .r v=>opsPut (putT t nt o.dst v) m ih
 | .f ob mk=>opsPut (putT t nt o.dst (mk m.next)) (newObjA m ob) ih
 | .e v m=>opsPut (putT t nt o.dst v) m ih
 | .c=>.stop o l t m
 | .bad=>.bad
noncomputable def opsStep (ops:Array Oper) (nt:Nat) (o:Oper) (l:List Oper) (ih:T Value→Mem→OpsR) (t:T Value) (m:Mem):OpsR :=
 match wantedA t ops o.guard with
 |false=>opsPut (putT t nt o.dst undef) m ih
 |true=>opsK (opA o.op tb t m) o l nt t m ih
noncomputable def opsA (ops:Array Oper) (nt:Nat) (l:List Oper):T Value→Mem→OpsR :=
 lrec (β := T Value→Mem→OpsR) (fun t m=>.done t m) (opsStep tb ops nt) l
def blockedBy (bl:List Nat):List Edge→Bool
 | []=>false
 |e::es=>match Region.binds .any e with
  |true=>match bl.any (Nat.beq e.on) with
   |true=>true
   |false=>blockedBy bl es
  |false=>blockedBy bl es
inductive DrR where
 |ok (t:T Value) (m:Mem) (rem:List (Nat × Oper)) (hist:List Hist) (mask:Nat)
 |bad
abbrev DrF:=List Nat→List (Nat × Oper)→T Value→Mem→List Hist→Nat→DrR
def maskOp:List Operand→Nat→Nat
 | [],k=>k
 | .tmp t::l,k=>maskOp l (Nat.lor k (Nat.shiftLeft 1 t))
 |_::l,k=>maskOp l k
def namesA (ops:Array Oper) (o:Oper) (k:Nat):Nat :=
 match o.guard with
 |none=>maskOp o.op.operands.toList k
 |some (j,_)=>match ops.toList[j]? with
  |some oj=>match oj.dst with
   |some d=>maskOp o.op.operands.toList (Nat.lor k (Nat.shiftLeft 1 d))
   |none=>maskOp o.op.operands.toList k
  |none=>maskOp o.op.operands.toList k
def maskA (ops:Array Oper) (o:Oper) (k:Nat):Option Nat :=
 match o.dst with
 |none=>some (namesA ops o k)
 |some d=>match Nat.testBit (namesA ops o k) d with
  |true=>none
  |false=>some (Nat.lor (namesA ops o k) (Nat.shiftLeft 1 d))
def edgeFrom (i:Nat):List Edge→Bool
 | []=>false
 |e::l=>match Nat.beq e.on i with
  |true=>match Region.binds .any e with|true=>true|false=>edgeFrom i l
  |false=>edgeFrom i l
def depsOk (ops:Array Oper) (o:Oper):List Hist→Bool
 | []=>true
 |h::l=>match h.o.dst with
  |none=>depsOk ops o l
  |some d=>match Nat.testBit (namesA ops o 0) d with
   |false=>depsOk ops o l
   |true=>match edgeFrom h.i o.after.toList with
    |true=>depsOk ops o l
    |false=>false
noncomputable def drPut (t:Option (T Value)) (mask:Option Nat) (bl:List Nat) (rem:List (Nat × Oper)) (m:Mem) (hist:List Hist) (ih:DrF):DrR :=
 match t,mask with
 |some t,some mask=>ih bl rem t m hist mask
 |_,_=>.bad
noncomputable def drK (ops:Array Oper) (r:OR) (x:Nat × Oper) (nt:Nat) (ih:DrF) (bl:List Nat) (rem:List (Nat × Oper)) (t:T Value) (m:Mem) (hist:List Hist) (mask:Nat):DrR :=
 match r with
 | .r v=>drPut (putT t nt x.2.dst v) (maskA ops x.2 mask) bl rem m (⟨x.1,x.2,evs t x.2.op.operands.toList,.r,v⟩::hist) ih
 | .f ob mk=>drPut (putT t nt x.2.dst (mk m.next)) (maskA ops x.2 mask) bl rem (newObjA m ob) (⟨x.1,x.2,evs t x.2.op.operands.toList,.f m.next,mk m.next⟩::hist) ih
 | .e _ _=>ih (x.1::bl) (x::rem) t m hist mask
 | .c=>ih (x.1::bl) (x::rem) t m hist mask
 | .bad=>.bad
noncomputable def drStep (ops:Array Oper) (nt:Nat) (x:Nat × Oper) (_:List (Nat × Oper)) (ih:DrF)
  (bl:List Nat) (rem:List (Nat × Oper)) (t:T Value) (m:Mem) (hist:List Hist) (mask:Nat):DrR :=
 match blockedBy bl x.2.after.toList with
 |true=>ih (x.1::bl) (x::rem) t m hist mask
 |false=>match depsOk ops x.2 hist with
  |false=>.bad
  |true=>match wantedA t ops x.2.guard with
  |false=>drPut (putT t nt x.2.dst undef) (maskA ops x.2 mask) bl rem m (⟨x.1,x.2,[],.s,undef⟩::hist) ih
  |true=>drK ops (opA x.2.op tb t m) x nt ih bl rem t m hist mask
noncomputable def drPass (ops:Array Oper) (nt:Nat) (l:List (Nat × Oper)):DrF :=
 lrec (β := DrF) (fun _ rem t m hist mask=>.ok t m rem.reverse hist mask) (drStep tb ops nt) l
def alone:List Nat→List (Nat × Oper)→Bool
 |_,[]=>true
 |bl,(i,o)::l=>match blockedBy bl o.after.toList with
  |true=>alone (i::bl) l
  |false=>false
def vEq:Nat→Value→Value→Bool
 |0,_,_=>false
 |_+1,.bool a,.bool b=>a==b
 |_+1,.int k a,.int k' b=>kEq k k'&&intEq a b
 |_+1,.string a,.string b=>bytesEq a.data.toList b.data.toList
 |_+1,.pointer none,.pointer none=>true
 |_+1,.pointer (some a),.pointer (some b)=>Nat.beq a.block b.block&&Nat.beq a.off b.off&&(match a.spot,b.spot with|none,none=>true|some x,some y=>Nat.beq x y|_,_=>false)
 |_+1,.slice none l c,.slice none l' c'=>Nat.beq l l'&&Nat.beq c c'
 |_+1,.slice (some a) l c,.slice (some b) l' c'=>Nat.beq a.block b.block&&Nat.beq a.off b.off&&(match a.spot,b.spot with|none,none=>true|some x,some y=>Nat.beq x y|_,_=>false)&&Nat.beq l l'&&Nat.beq c c'
 |_+1,.map none,.map none=>true
 |_+1,.map (some a),.map (some b)=>Nat.beq a b
 |_+1,.nilFunc,.nilFunc=>true
 |_+1,.nilIface,.nilIface=>true
 |d+1,.iface t v,.iface u w=>Nat.beq t u&&vEq d v w
 |d+1,.agg a,.agg b=>Nat.beq a.toList.length b.toList.length&&(a.toList.zip b.toList).all fun (x,y)=>vEq d x y
 |d+1,.func (.func f) a c,.func (.func g) b e=>Nat.beq f g&&Nat.beq a.toList.length b.toList.length&&Nat.beq c.toList.length e.toList.length&&((a.toList.zip b.toList).all fun (x,y)=>vEq d x y)&&(c.toList.zip e.toList).all fun (x,y)=>vEq d x y
 |d+1,.tuple a,.tuple b=>Nat.beq a.toList.length b.toList.length&&(a.toList.zip b.toList).all fun (x,y)=>vEq d x y
 |_,_,_=>false
noncomputable def isPure:Op→Bool
 | .move _=>true
 | .pick _ _ _=>true
 | .build _ _=>true
 | .nilCheck _=>true
 | .unOp _ _ _=>true
 | .makeInterface _ _=>true
 | .makeFunc _ _ _=>true
 | .fieldAddr _ _ _=>true
 | .field _ _ _=>true
 | .indexAddr _ _ _=>true
 | .index _ _ _=>true
 | .extract _ _=>true
 |_=>false
def vEqL:List Value→List Value→Bool
 | [],[]=>true
 |x::l,y::k=>match vEq 100 x y with|true=>vEqL l k|false=>false
 |_,_=>false
noncomputable def checkH (ops:Array Oper) (t:T Value) (m:Mem) (h:Hist):Bool :=
 match (match h.o.dst with|none=>true|some d=>vEq 100 (ev t (.tmp d)) h.v) with
 |false=>false
 |true =>
 match h.k with
 | .s=>!wantedA t ops h.o.guard
 | .f _=>wantedA t ops h.o.guard&&vEqL (evs t h.o.op.operands.toList) h.vs
 | .r=>match wantedA t ops h.o.guard&&vEqL (evs t h.o.op.operands.toList) h.vs with
   |false=>false
   |true=>match isPure h.o.op with
    |true=>true
    |false=>match opA h.o.op tb t m with
     | .r w=>vEq 100 h.v w
     |_=>false
noncomputable def recheck (ops:Array Oper) (t:T Value) (m:Mem) (after:List Edge):List Hist→Bool
 | []=>true
 |h::l=>match edgeFrom h.i after with
  |true=>recheck ops t m after l
  |false=>match checkH tb ops t m h with
   |true=>recheck ops t m after l
   |false=>false
inductive ANext where
 |enter (f:FuncId) (args:List Value)
 |round (l:Nat) (args:List Value)
 |value (v:Value)
 |over (v:Value) (m:Mem)
 |bad
def indexByte (c:Nat):List UInt8→Nat→Int
 | [],_ => -1
 |b::l,i=>match Nat.beq b.toNat c with|true=>.ofNat i|false=>indexByte c l (i+1)
def externA (name:String) (args:List Value):ANext :=
 match name == "internal/bytealg.IndexByteString" with
 |true=>match args with
  | [.string s,.int .u8 (.ofNat c)]=>match Nat.blt c 256 with
    |true=>.value (vInt .i64 (indexByte c s.data.toList 0))
    |false=>.bad
  |_=>.bad
 |false=>match name == "internal/abi.NoEscape" with
  |true=>match args with | [x]=>.value x|_=>.bad
  |false=>.bad
noncomputable def callF (f:FuncId) (args:List Value) (m:Mem):ANext :=
 match tb.ov.get f with
 |some g=>match g args m with
  |some (v,m)=>.over v m
  |none=>.enter f args
 |none=>match tb.funcs.get f with
  |some fn=>match fn.body with
   |some _=>.enter f args
   |none=>externA fn.name args
  |none=>.bad
noncomputable def invokeA (fn:Fn) (captured args:List Value) (m:Mem):ANext :=
 match fn with
 | .func f=>callF tb f (args++captured) m
 | .yield l=>.round l args
 | .via t path f ptr=>match args,path.toList with
   |x::rest,[]=>match ptr with
    |true=>match ti tb t with|some i=>(match i.d with | .pointer _=>callF tb f (x::rest) m|_=>.bad)|none=>.bad
    |false=>match ti tb t with|some i=>(match i.d with | .pointer _=>.bad|_=>callF tb f (x::rest) m)|none=>.bad
   |_,_=>.bad
 |_=>.bad
noncomputable def callValue (f:Value) (args:List Value) (m:Mem):ANext :=
 match f with
 | .func fn first captured=>invokeA tb fn captured.toList (first.toList++args) m
 |_=>.bad
noncomputable def enterF (f:FuncId) (args:List Value) (kind:CallKind):Option AFrame :=
 match tb.funcs.get f with
 |some fn=>match fn.body with
  |some c=>some ⟨f,T.ofList args,max fn.ntmps args.length,[.code c],[],.run,kind,none⟩
  |none=>none
 |none=>none
noncomputable def deferOf (t:T Value) (c:Call) (type:TypeId):Option Deferred :=
 match c.callee with
 | .value f=>match ev t f with
   | .func fn first captured=>some { target:=.fn fn captured,args:=⟨first.toList++evs t c.args.toList⟩ }
   |_=>none
 |_=>none
def exitToA (id:Nat):List AItem→Option (List AItem)
 | []=>none
 |i::k=>match i with
  | .inBlock id'=>match Nat.beq id' id with|true=>some k|false=>exitToA id k
  |_=>exitToA id k
def gotoInA (l:Nat):List AItem→Option (List AItem)
 | []=>none
 |i::k=>match i with
  | .inScope body=>match findLabel body l with|some rest=>some (.code rest::.inScope body::k)|none=>gotoInA l k
  |_=>gotoInA l k
noncomputable def resA (t:T Value) (m:Mem):List ResultVar→Option (List Value)
 | []=>some []
 |r::l=>match r with
  | .tmp i=>oB (resA t m l) fun vs=>some ((match t.get i with|some v=>v|none=>undef)::vs)
  | .cell a ty=>match t.get a with
    |some (.pointer (some a))=>oB (loadA tb ty m a.block a.off) fun v=>oB (resA t m l) fun vs=>some (v::vs)
    |_=>none
noncomputable def resultsA (fn:Func) (t:T Value) (m:Mem):Option Value :=
 match resA tb t m fn.results.toList with
 |some [v]=>some v
 |some vs=>some (.tuple ⟨vs⟩)
 |none=>none
def setMode (fr:AFrame) (mode:FrameMode):AFrame :=
 match fr with
 | ⟨fn,tmps,nt,todo,defers,_,kind,ro⟩=>⟨fn,tmps,nt,todo,defers,mode,kind,ro⟩
def am (fr:Option AFrame) (cs:List AFrame) (m:Mem):Option AM :=
 match fr with
 |some fr=>some ⟨fr,cs,m⟩
 |none=>none
noncomputable def finishA (fr:AFrame) (v:Value) (m:Mem):Option AFrame :=
 match fr with
 | ⟨fn,tmps,nt,todo,defers,mode,kind,ro⟩ =>
 match mode with
 | .run=>match todo with
   | []=>none
   |i::k=>match i with
    | .ops ops l=>match l with
      |o::l=>match putT tmps nt o.dst v with
       |some tmps=>some ⟨fn,tmps,nt,.ops ops l::k,defers,.run,kind,ro⟩
       |none=>none
      | []=>none
    | .dr ops rem hist mask=>match rem with
      | (_,o)::rem=>match putT tmps nt o.dst v with
        |some tmps=>match recheck tb ops tmps m o.after.toList hist with
         |true=>some ⟨fn,tmps,nt,.dr ops rem hist mask::k,defers,.run,kind,ro⟩
         |false=>none
        |none=>none
      | []=>none
    | .inRangeFunc l=>some ⟨fn,tmps,nt,.endRangeFunc l::k,defers,.run,kind,ro⟩
    | .beginRound=>some ⟨fn,tmps,nt,k,defers,.run,kind,ro⟩
    |_=>none
 |_=>none
def isDr:List AItem→Bool
 | .dr _ _ _ _::_=>true
 |_=>false
def raiseA (fr:AFrame) (vs:List PanicEntry):AFrame :=
 match fr.mode with
 | .panicking chain=>setMode fr (.panicking (vs++chain))
 |_=>setMode fr (.panicking vs)
noncomputable def foldPut (nt:Nat):List Tmp→List Value→T Value→Option (T Value)
 | [],[],t=>some t
 |p::ps,v::vs,t=>oB (putT t nt (some p) v) fun t=>foldPut nt ps vs t
 |_,_,_=>none
noncomputable def roundA (l:Nat) (args:List Value) (fr:AFrame) (cs:List AFrame) (m:Mem):Option AM :=
 match m.objs.get l with
 |some (.loop _ _ fn tmps nt ps a b _) =>
  match codeOk tb.g a&&codeOk tb.g b&&(tb.funcs.get fn).isSome with
  |false=>none
  |true=>match foldPut nt ps args tmps with
   |some t=>some ⟨⟨fn,t,nt,[.code a,.beginRound,.code b],[],.run,.normal,some l⟩,fr::cs,m⟩
   |none=>none
 |_=>none
noncomputable def goA (n:ANext) (fr:AFrame) (cs:List AFrame) (m:Mem):Option AM :=
 match n with
 | .enter f args=>match enterF tb f args .normal with
   |some g=>some ⟨g,fr::cs,m⟩
   |none=>none
 | .round l args=>roundA tb l args fr cs m
 | .value v=>am (finishA tb fr v m) cs m
 | .over v m=>am (finishA tb fr v m) cs m
 | .bad=>none
noncomputable def recoverA (fr:AFrame) (cs:List AFrame) (m:Mem):Option AM :=
 match fr.ro with
 |some _=>none
 |none=>match fr.kind with
  | .normal=>am (finishA tb fr .nilIface m) cs m
  | .deferred=>match cs with
    |c::rest=>match c.mode with
     | .panicking (p::older)=>match p.recovered,p.goexit with
       |false,false=>am (finishA tb fr p.v m) (setMode c (.panicking ({ v:=p.v,recovered:=true }::older))::rest) m
       |_,_=>am (finishA tb fr .nilIface m) cs m
     |_=>am (finishA tb fr .nilIface m) cs m
    | []=>none
  |_=>none
def addDefer (fr:AFrame) (d:Deferred):AFrame :=
 match fr with
 | ⟨fn,tmps,nt,todo,defers,mode,kind,ro⟩=>⟨fn,tmps,nt,todo,d::defers,mode,kind,ro⟩
noncomputable def deferA (d:Deferred) (fr:AFrame) (cs:List AFrame) (m:Mem):Option AM :=
 match fr.ro with
 |none=>am (finishA tb (addDefer fr d) undef m) cs m
 |some l=>match m.objs.get l with
  |some (.loop _ _ _ _ _ _ _ _ ds)=>match m.objs.get ds with
   |some (.dfr (some calls))=>am (finishA tb fr undef (putObj m ds (.dfr (some (d::calls))))) cs (putObj m ds (.dfr (some (d::calls))))
   |_=>none
  |_=>none
noncomputable def doCall (o:Oper) (fr:AFrame) (cs:List AFrame) (m:Mem):Option AM :=
 match o.op with
 | .call c=>match c.callee with
   | .value f=>goA tb (callValue tb (ev fr.tmps f) (evs fr.tmps c.args.toList) m) fr cs m
   | .builtin b=>match b with
     | .recover=>recoverA tb fr cs m
     | .panic=>match evs fr.tmps c.args.toList with
       | [.iface t v]=>some ⟨raiseA fr [{ v:=.iface t v,recovered:=false }],cs,m⟩
       |_=>none
     |_=>none
   | .invoke _ _=>none
 | .defer c=>match deferOf fr.tmps c o.type with
   |some d=>deferA tb d fr cs m
   |none=>none
 | .panic x=>match ev fr.tmps x with
   | .iface t v=>some ⟨raiseA fr [{ v:=.iface t v,recovered:=false }],cs,m⟩
   |_=>none
 |_=>none
noncomputable def leaveA (fr:AFrame) (cs:List AFrame) (m:Mem) (jump:Option Code):Option AM :=
 match fr.ro with
 |none=>match jump with
  |none=>some ⟨setMode fr .returning,cs,m⟩
  |some c=>match c with
   | .ret=>some ⟨setMode fr .returning,cs,m⟩
   |_=>none
 |some l=>match m.objs.get l with
  |some (.loop _ _ fn tmps nt ps a b ds) =>
   match fr.kind with
   | .normal=>match cs with
    |c::rest=>match jump with
     |none=>am (finishA tb c (.bool true) (putObj m l (.loop .ready none fn tmps nt ps a b ds))) rest (putObj m l (.loop .ready none fn tmps nt ps a b ds))
     |some j=>am (finishA tb c (.bool false) (putObj m l (.loop .done (some j) fn tmps nt ps a b ds))) rest (putObj m l (.loop .done (some j) fn tmps nt ps a b ds))
    | []=>none
   |_=>none
  |_=>none
noncomputable def returnA (fn:FuncId) (tmps:T Value) (kind:CallKind) (cs:List AFrame) (m:Mem):Option AM :=
 match cs with
 | []=>none
 |c::rest =>
  match tb.funcs.get fn with
  |none=>none
  |some fn=>match resultsA tb fn tmps m with
   |none=>none
   |some v=>match kind with
    | .normal=>am (finishA tb c v m) rest m
    | .deferred =>
      match c.mode with
      | .panicking (p::older)=>match p.recovered with
        |true=>match older with
         | []=>match isDr c.todo with
           |true=>none
           |false=>some ⟨setMode c .returning,rest,m⟩
         |_=>none
        |false=>some ⟨c,rest,m⟩
      | .panicking []=>none
      | .returning=>some ⟨c,rest,m⟩
      | .run=>none
    |_=>none
noncomputable def unwindA (fr:AFrame) (cs:List AFrame) (m:Mem):Option AM :=
 match fr with
 | ⟨fn,tmps,nt,todo,defers,mode,kind,ro⟩ =>
 match defers with
 |d::ds=>match d.target with
  | .collected b=>match m.objs.get b with
    |some (.dfr (some calls))=>some ⟨⟨fn,tmps,nt,todo,calls++ds,mode,kind,ro⟩,cs,putObj m b (.dfr none)⟩
    |_=>none
  | .fn fv cap=>match invokeA tb fv cap.toList d.args.toList m with
    | .enter f args=>match enterF tb f args .deferred with
      |some g=>some ⟨g,⟨fn,tmps,nt,todo,ds,mode,kind,ro⟩::cs,m⟩
      |none=>none
    |_=>none
  |_=>none
 | [] =>
   match mode with
   | .run=>none
   | .panicking chain=>match cs with
     |c::rest=>some ⟨raiseA c chain,rest,m⟩
     | []=>none
   | .returning=>returnA tb fn tmps kind cs m
def frm (fn:FuncId) (tmps:T Value) (nt:Nat) (k:List AItem) (ds:List Deferred) (kind:CallKind) (ro:Option Nat):AFrame:=⟨fn,tmps,nt,k,ds,.run,kind,ro⟩
def mkA (fn:FuncId) (tmps:T Value) (nt:Nat) (ds:List Deferred) (kind:CallKind) (ro:Option Nat) (cs:List AFrame) (m:Mem) (k:List AItem):Option AM :=
 some ⟨⟨fn,tmps,nt,k,ds,.run,kind,ro⟩,cs,m⟩
def condA (v:Value) (a b:Code) (k:List AItem) (mk:List AItem→Option AM):Option AM :=
 match v with
 | .bool true=>mk (.code a::k)
 | .bool false=>mk (.code b::k)
 |_=>none
def jumpA (k:Option (List AItem)) (mk:List AItem→Option AM) (leave:Option AM):Option AM :=
 match k with
 |some k=>mk k
 |none=>leave
noncomputable def regionA (ops:Array Oper) (draw:Bool) (k:List AItem) (mk:List AItem→Option AM):Option AM :=
 match draw with
 |false=>mk (.ops ops ops.toList::k)
 |true=>mk (.dr ops ((List.range ops.toList.length).zip ops.toList) [] 0::k)
noncomputable def rangeFuncA (f:Value) (ps:List Tmp) (a b:Code) (k:List AItem) (fn:FuncId) (tmps:T Value) (nt:Nat) (ds:List Deferred) (kind:CallKind) (ro:Option Nat) (cs:List AFrame) (m:Mem):Option AM :=
 match ro with
 |none =>
  goA tb (callValue tb f [.func (.yield (m.next+1)) #[] #[]] (newObjA (newObjA m (.dfr (some []))) (.loop .ready none fn tmps nt ps a b m.next))) (frm fn tmps nt (.inRangeFunc (m.next+1)::k) ({ target:=.collected m.next,args := #[] }::ds) kind ro) cs
   (newObjA (newObjA m (.dfr (some []))) (.loop .ready none fn tmps nt ps a b m.next))
 |some l=>match m.objs.get l with
  |some (.loop _ _ _ _ _ _ _ _ db) =>
   goA tb (callValue tb f [.func (.yield m.next) #[] #[]] (newObjA m (.loop .ready none fn tmps nt ps a b db))) (frm fn tmps nt (.inRangeFunc m.next::k) ds kind ro) cs (newObjA m (.loop .ready none fn tmps nt ps a b db))
  |_=>none
noncomputable def codeA (c:Code) (k:List AItem) (fn:FuncId) (tmps:T Value) (nt:Nat) (ds:List Deferred) (kind:CallKind) (ro:Option Nat) (cs:List AFrame) (m:Mem):Option AM :=
 match c with
 | .skip=>mkA fn tmps nt ds kind ro cs m k
 | .label _=>mkA fn tmps nt ds kind ro cs m k
 | .seq a b=>mkA fn tmps nt ds kind ro cs m (.code a::.code b::k)
 | .cond c a b=>condA (ev tmps c) a b k (mkA fn tmps nt ds kind ro cs m)
 | .block id b=>mkA fn tmps nt ds kind ro cs m (.code b::.inBlock id::k)
 | .loop b=>mkA fn tmps nt ds kind ro cs m (.code b::.inLoop b::k)
 | .scope b=>mkA fn tmps nt ds kind ro cs m (.code b::.inScope b::k)
 | .exit id=>jumpA (exitToA id k) (mkA fn tmps nt ds kind ro cs m) (leaveA tb (frm fn tmps nt k ds kind ro) cs m (some (.exit id)))
 | .goto l=>jumpA (gotoInA l k) (mkA fn tmps nt ds kind ro cs m) (leaveA tb (frm fn tmps nt k ds kind ro) cs m (some (.goto l)))
 | .ret=>leaveA tb (frm fn tmps nt k ds kind ro) cs m (some .ret)
 | .refuse _=>none
 | .region _ ops draw=>regionA ops draw k (mkA fn tmps nt ds kind ro cs m)
 | .rangeFunc f ps a b=>rangeFuncA tb (ev tmps f) ps.toList a b k fn tmps nt ds kind ro cs m
noncomputable def opsItem (ops:Array Oper) (l:List Oper) (k:List AItem) (fn:FuncId) (tmps:T Value) (nt:Nat) (ds:List Deferred) (kind:CallKind) (ro:Option Nat) (cs:List AFrame) (m:Mem):Option AM :=
 match opsA tb ops nt l tmps m with
 | .done t m=>mkA fn t nt ds kind ro cs m k
 | .stop o l t m=>doCall tb o (frm fn t nt (.ops ops (o::l)::k) ds kind ro) cs m
 | .bad=>none
noncomputable def drWrite (ops:Array Oper) (rem:List (Nat × Oper)) (hist:List Hist) (mask:Nat) (k:List AItem) (fn:FuncId) (t:T Value) (nt:Nat) (ds:List Deferred) (kind:CallKind) (ro:Option Nat) (cs:List AFrame) (m:Mem):Option AM :=
 match rem with
 | []=>mkA fn t nt ds kind ro cs m k
 | (i,o)::l=>match alone [i] l&&depsOk ops o hist&&wantedA t ops o.guard with
   |false=>none
   |true=>match opA o.op tb t m with
    | .e v m=>am (finishA tb (frm fn t nt (.dr ops ((i,o)::l) hist mask::k) ds kind ro) v m) cs m
    | .c=>doCall tb o (frm fn t nt (.dr ops ((i,o)::l) hist mask::k) ds kind ro) cs m
    |_=>none
noncomputable def drItem (ops:Array Oper) (rem:List (Nat × Oper)) (hist:List Hist) (mask:Nat) (k:List AItem) (fn:FuncId) (tmps:T Value) (nt:Nat) (ds:List Deferred) (kind:CallKind) (ro:Option Nat) (cs:List AFrame) (m:Mem):Option AM :=
 match drPass tb ops nt rem [] [] tmps m hist mask with
 | .ok t m rem hist mask=>drWrite tb ops rem hist mask k fn t nt ds kind ro cs m
 | .bad=>none
noncomputable def beginA (l:Nat) (k:List AItem) (fn:FuncId) (tmps:T Value) (nt:Nat) (ds:List Deferred) (kind:CallKind) (cs:List AFrame) (m:Mem):Option AM :=
 match m.objs.get l with
 |some (.loop .ready pe f t n ps a b d)=>mkA fn tmps nt ds kind (some l) cs (putObj m l (.loop .busy pe f t n ps a b d)) k
 |_=>none
noncomputable def endA (l:Nat) (k:List AItem) (fn:FuncId) (tmps:T Value) (nt:Nat) (ds:List Deferred) (kind:CallKind) (ro:Option Nat) (cs:List AFrame) (m:Mem):Option AM :=
 match m.objs.get l with
 |some (.loop st pe f t n ps a b d)=>match st with
  | .busy=>none
  |_=>match pe with
   |some c=>match codeOk tb.g c with
    |true=>mkA fn tmps nt ds kind ro cs (putObj m l (.loop .exhausted (some c) f t n ps a b d)) (.code c::k)
    |false=>none
   |none=>mkA fn tmps nt ds kind ro cs (putObj m l (.loop .exhausted none f t n ps a b d)) k
 |_=>none
noncomputable def itemA (i:AItem) (k:List AItem) (fn:FuncId) (tmps:T Value) (nt:Nat) (ds:List Deferred) (kind:CallKind) (ro:Option Nat) (cs:List AFrame) (m:Mem):Option AM :=
 match i with
 | .code c=>codeA tb c k fn tmps nt ds kind ro cs m
 | .inBlock _=>mkA fn tmps nt ds kind ro cs m k
 | .inScope _=>mkA fn tmps nt ds kind ro cs m k
 | .inLoop b=>mkA fn tmps nt ds kind ro cs m (.code b::.inLoop b::k)
 | .ops ops l=>opsItem tb ops l k fn tmps nt ds kind ro cs m
 | .dr ops rem hist mask=>drItem tb ops rem hist mask k fn tmps nt ds kind ro cs m
 | .inRangeFunc _=>none
 | .beginRound=>match ro with|some l=>beginA l k fn tmps nt ds kind cs m|none=>none
 | .endRangeFunc l=>endA tb l k fn tmps nt ds kind ro cs m
noncomputable def runFrame (todo:List AItem) (fn:FuncId) (tmps:T Value) (nt:Nat) (ds:List Deferred) (kind:CallKind) (ro:Option Nat) (cs:List AFrame) (m:Mem):Option AM :=
 match todo with
 | []=>leaveA tb (frm fn tmps nt [] ds kind ro) cs m none
 |i::k=>itemA tb i k fn tmps nt ds kind ro cs m
noncomputable def stepFr (fr:AFrame) (cs:List AFrame) (m:Mem):Option AM :=
 match fr with
 | ⟨fn,tmps,nt,todo,ds,mode,kind,ro⟩ =>
   match mode with
   | .run=>runFrame tb todo fn tmps nt ds kind ro cs m
   |mode=>unwindA tb ⟨fn,tmps,nt,todo,ds,mode,kind,ro⟩ cs m
noncomputable def stepA (am:AM):Option AM :=
 match am with
 | ⟨fr,cs,m⟩=>stepFr tb fr cs m
def doneA (am:AM):Bool :=
 match am with
 | ⟨fr,cs,_⟩=>match cs with
   | []=>match fr with
     | ⟨_,_,_,_,ds,mode,_,_⟩=>match ds,mode with
       | [],.returning=>true
       |_,_=>false
   |_=>false
noncomputable def runA (n:Nat):AM→Option AM :=
 Nat.rec (motive:=fun _=>AM→Option AM) (fun am=>some am)
  (fun _ ih am=>match doneA am with
   |true=>some am
   |false=>match stepA tb am with
    |some am=>ih am
    |none=>none) n
end
end Go.Ev

namespace Go.Ev
variable {tb:Tabs}
theorem evs_congr {t t':T Value}:∀ {l:List Operand},(∀ x∈l,ev t x=ev t' x)→evs t l=evs t' l
 | [],_=>rfl
 |x::l,h=>by simp only [evs];rw [h x (by simp),evs_congr fun y hy=>h y (by simp [hy])]
theorem evP_congr {t t':T Value}:∀ {l:List (Nat × Operand)},(∀ x∈l.map (·.2),ev t x=ev t' x)→evP t l=evP t' l
 | [],_=>rfl
 | (i,x)::l,h=>by
   simp only [evP];rw [h x (by simp),evP_congr fun y hy=>h y (by simp at hy ⊢;exact .inr hy)]
theorem evO_congr {t t':T Value}:∀ {o:Option Operand},(∀ x,o=some x→ev t x=ev t' x)→evO t o=evO t' o
 |none,_=>rfl
 |some x,h=>by simp only [evO];rw [h x rfl]
theorem opA_congr {o:Op} {t t':T Value} (h:∀ x∈o.operands.toList,ev t x=ev t' x) (m:Mem):opA o tb t m=opA o tb t' m:=by
 cases o<;>simp only [Op.operands] at h<;>try rfl
 case move x=>simp only [opA,kMove];rw [h x (by simp)]
 case assign x=>simp only [opA,kAssign];rw [h x (by simp)]
 case pick c a b=>simp only [opA,kPick];rw [h c (by simp),h a (by simp),h b (by simp)]
 case box e x=>simp only [opA,kBox];rw [h x (by simp)]
 case build ty ps=>simp only [opA,kBuild];rw [evP_congr (by simpa using h)]
 case buildSlice ty n ps=>simp only [opA,kBuildSlice];rw [evP_congr (by simpa using h)]
 case insert ty a k x=>simp only [opA,kInsert];rw [h a (by simp),h k (by simp),h x (by simp)]
 case load ty a=>simp only [opA,kLoad];rw [h a (by simp)]
 case store ty a x=>simp only [opA,kStore];rw [h a (by simp),h x (by simp)]
 case nilCheck x=>simp only [opA,kNilCheck];rw [h x (by simp)]
 case binOp op ty x y yt=>simp only [opA,kBinOp];rw [h x (by simp),h y (by simp)]
 case unOp op ty x=>simp only [opA,kUnOp];rw [h x (by simp)]
 case convert s d x=>simp only [opA,kConvert];rw [h x (by simp)]
 case sliceToArrayPointer a x=>simp only [opA,kSliceToArrayPointer];rw [h x (by simp)]
 case makeInterface ty x=>simp only [opA,kMakeInterface];rw [h x (by simp)]
 case makeFunc fn f c =>
  simp only [opA,kMakeFunc]
  rw [evs_congr (l:=f.toList) fun x hx=>h x (by simp at hx ⊢;exact .inl hx),evs_congr (l:=c.toList) fun x hx=>h x (by simp at hx ⊢;exact .inr hx)]
 case makeMap ty r=>simp only [opA,kMakeMap];rw [evO_congr fun x hx=>h x (by rw [hx];simp)]
 case makeSlice ty l c=>simp only [opA,kMakeSlice];rw [h l (by simp),h c (by simp)]
 case slice ty x lo hi mx =>
  simp only [opA,kSlice]
  rw [h x (by simp),evO_congr (o:=lo) fun x hx=>h x (by rw [hx];simp),evO_congr (o:=hi) fun x hx=>h x (by rw [hx];simp),evO_congr (o:=mx) fun x hx=>h x (by rw [hx];simp)]
 case fieldAddr ty x f=>simp only [opA,kFieldAddr];rw [h x (by simp)]
 case field ty x f=>simp only [opA,kField];rw [h x (by simp)]
 case indexAddr ty x i=>simp only [opA,kIndexAddr];rw [h x (by simp),h i (by simp)]
 case index ty x i=>simp only [opA,kIndex];rw [h x (by simp),h i (by simp)]
 case lookup ty x k ok=>simp only [opA,kLookup];rw [h x (by simp),h k (by simp)]
 case mapUpdate ty a k x=>simp only [opA,kMapUpdate];rw [h a (by simp),h k (by simp),h x (by simp)]
 case mapEntry ty a k=>simp only [opA,kMapEntry];rw [h a (by simp),h k (by simp)]
 case entryStore ty a s x=>simp only [opA,kEntryStore];rw [h a (by simp),h s (by simp),h x (by simp)]
 case range ty x=>simp only [opA,kRange];rw [h x (by simp)]
 case next it s=>simp only [opA,kNext];rw [h it (by simp)]
 case entry it=>simp only [opA,kEntry];rw [h it (by simp)]
 case typeAssert x xt a ok=>simp only [opA,kTypeAssert];rw [h x (by simp)]
 case extract x i=>simp only [opA,kExtract];rw [h x (by simp)]
 case call c =>
  simp only [opA,kCall,opCall]
  rw [evs_congr (l:=c.args.toList) fun x hx=>h x (by simp [Call.operands];exact .inr (by simpa using hx))]
theorem oR_f {x:Option Value} {ob:AObj} {mk:Nat→Value} (h:oR x=.f ob mk):False:=by cases x<;>simp [oR] at h
theorem oE_f {x:Option (Value × Mem)} {ob:AObj} {mk:Nat→Value} (h:oE x=.f ob mk):False:=by
 cases x with
 |none=>simp [oE] at h
 |some x=>obtain⟨_,_⟩:=x;simp [oE] at h
theorem oM_f {x:Option Mem} {ob:AObj} {mk:Nat→Value} (h:oM x=.f ob mk):False:=by cases x<;>simp [oM] at h
theorem convSl_f {m:Mem} {same:Bool} {s d:TypeDesc} {x:Value} {a:Addr} {l:Nat} {ob:AObj} {mk:Nat→Value} (h:convSl tb m same s d x a l=.f ob mk):False:=by
 unfold convSl at h
 repeat (split at h<;>try (simp at h;done))
theorem convPtr_f {m:Mem} {s d:TypeDesc} {a:Addr} {ob:AObj} {mk:Nat→Value} (h:convPtr tb m s d a=.f ob mk):False:=by
 unfold convPtr at h
 repeat (split at h<;>try (simp at h;done))
theorem opUnsafeString_f {m:Mem} {tys:List TypeId} {p:Option Addr} {n:Nat} {ob:AObj} {mk:Nat→Value} (h:opUnsafeString tb m tys p n=.f ob mk):False:=by
 unfold opUnsafeString at h
 repeat (split at h<;>try (simp at h;done))
theorem opBuiltin_f {m:Mem} {b:Builtin} {tys:List TypeId} {args:List Value} {ob:AObj} {mk:Nat→Value} (h:opBuiltin tb m b tys args=.f ob mk):False:=by
 unfold opBuiltin at h
 split at h<;>first|(simp at h;done)|skip
 all_goals (repeat (split at h<;>try (simp at h;done)))
 all_goals first|exact oR_f h|exact oE_f h|exact oM_f h|exact opUnsafeString_f h|skip
theorem opA_f {o:Op} {t:T Value} {m:Mem} {ob:AObj} {mk:Nat→Value} (h:opA o tb t m=.f ob mk) (m':Mem):opA o tb t m'=.f ob mk:=by
 cases o<;>try exact h
 all_goals first
  |exact absurd h (fun h=>oR_f h)
  |exact absurd h (fun h=>oE_f h)
  |exact absurd h (fun h=>oM_f h)
  |skip
 case assign x=>simp [opA,kAssign] at h
 case load ty a =>
  simp only [opA,kLoad,opLoad] at h
  split at h
  ·exact absurd h (fun h=>oR_f h)
  ·simp at h
 case store ty a x =>
  simp only [opA,kStore,opStore] at h
  split at h
  ·exact absurd h (fun h=>oM_f h)
  ·simp at h
 case convert s d x =>
  simp only [opA,kConvert,opConv] at h ⊢
  split at h<;>first|(simp at h;done)|skip
  rename_i s d hs hd
  split at h
  ·exact h
  ·exact h
  ·exact h
  ·exact absurd h (fun h=>convSl_f h)
  ·exact absurd h (fun h=>convPtr_f h)
  ·simp at h
 case call c =>
  simp only [opA,kCall,opCall] at h ⊢
  split at h
  ·exact absurd h (fun h=>opBuiltin_f h)
  ·simp at h
theorem opA_pure {o:Op} (h:isPure o=true) (t:T Value) (m m':Mem):opA o tb t m=opA o tb t m':=by
 cases o<;>first|rfl|(simp [isPure] at h)
def Sub (m m':Mem):Prop:=∀ b o,m.objs.get b=some o→m'.objs.get b=some o
theorem Sub.refl (m:Mem):Sub m m:=fun _ _ h=>h
section
variable {m m':Mem} (S:Sub m m')
include S
theorem rowOf_sub {b:Nat} {r:Row} (h:rowOf m b=some r):rowOf m' b=some r:=by
 unfold rowOf at h ⊢
 split at h<;>first|(simp at h;done)|skip
 ·rename_i q hq;rw [S _ _ hq];exact h
 ·rename_i q hq;rw [S _ _ hq];exact h
theorem mapOf_sub {b:Nat} {r:List MapEntry × Nat} (h:mapOf m b=some r):mapOf m' b=some r:=by
 unfold mapOf at h ⊢
 split at h<;>first|(simp at h;done)|skip
 rename_i q c hq;rw [S _ _ hq];exact h
theorem loadA_sub {t b o:Nat} {v:Value} (h:loadA tb t m b o=some v):loadA tb t m' b o=some v:=by
 unfold loadA at h ⊢
 obtain⟨i,hi,h⟩:=oB_some.1 h
 obtain⟨r,hr,h⟩:=oB_some.1 h
 rw [hi];simp only [oB];rw [rowOf_sub S hr];exact h
theorem bytesAt_sub {b o n:Nat} {v:ByteArray} (h:bytesAt m b o n=some v):bytesAt m' b o n=some v:=by
 unfold bytesAt at h ⊢
 obtain⟨r,hr,h⟩:=oB_some.1 h
 rw [rowOf_sub S hr];exact h
theorem ptrEq_sub {a b:Addr} {r:Bool} (h:ptrEq m a b=some r):ptrEq m' a b=some r:=by
 unfold ptrEq at h ⊢
 split at h
 ·exact h
 ·split at h<;>first|(simp at h;done)|skip
  rename_i r q hr hq
  rw [rowOf_sub S hr,rowOf_sub S hq];exact h
theorem eqPtr_sub {a b:Option Addr} {r:Bool} (h:eqPtr m a b=some r):eqPtr m' a b=some r:=by
 unfold eqPtr at h ⊢
 split at h<;>first|exact h|exact ptrEq_sub S h
theorem eqPt_sub {e:TypeId} {x y:Value} {r:Bool} (h:eqPt tb m e x y=some r):eqPt tb m' e x y=some r:=by
 unfold eqPt at h ⊢
 split at h<;>first|(simp at h;done)|skip
 obtain⟨i,hi,h⟩:=oB_some.1 h
 rw [hi];simp only [oB]
 split at h
 ·simp at h
 ·exact eqPtr_sub S h
omit S in
theorem eqFields_mono {eq eq':TypeId→Value→Value→Option Bool} (he:∀ t x y r,eq t x y=some r→eq' t x y=some r) {xs ys:List Value}:∀ {fs:List (Nat × Nat × TypeId × Bool)} {r:Bool},eqFields tb eq xs ys fs=some r→eqFields tb eq' xs ys fs=some r
 | [],r,h=>h
 | (o,s,t,b)::fs,r,h=>by
   simp only [eqFields] at h ⊢
   cases b with
   |true=>exact eqFields_mono he h
   |false =>
    obtain⟨x,hx,h⟩:=oB_some.1 h
    obtain⟨y,hy,h⟩:=oB_some.1 h
    obtain⟨q,hq,h⟩:=oB_some.1 h
    simp only
    rw [hx];simp only [oB];rw [hy];simp only [he _ _ _ _ hq]
    cases q with
    |true=>exact eqFields_mono he h
    |false=>exact h
omit S in
theorem eqElems_mono {eq eq':TypeId→Value→Value→Option Bool} (he:∀ t x y r,eq t x y=some r→eq' t x y=some r) {elem n:Nat} {xs ys:List Value}:∀ {k i:Nat} {r:Bool},eqElems tb eq elem n xs ys k i=some r→eqElems tb eq' elem n xs ys k i=some r
 |0,i,r,h=>h
 |k+1,i,r,h=>by
  simp only [eqElems] at h ⊢
  obtain⟨x,hx,h⟩:=oB_some.1 h
  obtain⟨y,hy,h⟩:=oB_some.1 h
  obtain⟨q,hq,h⟩:=oB_some.1 h
  rw [hx];simp only [oB];rw [hy];simp only [he _ _ _ _ hq]
  cases q with
  |true=>exact eqElems_mono he h
  |false=>exact h
omit S in
theorem eqIf_mono {eq eq':TypeId→Value→Value→Option Bool} (he:∀ t x y r,eq t x y=some r→eq' t x y=some r) {x y:Value} {r:Bool} (h:eqIf tb eq x y=some r):eqIf tb eq' x y=some r:=by
 unfold eqIf at h ⊢
 split at h<;>try exact h
 split at h<;>try exact h
 rename_i hb
 obtain⟨j,hj,h⟩:=oB_some.1 h
 simp only [hj,oB]
 split at h<;>first|(simp at h;done)|skip
 exact he _ _ _ _ h
omit S in
theorem eqSt_mono {eq eq':TypeId→Value→Value→Option Bool} (he:∀ t x y r,eq t x y=some r→eq' t x y=some r) {i:TI} {x y:Value} {r:Bool} (h:eqSt tb eq i x y=some r):eqSt tb eq' i x y=some r:=by
 unfold eqSt at h ⊢
 split at h<;>try exact h
 split at h<;>try exact h
 exact eqFields_mono he h
omit S in
theorem eqAr_mono {eq eq':TypeId→Value→Value→Option Bool} (he:∀ t x y r,eq t x y=some r→eq' t x y=some r) {n:Nat} {e:TypeId} {x y:Value} {r:Bool} (h:eqAr tb eq n e x y=some r):eqAr tb eq' n e x y=some r:=by
 unfold eqAr at h ⊢
 split at h<;>try exact h
 obtain⟨j,hj,h⟩:=oB_some.1 h
 rw [hj];simp only [oB]
 exact eqElems_mono he h
theorem eqA_sub:∀ (d:Nat) (t:TypeId) (x y:Value) (r:Bool),eqA tb m d t x y=some r→eqA tb m' d t x y=some r
 |0,_,_,_,_,h=>by simp [eqA] at h
 |d+1,t,x,y,r,h=>by
  simp only [eqA] at h ⊢
  obtain⟨i,hi,h⟩:=oB_some.1 h
  rw [hi];simp only [oB]
  cases hd:i.d<;>rw [hd] at h<;>simp only at h ⊢ <;>
   first|exact h|exact eqPt_sub S h|exact eqIf_mono (eqA_sub d) h|exact eqSt_mono (eqA_sub d) h|exact eqAr_mono (eqA_sub d) h
theorem binA_sub {op:BinOp} {t:TypeId} {x y:Operand} {a b v:Value} (h:binA tb m op t x y a b=some v):binA tb m' op t x y a b=some v:=by
 have key:∀ {r:Bool},eqOp tb m t x y a b=some r→eqOp tb m' t x y a b=some r:=by
  intro r h
  unfold eqOp at h ⊢
  split at h
  ·exact eqA_sub S _ _ _ _ _ h
  ·simp at h
 unfold binA at h ⊢
 split at h<;>try exact h
 split at h<;>try exact h
 ·obtain⟨r,hr,h⟩:=oB_some.1 h
  rw [key hr];exact h
 ·obtain⟨r,hr,h⟩:=oB_some.1 h
  rw [key hr];exact h
theorem sliceA_sub {t:TypeId} {x v:Value} {lo hi mx:Option Value} (h:sliceA tb t m x lo hi mx=some v):sliceA tb t m' x lo hi mx=some v:=by
 unfold sliceA at h ⊢
 obtain⟨i,hi',h⟩:=oB_some.1 h
 rw [hi'];simp only [oB]
 split at h<;>try exact h
 ·obtain⟨⟨l,h0,q⟩,hb,h⟩:=oB_some.1 h
  obtain⟨e,he,h⟩:=oB_some.1 h
  obtain⟨r,hr,h⟩:=oB_some.1 h
  rw [hb];simp only;rw [he];simp only;rw [rowOf_sub S hr];exact h
 ·obtain⟨⟨l,h0,q⟩,hb,h⟩:=oB_some.1 h
  obtain⟨e,he,h⟩:=oB_some.1 h
  obtain⟨r,hr,h⟩:=oB_some.1 h
  rw [hb];simp only;rw [he];simp only;rw [rowOf_sub S hr];exact h
theorem lenA_sub {t:TypeId} {x v:Value} (h:lenA tb t m x=some v):lenA tb t m' x=some v:=by
 unfold lenA at h ⊢
 split at h<;>try exact h
 obtain⟨i,hi,h⟩:=oB_some.1 h
 rw [hi];simp only [oB]
 split at h<;>try exact h
 split at h<;>first|(simp at h;done)|skip
 rename_i hq
 rw [S _ _ hq];exact h
theorem capA_sub {t:TypeId} {x v:Value} (h:capA tb t m x=some v):capA tb t m' x=some v:=by
 unfold capA at h ⊢
 split at h<;>try exact h
 obtain⟨i,hi,h⟩:=oB_some.1 h
 rw [hi];simp only [oB]
 split at h<;>try exact h
 split at h<;>try exact h
 obtain⟨r,hr,h⟩:=oB_some.1 h
 rw [rowOf_sub S hr];exact h
theorem keyFind_sub {kt:TypeId} {k:Value}:∀ {es:List MapEntry} {i:Nat} {q:Option (Nat × Value)},keyFind tb m kt k es i=some q→keyFind tb m' kt k es i=some q
 | [],i,q,h=>h
 |e::es,i,q,h=>by
  simp only [keyFind] at h ⊢
  obtain⟨r,hr,h⟩:=oB_some.1 h
  rw [eqA_sub S _ _ _ _ _ hr];simp only [oB]
  cases r with
  |true=>exact h
  |false=>exact keyFind_sub h
theorem lookupA_sub {t:TypeId} {x k v:Value} {ok:Bool} (h:lookupA tb t m x k ok=some v):lookupA tb t m' x k ok=some v:=by
 unfold lookupA at h ⊢
 obtain⟨i,hi,h⟩:=oB_some.1 h
 rw [hi];simp only [oB]
 split at h<;>try exact h
 split at h<;>try exact h
 split at h<;>try exact h
 obtain⟨⟨es,c⟩,hm,h⟩:=oB_some.1 h
 obtain⟨q,hq,h⟩:=oB_some.1 h
 rw [mapOf_sub S hm];simp only;rw [keyFind_sub S hq];exact h
theorem entryA_sub {it v:Value} (h:entryA m it=some v):entryA m' it=some v:=by
 unfold entryA at h ⊢
 split at h<;>try exact h
 split at h<;>first|(simp at h;done)|skip
 rename_i hq
 rw [S _ _ hq];simp only
 split at h<;>try exact h
 rename_i hl
 obtain⟨⟨es,c⟩,hm,h⟩:=oB_some.1 h
 rw [mapOf_sub S hm];exact h
omit S in
theorem oR_sub {x x':Option Value} (hx:∀ v,x=some v→x'=some v) {v:Value} (h:oR x=.r v):oR x'=.r v:=by
 cases x with
 |none=>simp [oR] at h
 |some u=>simp only [oR,OR.r.injEq] at h;subst h;rw [hx u rfl];rfl
omit S in
theorem oE_r {x:Option (Value × Mem)} {v:Value} (h:oE x=.r v):False:=by
 cases x with
 |none=>simp [oE] at h
 |some x=>obtain⟨_,_⟩:=x;simp [oE] at h
omit S in
theorem oM_r {x:Option Mem} {v:Value} (h:oM x=.r v):False:=by cases x<;>simp [oM] at h
theorem convPtr_sub {s d:TypeDesc} {a:Addr} {v:Value} (h:convPtr tb m s d a=.r v):convPtr tb m' s d a=.r v:=by
 unfold convPtr at h ⊢
 split at h<;>try exact h
 ·split at h<;>try exact h
  split at h<;>first|(simp at h;done)|skip
  rename_i j r hj hr
  rw [hj,rowOf_sub S hr];exact h
 ·split at h<;>try exact h
  split at h<;>first|(simp at h;done)|skip
  rename_i j r hj hr
  rw [hj,rowOf_sub S hr];exact h
theorem convSl_sub {same:Bool} {s d:TypeDesc} {x:Value} {a:Addr} {l:Nat} {v:Value} (h:convSl tb m same s d x a l=.r v):convSl tb m' same s d x a l=.r v:=by
 unfold convSl at h ⊢
 split at h<;>try exact h
 split at h<;>try exact h
 ·split at h<;>try exact h
  rename_i hj
  split at h<;>try exact h
  rename_i hd
  split at h<;>try exact h
  split at h<;>first|(simp at h;done)|skip
  rename_i hb
  rw [bytesAt_sub S hb];exact h
 ·repeat (split at h<;>try (simp at h;done))
theorem opBuiltin_sub {b:Builtin} {tys:List TypeId} {args:List Value} {v:Value} (h:opBuiltin tb m b tys args=.r v):opBuiltin tb m' b tys args=.r v:=by
 unfold opBuiltin at h ⊢
 split at h<;>try exact h
 ·split at h<;>try exact h
  exact oR_sub (fun v h=>lenA_sub S h) h
 ·split at h<;>try exact h
  exact oR_sub (fun v h=>capA_sub S h) h
 ·split at h<;>try exact h
  exact (oE_r h).elim
 ·split at h<;>try exact h
  exact (oE_r h).elim
 ·split at h<;>try exact h
  split at h<;>simp at h
 ·split at h<;>try exact h
  split at h<;>simp at h
 ·split at h<;>try exact h
  unfold opUnsafeString at h ⊢
  split at h<;>try exact h
  repeat (split at h<;>try (simp at h;done))
theorem opA_sub {o:Op} {t:T Value} {v:Value} (h:opA o tb t m=.r v):opA o tb t m'=.r v:=by
 cases o<;>try exact h
 all_goals first
  |exact (oE_r h).elim
  |exact (oM_r h).elim
  |skip
 case assign x=>simp [opA,kAssign] at h
 case load ty a =>
  simp only [opA,kLoad,opLoad] at h ⊢
  split at h
  ·exact oR_sub (fun v h=>loadA_sub S h) h
  ·simp at h
 case store ty a x =>
  simp only [opA,kStore,opStore] at h
  split at h
  ·exact (oM_r h).elim
  ·simp at h
 case binOp op ty x y yt=>exact oR_sub (fun v h=>binA_sub S h) h
 case convert s d x =>
  simp only [opA,kConvert,opConv] at h ⊢
  split at h<;>first|(simp at h;done)|skip
  rename_i s d hs hd
  split at h
  ·exact h
  ·exact h
  ·exact h
  ·exact convSl_sub S h
  ·exact convPtr_sub S h
  ·simp at h
 case slice ty x lo hi mx=>exact oR_sub (fun v h=>sliceA_sub S h) h
 case lookup ty x k ok=>exact oR_sub (fun v h=>lookupA_sub S h) h
 case entry it=>exact oR_sub (fun v h=>entryA_sub S h) h
 case call c =>
  simp only [opA,kCall,opCall] at h ⊢
  split at h
  ·exact opBuiltin_sub S h
  ·simp at h
end
end Go.Ev

