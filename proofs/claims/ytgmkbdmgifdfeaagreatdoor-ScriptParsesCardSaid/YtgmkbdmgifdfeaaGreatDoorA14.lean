/- A part of a proof: ScriptParses. -/
import Derived.Test.YtgmkbdmgifdfeaaGreatDoorA13
set_option linter.unusedVariables false
set_option linter.unusedSimpArgs false
namespace Go.Ev
open Go.RowKit
def gx:List Value→Nat→Value
 | [],_=>undef
 |x::_,0=>x
 |_::l,n+1=>gx l n
theorem gx_c0 (x:Value) (l:List Value):gx (x::l) 0=x:=_root_.id rfl
theorem gx_cs (x:Value) (l:List Value) (n:Nat):gx (x::l) (n+1)=gx l n:=_root_.id rfl
theorem gx_eq:∀ (l:List Value) (n:Nat),l.getD n undef=gx l n
 | [],n=>by simp [gx]
 |x::l,0=>rfl
 |x::l,n+1=>by rw [List.getD_cons_succ];exact gx_eq l n
theorem gx_set {l:List Value} {n:Nat} {v:Value} (h:n<l.length):gx (l.set n v) n=v:=by
 rw [← gx_eq];simp [List.getD_eq_getElem?_getD,h]
theorem gx_set_ne {l:List Value} {n k:Nat} {v:Value} (h:n≠k):gx (l.set n v) k=gx l k:=by
 rw [← gx_eq,← gx_eq];simp [List.getD_eq_getElem?_getD,List.getElem?_set,h]
section
variable (tb:Tabs)
noncomputable def resX (rs:List ResultVar) (l:List Value) (m:Mem):Option Value :=
 match resA tb (T.ofList l) m rs with
 |some [v]=>some v
 |some vs=>some (.tuple ⟨vs⟩)
 |none=>none
def endX (rs:List ResultVar) (R:OutA→Mem→Prop):PostA
 | .normal,l,ds,m=>ds=[]∧∃ v,resX tb rs l m=some v∧R (.ret v) m
 | .jump .ret,l,ds,m=>ds=[]∧∃ v,resX tb rs l m=some v∧R (.ret v) m
 | .pan ch,_,ds,m=>ds=[]∧R (.pan ch) m
 |_,_,_,_=>False
def retR (P:Value→Mem→Prop):OutA→Mem→Prop
 | .ret v,m=>P v m
 | .pan _,_=>False
variable {tb}
variable {F:FC} {l:List Value} {ds:List Deferred} {m:Mem} {Q:PostA}
theorem thenA_normal (N:List Value→List Deferred→Mem→Prop):thenA N Q .normal l ds m=N l ds m:=_root_.id rfl
theorem thenA_jump (N:List Value→List Deferred→Mem→Prop) (c:Code):thenA N Q (.jump c) l ds m=Q (.jump c) l ds m:=_root_.id rfl
theorem thenA_pan (N:List Value→List Deferred→Mem→Prop) (c:List PanicEntry):thenA N Q (.pan c) l ds m=Q (.pan c) l ds m:=_root_.id rfl
theorem blockA_normal (id:Nat):blockA id Q .normal l ds m=Q .normal l ds m:=_root_.id rfl
theorem blockA_pan (id:Nat) (c:List PanicEntry):blockA id Q (.pan c) l ds m=Q (.pan c) l ds m:=_root_.id rfl
theorem blockA_exit (id i:Nat):blockA id Q (.jump (.exit i)) l ds m=if i=id then Q .normal l ds m else Q (.jump (.exit i)) l ds m:=_root_.id rfl
theorem resX_nil:resX tb [] l m=some (.tuple ⟨[]⟩):=_root_.id rfl
theorem resX_one (i:Nat):resX tb [.tmp i] l m=some (gx l i):=by
 rw [← gx_eq]
 have:=slots_ofList l i
 simp only [ev] at this
 simp only [resX,resA,oB,this]
theorem resX_two (i j:Nat):resX tb [.tmp i,.tmp j] l m=some (.tuple ⟨[gx l i,gx l j]⟩):=by
 rw [← gx_eq,← gx_eq]
 have h1:=slots_ofList l i
 have h2:=slots_ofList l j
 simp only [ev] at h1 h2
 simp only [resX,resA,oB,h1,h2]
theorem callsZ {f:FuncId} {fd:Func} {c:Code} {s:SCode} {n:Nat} {rs:List ResultVar} {args:List Value} {R:OutA→Mem→Prop} (hf:tb.funcs.get f=some fd) (hb:fd.body=some c) (hs:strip c=s) (hn:fd.ntmps=n) (hr:fd.results.toList=rs)
  (h:wpX tb ⟨f,.normal,none⟩ s (args++List.replicate (n-args.length) undef) [] m (endX tb rs R)):CallsA tb f args m R:=by
 subst hn;subst hr
 refine callsX hf hb hs (h.mono fun e l' ds' m' h=>?_)
 cases e with
 |normal=>exact h
 |jump c=>cases c<;>exact h
 |pan ch=>exact h
theorem xcall {f:FuncId} {first cap args:List Value} {R:OutA→Mem→Prop} {K:Value→List Deferred→Mem→Prop} {PK:List PanicEntry→Mem→Prop} (hov:tb.ov.get f=none) (h:CallsA tb f (first++args++cap) m R)
  (k:∀ v m',R (.ret v) m'→K v ds m') (pk:∀ ch m',R (.pan ch) m'→PK ch m'):wpNext tb (callValue tb (.func (.func f) ⟨first⟩ ⟨cap⟩) args m) ds m K PK:=by
 have e:callValue tb (.func (.func f) ⟨first⟩ ⟨cap⟩) args m=.enter f (first++args++cap):=by
  obtain⟨g,hg,_⟩:=h
  unfold enterF at hg
  split at hg<;>first|(simp at hg;done)|skip
  rename_i fn hfn
  split at hg<;>first|(simp at hg;done)|skip
  rename_i c hc
  simp only [callValue,invokeA,callF,hov,hfn,hc]
 rw [e]
 refine CallsA.mono h fun o m' ho=>?_
 cases o with
 |ret v=>exact k _ _ ho
 |pan ch=>exact pk _ _ ho
theorem wpCallX_call (f:Operand) (args:Array Operand) (tys:Array TypeId) (ty:TypeId) (K:Value→List Deferred→Mem→Prop) (PK:List PanicEntry→Mem→Prop) :
  wpCallX tb F (.call ⟨.value f,args,tys⟩) ty l ds m K PK=wpNext tb (callValue tb (evL l f) (evsL l args.toList) m) ds m K PK:=_root_.id rfl
theorem wpCallX_panic (x:Operand) (ty:TypeId) (K:Value→List Deferred→Mem→Prop) (PK:List PanicEntry→Mem→Prop) :
  wpCallX tb F (.panic x) ty l ds m K PK=(isIface (evL l x)=true∧PK [{ v:=evL l x,recovered:=false }] m):=_root_.id rfl
variable (tb)
noncomputable def wpS (F:FC) (Q:PostA) (d:Option Tmp) (op:Op) (ty:TypeId) (os:List SOp) (r:OR) (l:List Value) (ds:List Deferred) (m:Mem):Prop:=match r with
 | .r v=>wpR tb F Q os (setSl d v l) ds m
 | .f ob mk=>wpR tb F Q os (setSl d (mk m.next) l) ds (newObjA m ob)
 | .e v m'=>wpR tb F Q os (setSl d v l) ds m'
 | .c=>wpCallX tb F op ty l ds m (fun v ds m=>wpR tb F Q os (setSl d v l) ds m) (fun ch m=>Q (.pan ch) l ds m)
 | .bad=>False
noncomputable def wpG (F:FC) (Q:PostA) (d:Option Tmp) (op:Op) (ty:TypeId) (os:List SOp) (w:Bool) (l:List Value) (ds:List Deferred) (m:Mem):Prop:=match w with
 |false=>wpR tb F Q os (setSl d undef l) ds m
 |true=>wpS tb F Q d op ty os (opA op tb (T.ofList l) m) l ds m
variable {tb}
theorem wpR_cons (d:Option Tmp) (op:Op) (ty:TypeId) (g:SG) (os:List SOp):wpR tb F Q (⟨d,op,ty,g⟩::os) l ds m=(dstB d l.length=true∧wpG tb F Q d op ty os (wantX l g) l ds m):=_root_.id rfl
theorem wpG_true (d:Option Tmp) (op:Op) (ty:TypeId) (os:List SOp):wpG tb F Q d op ty os true l ds m=wpS tb F Q d op ty os (opA op tb (T.ofList l) m) l ds m:=_root_.id rfl
theorem wpG_false (d:Option Tmp) (op:Op) (ty:TypeId) (os:List SOp):wpG tb F Q d op ty os false l ds m=wpR tb F Q os (setSl d undef l) ds m:=_root_.id rfl
theorem wpS_r (d:Option Tmp) (op:Op) (ty:TypeId) (os:List SOp) (v:Value):wpS tb F Q d op ty os (.r v) l ds m=wpR tb F Q os (setSl d v l) ds m:=_root_.id rfl
theorem wpS_f (d:Option Tmp) (op:Op) (ty:TypeId) (os:List SOp) (ob:AObj) (mk:Nat→Value):wpS tb F Q d op ty os (.f ob mk) l ds m=wpR tb F Q os (setSl d (mk m.next) l) ds (newObjA m ob):=_root_.id rfl
theorem wpS_e (d:Option Tmp) (op:Op) (ty:TypeId) (os:List SOp) (v:Value) (m':Mem):wpS tb F Q d op ty os (.e v m') l ds m=wpR tb F Q os (setSl d v l) ds m':=_root_.id rfl
theorem wpS_c (d:Option Tmp) (op:Op) (ty:TypeId) (os:List SOp):wpS tb F Q d op ty os .c l ds m=wpCallX tb F op ty l ds m (fun v ds m=>wpR tb F Q os (setSl d v l) ds m) (fun ch m=>Q (.pan ch) l ds m):=_root_.id rfl
theorem wpR_nil:wpR tb F Q [] l ds m=Q .normal l ds m:=_root_.id rfl
theorem dB_some (d n:Nat):dstB (some d) n=decide (d<n):=by
 unfold dstB
 rw [Bool.eq_iff_iff,Nat.blt_eq];simp
theorem dB_none (n:Nat):dstB none n=true:=_root_.id rfl
theorem wX_no:wantX l .no=true:=_root_.id rfl
theorem wX_on (d:Nat) (w:Bool):wantX l (.on d w)=isB (gx l d) w:=by rw [← gx_eq];rfl
theorem evL_tmp' (i:Nat):evL l (.tmp i)=gx l i:=by rw [← gx_eq];exact evL_tmp i
theorem isB_bool (b w:Bool):isB (.bool b) w=(b==w):=_root_.id rfl
theorem setSl_some (d:Nat) (v:Value):setSl (some d) v l=l.set d v:=_root_.id rfl
theorem setSl_none (v:Value):setSl none v l=l:=_root_.id rfl
theorem oR_some (v:Value):oR (some v)=.r v:=_root_.id rfl
theorem oE_some (v:Value):oE (some (v,m))=.e v m:=_root_.id rfl
theorem nil_ptr (a:Addr):opNilCheck (.pointer (some a))=.r (.pointer (some a)):=_root_.id rfl
theorem pick_bool (c:Bool) (a b:Value):opPick (.bool c) a b=.r (if c then a else b):=by cases c<;>rfl
theorem oB_some' {α β : Type} (a : α) (f : α → Option β):oB (some a) f=f a:=_root_.id rfl
theorem ia_slice (t:TypeId) (k:IntKind) (z:Int) (b o:Nat) (s:Option Nat) (n c:Nat):indexAddrA tb t (.slice (some ⟨b,o,s⟩) n c) (.int k z)=oB (ti tb t) fun i=>match i.d with
  | .slice elem=>if 0≤z∧z.toNat<n then oB (ti tb elem) fun e=>some (.pointer (some ⟨b,o+z.toNat*e.inf.size,none⟩)) else none
  |_=>none:=by
 cases z with
 |ofNat j =>
  show indexAddrA tb t (.slice (some ⟨b,o,s⟩) n c) (.int k (.ofNat j))=_
  simp only [indexAddrA,addA,Int.ofNat_eq_natCast,Int.natCast_nonneg,Int.toNat_natCast,true_and]
  congr 1
  funext i
  obtain⟨d,inf,agg,zc,hz,fl,gd,hl⟩:=i
  cases d<;>simp only
  by_cases h:j<n
  ·have hb:Nat.blt j n=true:=by rw [Nat.blt_eq];exact h
   simp only [hb,if_pos h]
  ·have hb:Nat.blt j n=false:=by
    cases hb:Nat.blt j n with
    |false=>rfl
    |true=>rw [Nat.blt_eq] at hb;exact absurd hb h
   simp only [hb,if_neg h]
 |negSucc j =>
  have:¬ (0≤Int.negSucc j∧(Int.negSucc j).toNat<n):=by omega
  simp only [indexAddrA,if_neg this]
  cases ti tb t with
  |none=>rfl
  |some i=>simp only [oB];split<;>rfl
theorem ia_str (t:TypeId) (k:IntKind) (z:Int) (s:ByteArray):indexA tb t (.string s) (.int k z)=oB (ti tb t) fun i=>match i.d with
  | .string=>if 0≤z then (match s.data.toList[z.toNat]? with|some b=>some (.int .u8 (b.toNat:Int))|none=>none) else none
  |_=>none:=by
 cases z with
 |ofNat j =>
  simp only [indexA,Int.ofNat_eq_natCast,Int.natCast_nonneg,Int.toNat_natCast,if_true,byteV,fNat_eq]
  congr 1
  funext i
  obtain⟨d,inf,agg,zc,hz,fl,gd,hl⟩:=i
  cases d<;>rfl
 |negSucc j =>
  have:¬ (0≤Int.negSucc j):=by omega
  simp only [indexA,if_neg this]
  cases ti tb t with
  |none=>rfl
  |some i=>simp only [oB];split<;>rfl
theorem cv_int (s d:TypeId) (k:IntKind) (n:Int):opConv tb m s d (.int k n)=match ti tb s,ti tb d with
  |some _,some j=>match j.d with | .int q=>.r (.int q (q.wrap n))|_=>.bad
  |_,_=>.bad:=by
 unfold opConv
 cases ti tb s<;>cases ti tb d<;>try rfl
 rename_i i j
 obtain⟨jd,inf,agg,zc,hz,fl,gd,hl⟩:=j
 simp only
 cases jd<;>simp only [vInt_eq,wrapF_eq]
theorem lo_nil (c:T Value) (i:Nat):listOf c [] i=[]:=_root_.id rfl
theorem lo_cons (c:T Value) (z:Value) (zs:List Value) (i:Nat):listOf c (z::zs) i=(match c.get i with|some v=>v|none=>z)::listOf c zs (i+1):=_root_.id rfl
theorem bound_eq (k:IntKind) (z:Int) (y:Nat):bound (.int k z) y=if 0≤z∧z.toNat≤y then some z.toNat else none:=by
 cases z with
 |ofNat j =>
  simp only [bound,Int.ofNat_eq_natCast,Int.natCast_nonneg,Int.toNat_natCast,true_and]
  by_cases h:j≤y
  ·have hb:Nat.ble j y=true:=by rw [Nat.ble_eq];exact h
   simp only [hb,if_pos h]
  ·have hb:Nat.ble j y=false:=by
    cases hb:Nat.ble j y with
    |false=>rfl
    |true=>rw [Nat.ble_eq] at hb;exact absurd hb h
   simp only [hb,if_neg h]
 |negSucc j =>
  have:¬ (0≤Int.negSucc j∧(Int.negSucc j).toNat≤y):=by omega
  simp only [bound,if_neg this]
theorem fits_eq (a:Option Addr) (sl sc n b:Nat):appendFits (.slice a sl sc) n b=decide ((sl+n+1000)*b≤17592186044416):=by
 unfold appendFits
 rw [Bool.eq_iff_iff,Nat.ble_eq];simp
theorem len_slice (t:TypeId) (a:Option Addr) (n c:Nat):lenA tb t m (.slice a n c)=oB (ti tb t) fun i=>match i.d with | .slice _=>some (.int .i64 (n:Int))|_=>none:=by
 simp only [lenA,vInt_eq];rfl
theorem len_str (t:TypeId) (s:ByteArray):lenA tb t m (.string s)=oB (ti tb t) fun i=>match i.d with | .string=>some (.int .i64 (s.data.toList.length:Int))|_=>none:=by
 simp only [lenA,vInt_eq];rfl
noncomputable def slX (tb:Tabs) (t:TypeId) (m:Mem) (x:Value) (lo hi mx:Option Value):Option Value:=sliceA tb t m x lo hi mx
noncomputable def slW (tb:Tabs) (t:TypeId) (m:Mem) (b o:Nat) (s:Option Nat) (len cap:Nat) (lo hi mx:Option Value):Option TI→Option Vw→Option Value
 |some i,some V=>match i.d with
  | .slice elem=>oB (bounds3 len cap lo hi mx) fun (l,h,q)=>oB (ti tb elem) fun e=>slExt V.ext ⟨b,o,s⟩ mx l h q e.inf.size
  |_=>slX tb t m (.slice (some ⟨b,o,s⟩) len cap) lo hi mx
 |_,_=>slX tb t m (.slice (some ⟨b,o,s⟩) len cap) lo hi mx
theorem sl_W (t:TypeId) (b o:Nat) (s:Option Nat) (len cap:Nat) (lo hi mx:Option Value):sliceA tb t m (.slice (some ⟨b,o,s⟩) len cap) lo hi mx=slW tb t m b o s len cap lo hi mx (ti tb t) (vw m b):=by
 unfold slW
 split
 ·rename_i i V hi hv
  obtain⟨r,h1,h2,h3,h4,_⟩:=vw_spec hv
  split
  ·rename_i e he
   simp only [sliceA,hi,oB,he,h1,h4]
  ·rfl
 ·rfl
theorem slW_some (t:TypeId) (b o:Nat) (s:Option Nat) (len cap:Nat) (lo hi mx:Option Value) (i:TI) (V:Vw):slW tb t m b o s len cap lo hi mx (some i) (some V)=match i.d with
  | .slice elem=>oB (bounds3 len cap lo hi mx) fun (l,h,q)=>oB (ti tb elem) fun e=>slExt V.ext ⟨b,o,s⟩ mx l h q e.inf.size
  |_=>slX tb t m (.slice (some ⟨b,o,s⟩) len cap) lo hi mx:=_root_.id rfl
theorem sl_str (t:TypeId) (s:ByteArray) (lo hi:Option Value):sliceA tb t m (.string s) lo hi none=oB (ti tb t) fun i=>match i.d with
  | .string=>slStr s lo hi
  |_=>none:=by
 simp only [sliceA]
 congr 1;funext i
 obtain⟨d,inf,agg,zc,hz,fl,gd,hl⟩:=i
 cases d<;>rfl
noncomputable def fiX (m:Mem) (k n:Nat) (x:Value):Option (List Value):=firstA m k n x
noncomputable def fiW (m:Mem) (k n b o:Nat) (s:Option Nat) (l c:Nat):Option Vw→Option (List Value)
 |some V=>if k=0∨o+k≤V.cs.length then some (takeN V.cs o k) else fiX m k n (.slice (some ⟨b,o,s⟩) l c)
 |none=>fiX m k n (.slice (some ⟨b,o,s⟩) l c)
theorem fi_W (k n b o:Nat) (s:Option Nat) (l c:Nat):firstA m k n (.slice (some ⟨b,o,s⟩) l c)=fiW m k n b o s l c (vw m b):=by
 unfold fiW
 split
 ·rename_i V hv
  split
  ·rename_i h;exact fi_slice n hv h
  ·rfl
 ·rfl
theorem fiW_some (k n b o:Nat) (s:Option Nat) (l c:Nat) (V:Vw):fiW m k n b o s l c (some V)=if k=0∨o+k≤V.cs.length then some (takeN V.cs o k) else fiX m k n (.slice (some ⟨b,o,s⟩) l c):=_root_.id rfl
noncomputable def atX (m:Mem) (e:TypeId) (sz:Nat) (x:Value) (n:Nat) (new:List Value):Option (Value × Mem):=appendTo m e sz x n new
noncomputable def growM (m:Mem) (ob:Option Nat) (e:TypeId) (cells:List Value):Mem:=newObjA (match ob with|some b=>putObj m b .dead|none=>m) (rowObj e cells .none true)
noncomputable def atW (m:Mem) (e:TypeId) (sz b o:Nat) (s:Option Nat) (sl sc n:Nat) (new:List Value):Option Vw→Option (Value × Mem)
 |some V =>
  if sl+n≤sc then
   (if new.isEmpty=true then (if n=0 then some (.slice (some ⟨b,o,s⟩) sl sc,m) else atX m e sz (.slice (some ⟨b,o,s⟩) sl sc) n new)
    else if stOk V (o+sl*sz) new=true then some (.slice (some ⟨b,o,s⟩) (sl+n) sc,stM m b (o+sl*sz) new) else atX m e sz (.slice (some ⟨b,o,s⟩) sl sc) n new)
  else if V.ext=false∧(sl*sz=0∨o+sl*sz≤V.cs.length) then some (.slice (some ⟨m.next,0,none⟩) (sl+n) (sl+n),growM m none e (takeN V.cs o (sl*sz)++new))
  else if V.ext=true∧V.w=true∧s=none∧sl≤sc∧o+sc*sz=V.cs.length∧V.elem=e∧new.length=n*sz∧new.all oneC=true then
   some (.slice (some ⟨m.next,0,none⟩) (sl+n) (sl+n),growM m (some b) e (takeN V.cs o (sl*sz)++new))
  else atX m e sz (.slice (some ⟨b,o,s⟩) sl sc) n new
 |none=>atX m e sz (.slice (some ⟨b,o,s⟩) sl sc) n new
theorem at_W (e:TypeId) (sz b o:Nat) (s:Option Nat) (sl sc n:Nat) (new:List Value):appendTo m e sz (.slice (some ⟨b,o,s⟩) sl sc) n new=atW m e sz b o s sl sc n new (vw m b):=by
 unfold atW
 split
 ·rename_i V hv
  split
  ·rename_i h
   split
   ·rename_i hn
    obtain rfl:=List.isEmpty_iff.1 hn
    split
    ·rename_i h0;subst h0;exact ap_zero e sz h
    ·rfl
   ·rename_i hn
    split
    ·rename_i hs;exact ap_in e sz n new hv (fun e=>hn (by rw [e];rfl)) h hs
    ·rfl
  ·rename_i h
   split
   ·rename_i h2;exact ap_fix e sz n new s hv h2.1 (by omega) h2.2
   ·split
    ·rename_i h2
     obtain⟨h3,h4,rfl,h6,h7,h8,h9,h10⟩:=h2
     exact ap_grow e sz n new hv h3 h4 (by omega) h7 h8 h9 h10 h6
    ·rfl
 ·rfl
theorem atW_some (e:TypeId) (sz b o:Nat) (s:Option Nat) (sl sc n:Nat) (new:List Value) (V:Vw):atW m e sz b o s sl sc n new (some V) =
  if sl+n≤sc then
   (if new.isEmpty=true then (if n=0 then some (.slice (some ⟨b,o,s⟩) sl sc,m) else atX m e sz (.slice (some ⟨b,o,s⟩) sl sc) n new)
    else if stOk V (o+sl*sz) new=true then some (.slice (some ⟨b,o,s⟩) (sl+n) sc,stM m b (o+sl*sz) new) else atX m e sz (.slice (some ⟨b,o,s⟩) sl sc) n new)
  else if V.ext=false∧(sl*sz=0∨o+sl*sz≤V.cs.length) then some (.slice (some ⟨m.next,0,none⟩) (sl+n) (sl+n),growM m none e (takeN V.cs o (sl*sz)++new))
  else if V.ext=true∧V.w=true∧s=none∧sl≤sc∧o+sc*sz=V.cs.length∧V.elem=e∧new.length=n*sz∧new.all oneC=true then
   some (.slice (some ⟨m.next,0,none⟩) (sl+n) (sl+n),growM m (some b) e (takeN V.cs o (sl*sz)++new))
  else atX m e sz (.slice (some ⟨b,o,s⟩) sl sc) n new:=_root_.id rfl
theorem ap_first' (e:TypeId) (sz n:Nat) (new:List Value):appendTo m e sz (.slice none 0 0) (n+1) new=some (.slice (some ⟨m.next,0,none⟩) (n+1) (n+1),growM m none e new):=_root_.id rfl
theorem growM_next (ob:Option Nat) (e:TypeId) (cells:List Value):(growM m ob e cells).next=m.next+1:=by cases ob<;>rfl
theorem vw_growM (ob:Option Nat) (e:TypeId) (cells:List Value) (x:Nat):vw (growM m ob e cells) x=if x=m.next then some ⟨true,e,true,cells⟩ else if some x=ob then none else vw m x:=by
 unfold growM
 cases ob with
 |none=>simp only [vw_new,vwO_rowObj];split<;>simp_all
 |some b =>
  simp only [vw_new,vwO_rowObj,next_putObj,vw_put,Option.some.injEq]
  split
  ·rfl
  ·split<;>rfl
def Old (n:Nat) (m m':Mem):Prop:=m.next≤m'.next∧∀ x,x<n→m'.objs.get x=m.objs.get x
theorem Old.refl (n:Nat) (m:Mem):Old n m m:=⟨Nat.le_refl _,fun _ _=>rfl⟩
theorem Old.trans {n:Nat} {a b c:Mem} (h:Old n a b) (k:Old n b c):Old n a c:=⟨Nat.le_trans h.1 k.1,fun x hx=>(k.2 x hx).trans (h.2 x hx)⟩
theorem Old.le {n k:Nat} {a b:Mem} (h:Old n a b) (hk:k≤n):Old k a b:=⟨h.1,fun x hx=>h.2 x (by omega)⟩
theorem Old.vw {n:Nat} {a b:Mem} (h:Old n a b) {x:Nat} (hx:x<n):Go.Ev.vw b x=Go.Ev.vw a x:=by unfold Go.Ev.vw;rw [h.2 x hx]
theorem Old.new {n:Nat} {a b:Mem} (h:Old n a b) (hn:n≤b.next) (o:AObj):Old n a (newObjA b o):=⟨by rw [next_newObjA];have:=h.1;omega,fun x hx=>by rw [get_newObjA,if_neg (by omega)];exact h.2 x hx⟩
theorem Old.put {n:Nat} {a b:Mem} (h:Old n a b) {k:Nat} (hk:n≤k) (o:AObj):Old n a (putObj b k o):=⟨h.1,fun x hx=>by rw [get_putObj,if_neg (by omega)];exact h.2 x hx⟩
theorem Old.st {n:Nat} {a b:Mem} (h:Old n a b) {k:Nat} (hk:n≤k) (i:Nat) (l:List Value):Old n a (stM b k i l):=⟨by rw [stM_next];exact h.1,fun x hx=>by rw [stM_get (by omega)];exact h.2 x hx⟩
theorem Old.grow {n:Nat} {a b:Mem} (h:Old n a b) (hn:n≤b.next) (e:TypeId) (cells:List Value):Old n a (growM b none e cells):=h.new hn _
theorem Old.grow' {n:Nat} {a b:Mem} (h:Old n a b) (hn:n≤b.next) {k:Nat} (hk:n≤k) (e:TypeId) (cells:List Value):Old n a (growM b (some k) e cells):=(h.put hk .dead).new hn _
def Own (n0:Nat) (m:Mem) (v:Value) (e:TypeId) (n:Nat) (cells:List Value):Prop :=
 (v=.slice none 0 0∧n=0∧cells=[])∨∃ b,v=.slice (some ⟨b,0,none⟩) n n∧n0≤b∧b<m.next∧vw m b=some ⟨true,e,true,cells⟩
noncomputable def rd (m:Mem) (b o:Nat):Nat→Option (List Value)
 |0=>some []
 |n+1=>oB (rowOf m b) fun r=>cellsFrom r (n+1) o
def SlAt (m:Mem) (v:Value) (n:Nat) (cells:List Value):Prop :=
 (v=.slice none 0 0∧n=0∧cells=[])∨∃ b o c,v=.slice (some ⟨b,o,none⟩) n c∧n≤c∧(cells=[]∨rd m b o cells.length=some cells∧b<m.next)
theorem takeN_self (l:List Value):takeN l 0 l.length=l:=by simp [takeN]
theorem takeN_zero (l:List Value) (o:Nat):takeN l o 0=[]:=by simp [takeN]
theorem takeN_c0 (x:Value) (l:List Value) (n:Nat):takeN (x::l) 0 (n+1)=x::takeN l 0 n:=_root_.id rfl
theorem takeN_cs (x:Value) (l:List Value) (o n:Nat):takeN (x::l) (o+1) n=takeN l o n:=_root_.id rfl
theorem takeN_length {l:List Value} {o n:Nat} (h:o+n≤l.length):(takeN l o n).length=n:=by simp [takeN];omega
theorem takeN_get {l:List Value} {o n k:Nat} (h:k<n):(takeN l o n)[k]? = l[o+k]? := by simp [takeN,List.getElem?_take,h]
theorem u8s_length:∀ l:List UInt8,(u8s l).length=l.length
 | []=>rfl
 |b::l=>by simp [u8s,u8s_length l]
theorem u8s_map:∀ l:List UInt8,u8s l=l.map fun b=>.int .u8 (b.toNat:Int)
 | []=>rfl
 |b::l=>by simp only [u8s,u8s_map l,List.map_cons,byteV,fNat_eq];rfl
def i64s (l:List Int):List Value:=l.map fun n=>.int .i64 n
theorem i64s_length (l:List Int):(i64s l).length=l.length:=by simp [i64s]
theorem SlAt.shape {n:Nat} {v:Value} {cells:List Value} (h:SlAt m v n cells):∃ a c,v=.slice a n c:=by
 rcases h with ⟨rfl,rfl,_⟩|⟨b,o,c,rfl,_⟩<;>exact⟨_,_,rfl⟩
theorem rd_some {b o n:Nat} {cells:List Value} (h:rd m b o n=some cells):cells.length=n∧(n≠0→∃ r,rowOf m b=some r∧cellsFrom r n o=some cells∧∀ k v,cells[k]? = some v→cellAt r (o+k)=some v):=by
 cases n with
 |zero=>obtain rfl:=Option.some.inj h;exact⟨rfl,fun e=>absurd rfl e⟩
 |succ n =>
  simp only [rd,oB_some] at h
  obtain⟨r,h1,h2⟩:=h
  obtain⟨h3,h4⟩:=cellsFrom_some h2
  exact⟨h3,fun _=>⟨r,h1,h2,h4⟩⟩
theorem cellsFrom_of {r:Row}:∀ {n o:Nat} {l:List Value},l.length=n→(∀ k v,l[k]? = some v→cellAt r (o+k)=some v)→cellsFrom r n o=some l
 |0,o,[],_,_=>rfl
 |n+1,o,v::l,h,g=>by
  rw [cellsFrom_succ,show cellAt r o=some v from g 0 v rfl]
  simp only [oB]
  rw [cellsFrom_of (l:=l) (by simpa using h) fun k u hu=>by rw [show o+1+k=o+(k+1) from by omega];exact g (k+1) u hu]
theorem rd_vw {b:Nat} {V:Vw} (hv:vw m b=some V) {o k:Nat} (h:o+k≤V.cs.length):rd m b o k=some (takeN V.cs o k):=by
 obtain⟨r,h1,h2,h3,h4,h5,h6,_⟩:=vw_spec hv
 cases k with
 |zero=>simp [rd,takeN]
 |succ k =>
  show oB (rowOf m b) _=_
  rw [h1]
  simp only [oB]
  rw [cellsFrom_all h6,if_pos (.inr h)]
theorem rd_old {b o n:Nat} {n0:Nat} {m':Mem} (k:Old n0 m m') (hb:b<n0):rd m' b o n=rd m b o n:=by
 cases n with
 |zero=>rfl
 |succ n=>simp only [rd,rowOf,k.2 b hb]
theorem ld_rd1 {t:TypeId} {i:TI} {b o n k:Nat} {s:Option Nat} {cells:List Value} {v:Value} (hi:ti tb t=some i) (ha:i.agg=false) (h:rd m b o n=some cells) (hk:cells[k]? = some v):opLoad tb t m (.pointer (some ⟨b,o+k,s⟩))=.r v:=by
 obtain⟨h1,h2⟩:=rd_some h
 have hk1:=(List.getElem?_eq_some_iff.1 hk).1
 obtain⟨r,h3,h4,h5⟩:=h2 (by omega)
 simp only [opLoad,loadA,hi,oB,h3,ha,h5 k v hk,oR]
theorem ld_rdA {t:TypeId} {i:TI} {b o n k:Nat} {s:Option Nat} {cells:List Value} (hi:ti tb t=some i) (ha:i.agg=true) (h:rd m b o n=some cells) (hk:k+i.inf.size≤n) (hn:n≠0):opLoad tb t m (.pointer (some ⟨b,o+k,s⟩))=.r (.agg ⟨takeN cells k i.inf.size⟩):=by
 obtain⟨h1,h2⟩:=rd_some h
 obtain⟨r,h3,h4,h5⟩:=h2 hn
 have:cellsFrom r i.inf.size (o+k)=some (takeN cells k i.inf.size):=cellsFrom_of (by simp [takeN];omega) fun j v hj=>by
  have hj2:j<i.inf.size:=by have:=(List.getElem?_eq_some_iff.1 hj).1;simp [takeN] at this;omega
  rw [takeN,List.getElem?_take,if_pos hj2,List.getElem?_drop] at hj
  rw [show o+k+j=o+(k+j) from by omega];exact h5 _ _ hj
 simp only [opLoad,loadA,hi,oB,h3,ha,this,oR]
theorem SlAt.old {n:Nat} {v:Value} {cells:List Value} {m':Mem} (h:SlAt m v n cells) (k:Old m.next m m'):SlAt m' v n cells:=by
 rcases h with h|⟨b,o,c,rfl,h1,h2|⟨h2,h3⟩⟩
 ·exact .inl h
 ·exact .inr ⟨b,o,c,rfl,h1,.inl h2⟩
 ·exact .inr ⟨b,o,c,rfl,h1,.inr ⟨by rw [rd_old k h3];exact h2,Nat.lt_of_lt_of_le h3 k.1⟩⟩
def SlOld (n0:Nat) (m:Mem) (v:Value) (n:Nat) (cells:List Value):Prop :=
 (v=.slice none 0 0∧n=0∧cells=[])∨∃ b o c,v=.slice (some ⟨b,o,none⟩) n c∧n≤c∧(cells=[]∨rd m b o cells.length=some cells∧b<n0)
theorem SlOld.at {n0 n:Nat} {v:Value} {cells:List Value} (h:SlOld n0 m v n cells) (hn:n0≤m.next):SlAt m v n cells:=by
 rcases h with h|⟨b,o,c,rfl,h1,h2|⟨h2,h3⟩⟩
 ·exact .inl h
 ·exact .inr ⟨b,o,c,rfl,h1,.inl h2⟩
 ·exact .inr ⟨b,o,c,rfl,h1,.inr ⟨h2,Nat.lt_of_lt_of_le h3 hn⟩⟩
theorem SlOld.old {n0 n:Nat} {v:Value} {cells:List Value} {m':Mem} (h:SlOld n0 m v n cells) (k:Old n0 m m'):SlOld n0 m' v n cells:=by
 rcases h with h|⟨b,o,c,rfl,h1,h2|⟨h2,h3⟩⟩
 ·exact .inl h
 ·exact .inr ⟨b,o,c,rfl,h1,.inl h2⟩
 ·exact .inr ⟨b,o,c,rfl,h1,.inr ⟨by rw [rd_old k h3];exact h2,h3⟩⟩
theorem SlAt.load {n k:Nat} {v w:Value} {cells:List Value} (h:SlAt m v n cells) (hk:cells[k]? = some w):∃ b o c,v=.slice (some ⟨b,o,none⟩) n c∧n≤c∧b<m.next∧rd m b o cells.length=some cells∧∀ {t:TypeId} {i:TI} {s:Option Nat},ti tb t=some i→i.agg=false→opLoad tb t m (.pointer (some ⟨b,o+k,s⟩))=.r w:=by
 have hk1:=(List.getElem?_eq_some_iff.1 hk).1
 rcases h with ⟨rfl,h1,rfl⟩|⟨b,o,c,rfl,h1,rfl|⟨h2,h3⟩⟩
 ·simp at hk1
 ·simp at hk1
 ·exact⟨b,o,c,rfl,h1,h3,h2,fun hi ha=>ld_rd1 hi ha h2 hk⟩
theorem SlAt.loadA {n k sz:Nat} {v:Value} {cells:List Value} (h:SlAt m v n cells) (hk:k+sz≤cells.length) (hs:0<sz):∃ b o c,v=.slice (some ⟨b,o,none⟩) n c∧n≤c∧b<m.next∧rd m b o cells.length=some cells∧∀ {t:TypeId} {i:TI} {s:Option Nat},ti tb t=some i→i.agg=true→i.inf.size=sz→opLoad tb t m (.pointer (some ⟨b,o+k,s⟩))=.r (.agg ⟨takeN cells k sz⟩):=by
 rcases h with ⟨rfl,h1,rfl⟩|⟨b,o,c,rfl,h1,rfl|⟨h2,h3⟩⟩
 ·simp at hk;omega
 ·simp at hk;omega
 ·exact⟨b,o,c,rfl,h1,h3,h2,fun hi ha he=>by subst he;exact ld_rdA hi ha h2 hk (by omega)⟩
theorem fits_true (a:Option Addr) (sl sc n b:Nat) (h:(sl+n+1000)*b≤17592186044416):appendFits (.slice a sl sc) n b=true:=by rw [fits_eq];simpa using h
theorem xregQ {os:List SOp} (h:∀ Q',Q'=Q→wpR tb F Q' os l ds m):wpX tb F (.reg os) l ds m Q:=xreg (h Q rfl)
theorem xseqP {a b:SCode} {PS:List Value→List Deferred→Mem→Prop} (h:wpX tb F a l ds m (fun e l' ds' m'=>e=.normal∧PS l' ds' m')) (g:∀ l' ds' m',PS l' ds' m'→wpX tb F b l' ds' m' Q):wpX tb F (.seq a b) l ds m Q :=
 xseq (h.mono fun e l' ds' m' ⟨h1,h2⟩=>by subst h1;exact g _ _ _ h2)
def Inv (I:Nat→List Value→List Deferred→Mem→Prop) (n:Nat) (l:List Value) (ds:List Deferred) (m:Mem):Prop:=∃ k,k<n∧I k l ds m
theorem xwhile {b:SCode} {I:Nat→List Value→List Deferred→Mem→Prop} {N:Nat} (h0:I N l ds m) (hr:∀ n l ds m,I n l ds m→wpX tb F b l ds m (thenA (Inv I n) Q)):wpX tb F (.loop b) l ds m Q :=
 xloop h0 fun n l ds m h=>hr n l ds m h
theorem xif {a b:SCode} {c:Operand} {v:Bool} (hc:evL l c=.bool v) (ht:v=true→wpX tb F a l ds m Q) (hf:v=false→wpX tb F b l ds m Q):wpX tb F (.cond c a b) l ds m Q :=
 xcond hc (by cases v with|true=>exact ht rfl|false=>exact hf rfl)
theorem xno {a b:SCode} {c:Operand} (hc:evL l c=.bool false) (h:wpX tb F b l ds m Q):wpX tb F (.cond c a b) l ds m Q:=xif (v:=false) hc (fun h=>by cases h) (fun _=>h)
theorem xyes {a b:SCode} {c:Operand} (hc:evL l c=.bool true) (h:wpX tb F a l ds m Q):wpX tb F (.cond c a b) l ds m Q:=xif (v:=true) hc (fun _=>h) (fun h=>by cases h)
theorem xsr {os:List SOp} {b:SCode} (h:∀ Q',Q'=thenA (fun l ds m=>wpX tb F b l ds m Q) Q→wpR tb F Q' os l ds m):wpX tb F (.seq (.reg os) b) l ds m Q:=xseq (xregQ h)
noncomputable def vwX (o:AObj):Option Vw:=vwO o
def updL (V:Option Vw) (o:Nat) (l:List Value):Option Vw:=match V with|some V=>some ⟨V.w,V.elem,V.ext,spl V.cs o l⟩|none=>none
theorem updL_some (w:Bool) (e:TypeId) (x:Bool) (cs l:List Value) (o:Nat):updL (some ⟨w,e,x,cs⟩) o l=some ⟨w,e,x,spl cs o l⟩:=_root_.id rfl
theorem vwO_lf (n:Nat) (z:List Value) (e:TypeId) (x:Bool):vwO (.row ⟨.lf,n,z,e,.none,x⟩)=if n=(n / z.length)*z.length then some ⟨true,e,x,repl z (n / z.length)⟩ else vwX (.row ⟨.lf,n,z,e,.none,x⟩):=by
 split
 ·rename_i h
  have:=vwRow_zero true e z (n / z.length) x
  rw [← h] at this
  exact this
 ·rfl
theorem vwO_setL (l:List Value) (o:Nat) (c:T Value) (n:Nat) (z:List Value) (e:TypeId) (x:Bool) (hl:o+l.length≤n) (hs:(vwO (.row ⟨c,n,z,e,.none,x⟩)).isSome=true) :
  vwO (.row ⟨T.setL l o c,n,z,e,.none,x⟩)=updL (vwO (.row ⟨c,n,z,e,.none,x⟩)) o l:=by
 cases h:vwO (.row ⟨c,n,z,e,.none,x⟩) with
 |none=>rw [h] at hs;cases hs
 |some V =>
  have h':vwRow true ⟨c,n,z,e,.none,x⟩=some V:=h
  have:=vwRow_setL h' hl
  obtain⟨h0,h1,h2,h3,h4,h5⟩:=vwRow_spec h'
  refine (show vwO (.row ⟨T.setL l o c,n,z,e,.none,x⟩)=vwRow true ⟨T.setL l o c,n,z,e,.none,x⟩ from rfl).trans ?_
  rw [this]
  simp only [updL]
  simp only at h2 h3
  rw [h0,h2,h3]
def blkV:Value→Option Nat
 | .slice (some a) _ _=>some a.block
 |_=>none
def Keep (ob:Option Nat) (m m':Mem):Prop:=m.next≤m'.next∧∀ x,x<m.next→ob≠some x→m'.objs.get x=m.objs.get x
theorem Keep.vw {ob:Option Nat} {a b:Mem} (h:Keep ob a b) {x:Nat} (hx:x<a.next) (hb:ob≠some x):Go.Ev.vw b x=Go.Ev.vw a x:=by unfold Go.Ev.vw;rw [h.2 x hx hb]
theorem growM_get (ob:Option Nat) (e:TypeId) (cells:List Value) {x:Nat} (hx:x<m.next) (hb:ob≠some x):(growM m ob e cells).objs.get x=m.objs.get x:=by
 unfold growM
 rw [get_newObjA]
 cases ob with
 |none=>exact if_neg (by simp only;omega)
 |some b =>
  refine (if_neg (by simp only [next_putObj];omega)).trans ?_
  simp only
  rw [get_putObj,if_neg (by intro e;exact hb (by rw [e]))]
theorem growM_keep (ob:Option Nat) (e:TypeId) (cells:List Value):Keep ob m (growM m ob e cells):=⟨by rw [growM_next];omega,fun x hx hb=>growM_get _ _ _ hx hb⟩
theorem Own.shape {n0 n:Nat} {v:Value} {e:TypeId} {cells:List Value} (h:Own n0 m v e n cells):∃ a,v=.slice a n n:=by
 rcases h with ⟨rfl,rfl,_⟩|⟨b,rfl,_⟩<;>exact⟨_,rfl⟩
theorem Own.append {n0 n k sz:Nat} {v:Value} {e:TypeId} {cells new:List Value} {m1:Mem} (h:Own n0 m v e n cells) (hm:Old m.next m m1) (hle:n0≤m.next) (hc:cells.length=n*sz) (hn:new.length=(k+1)*sz) (ho:new.all oneC=true) :
  ∃ v' m',appendTo m1 e sz v (k+1) new=some (v',m')∧Own n0 m' v' e (n+(k+1)) (cells++new)∧Keep (blkV v) m1 m'∧Old n0 m1 m'∧(∃ b,v'=.slice (some ⟨b,0,none⟩) (n+(k+1)) (n+(k+1))∧m1.next≤b):=by
 have h0:=hm.1
 rcases h with ⟨rfl,rfl,rfl⟩|⟨b,rfl,h1,h2,h3⟩
 ·refine⟨_,_,ap_first' _ _ _ _,.inr ⟨m1.next,?_,?_,?_,?_⟩,growM_keep _ _ _,(Old.refl _ _).grow (by omega) _ _,⟨_,by rw [Nat.zero_add],Nat.le_refl _⟩⟩
  ·rw [Nat.zero_add]
  ·omega
  ·rw [growM_next];omega
  ·rw [vw_growM,if_pos rfl];rfl
 ·have h4:vw m1 b=some ⟨true,e,true,cells⟩:=by rw [hm.vw h2];exact h3
  have e1:=at_W (m:=m1) e sz b 0 none n n (k+1) new
  rw [h4,atW_some,if_neg (by omega),if_neg (by simp),if_pos ⟨rfl,rfl,rfl,Nat.le_refl _,by simp [hc],rfl,hn,ho⟩] at e1
  refine⟨_,_,e1,.inr ⟨m1.next,rfl,by omega,by rw [growM_next];omega,?_⟩,growM_keep _ _ _,(Old.refl _ _).grow' (by omega) h1 _ _,⟨_,rfl,Nat.le_refl _⟩⟩
  rw [vw_growM,if_pos rfl]
  simp only
  rw [← hc,takeN_self]
theorem ble_d (a b:Nat):Nat.ble a b=decide (a≤b):=by rw [Bool.eq_iff_iff,Nat.ble_eq];simp
theorem beq_d (a b:Nat):Nat.beq a b=decide (a=b):=by rw [Bool.eq_iff_iff,Nat.beq_eq];simp
theorem i64s_get (l:List Int) (k:Nat):(i64s l)[k]? = (l[k]?).map fun b=>.int .i64 b:=by simp [i64s]
end
end Go.Ev

