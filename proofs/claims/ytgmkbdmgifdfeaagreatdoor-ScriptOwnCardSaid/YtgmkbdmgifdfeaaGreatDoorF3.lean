/- A part of a proof: ScriptOwn. -/
import Derived.ChangeKeysEq
import Derived.Laws.Cells
import Derived.Laws.Strings2
import Derived.Test.YtgmkbdmgifdfeaaGreatDoorF2
set_option linter.unusedVariables false
set_option linter.unusedSimpArgs false
namespace Go.Ev
open Go.RowKit
section
variable {P:Program} {w:World}
theorem run_intOp {op:BinOp} {k:IntKind} {x y:Int} {v:Value} (t:TypeId) (h1:op≠.shl) (h2:op≠.shr) (h:intOp op k x y=some v) :
  (binOp op t (.int k x) (.int k y)).run P w=.ok v w:=by
 cases op<;>simp only [intOp] at h<;>first
  |exact absurd rfl h1
  |exact absurd rfl h2
  |skip
 ·simp only [Option.some.injEq,vInt_eq,wrapF_eq,addI_eq] at h;subst h;simp [binOp,Op.intArith]
 ·simp only [Option.some.injEq,vInt_eq,wrapF_eq,subI_eq] at h;subst h;simp [binOp,Op.intArith]
 ·simp only [Option.some.injEq,vInt_eq,wrapF_eq,mulI_eq] at h;subst h;simp [binOp,Op.intArith]
 ·obtain⟨r,hr,h⟩:=oB_some.1 h
  obtain⟨h0,rfl⟩:=quoI_some hr
  simp only [Option.some.injEq,vInt_eq,wrapF_eq] at h;subst h;simp [binOp,Op.intDiv,h0]
 ·obtain⟨r,hr,rfl⟩:=oI_some h
  obtain⟨h0,rfl⟩:=remI_some hr
  simp [binOp,Op.intDiv,h0]
 ·obtain⟨r,hr,rfl⟩:=oI_some h
  rw [bitsF_eq] at hr;simp only [bitsI,Option.some.injEq] at hr;subst hr;simp [binOp,Op.intBits]
 ·obtain⟨r,hr,rfl⟩:=oI_some h
  rw [bitsF_eq] at hr;simp only [bitsI,Option.some.injEq] at hr;subst hr;simp [binOp,Op.intBits]
 ·obtain⟨r,hr,rfl⟩:=oI_some h
  rw [bitsF_eq] at hr;simp only [bitsI,Option.some.injEq] at hr;subst hr;simp [binOp,Op.intBits]
 ·obtain⟨r,hr,rfl⟩:=oI_some h
  rw [bitsF_eq] at hr;simp only [bitsI,Option.some.injEq] at hr;subst hr;simp [binOp,Op.intBits]
 ·simp only [Option.some.injEq,intEq_eq] at h;subst h;simp [binOp,Op.intCmp]
 ·simp only [Option.some.injEq,intEq_eq] at h;subst h;simp [binOp,Op.intCmp,bne]
 ·simp only [Option.some.injEq,intLt_eq] at h;subst h;simp [binOp,Op.intCmp]
 ·simp only [Option.some.injEq,intLt_eq] at h;subst h;simp [binOp,Op.intCmp];rw [Bool.eq_iff_iff];simp
 ·simp only [Option.some.injEq,intLt_eq] at h;subst h;simp [binOp,Op.intCmp]
 ·simp only [Option.some.injEq,intLt_eq] at h;subst h;simp [binOp,Op.intCmp];rw [Bool.eq_iff_iff];simp
theorem run_shiftOp {op:BinOp} {k k':IntKind} {x y:Int} {v:Value} (t:TypeId) (hop:op=.shl∨op=.shr) (h:shiftOp op k x y=some v) :
  (binOp op t (.int k x) (.int k' y)).run P w=.ok v w:=by
 cases y with
 |negSucc y=>simp [shiftOp] at h
 |ofNat y =>
  have hy:¬ ((y:Int)<0):=by omega
  rcases hop with rfl|rfl
  ·cases x with
   |ofNat a =>
    simp only [shiftOp,Option.some.injEq,vInt_eq,wrapN_eq] at h;subst h
    simp only [binOp,Op.shift,Int.ofNat_eq_natCast,if_neg hy,Int.toNat_natCast]
    have:((Nat.shiftLeft a (Nat.min y k.bits):Nat):Int)=(a:Int)*2 ^ (min y k.bits):=by
     show ((a <<< (min y k.bits):Nat):Int)=_
     rw [Nat.shiftLeft_eq];simp
    rw [this];rfl
   |negSucc a =>
    simp only [shiftOp,Option.some.injEq,vInt_eq] at h;subst h
    simp only [binOp,Op.shift,Int.ofNat_eq_natCast,if_neg hy,Int.toNat_natCast];rfl
  ·cases x with
   |ofNat a =>
    simp only [shiftOp,Option.some.injEq,vInt_eq] at h;subst h
    simp only [binOp,Op.shift,Int.ofNat_eq_natCast,if_neg hy,Int.toNat_natCast]
    have:((Nat.shiftRight a (Nat.min y k.bits):Nat):Int)=(a:Int).fdiv (2 ^ (min y k.bits)):=by
     show ((a >>> (min y k.bits):Nat):Int)=_
     rw [Nat.shiftRight_eq_div_pow,Int.fdiv_eq_ediv_of_nonneg _ (by exact_mod_cast Nat.zero_le _)];simp
    rw [this];rfl
   |negSucc a =>
    simp only [shiftOp,Option.some.injEq,vInt_eq] at h;subst h
    simp only [binOp,Op.shift,Int.ofNat_eq_natCast,if_neg hy,Int.toNat_natCast];rfl
theorem run_strOp {op:BinOp} {a b:ByteArray} {v:Value} (t:TypeId) (h:strOp op a b=some v) :
  (binOp op t (.string a) (.string b)).run P w=.ok v w:=by
 cases op<;>simp only [strOp,Option.some.injEq] at h<;>first
  | (subst h;simp only [binOp,Op.stringOp,toList_eq,← bytesEq_eq];done)
  | (subst h;simp only [binOp,Op.stringOp,toList_eq,bytesEq_eq];rfl)
  |skip
 all_goals first|(simp at h;done)|skip
 have hs:(a.data.toList.length+b.data.toList.length:Int)≤9223372036854775807:=by
  split at h
  ·rename_i hb;have:=Nat.le_of_ble_eq_true hb;omega
  ·simp at h
 have h:(.string ⟨⟨a.data.toList++b.data.toList⟩⟩:Value)=v:=by
  split at h
  ·simpa using h
  ·simp at h
 subst h
 have h1:¬ (((a.size+b.size:Nat):Int)>IntKind.i64.max):=by
  have e1:a.size=a.data.toList.length:=rfl
  have e2:b.size=b.data.toList.length:=rfl
  have:IntKind.i64.max=9223372036854775807:=by decide
  rw [this,e1,e2];simp only [Int.natCast_add];omega
 simp only [binOp,Op.stringOp,if_neg h1]
 have:a++b=(⟨⟨a.data.toList++b.data.toList⟩⟩:ByteArray):=by
  have:=ByteArray.mk_append_mk a.data.toList b.data.toList
  simpa using this
 rw [this];rfl
theorem run_unA {op:UnOp} {x:Value} {v:Value} (h:unA op x=some v):(Op.unary op x).run P w=.ok v w:=by
 unfold unA at h
 split at h
 ·simp only [Option.some.injEq,vInt_eq,wrapF_eq,subI_eq] at h;subst h;simp [Op.unary,Op.intArith]
 ·rename_i k n
  obtain⟨r,hr,rfl⟩:=oI_some h
  simp only [bitsI,Option.some.injEq] at hr;subst hr
  simp [Op.unary,Op.intBits]
 ·simp only [Option.some.injEq] at h;subst h;simp [Op.unary]
 ·simp at h
end
end Go.Ev

namespace Go.Ev
open Go.RowKit
theorem add_none (b o n:Nat):(⟨b,o,none⟩:Addr).add n=⟨b,o+n,none⟩:=by
 unfold Addr.add;split
 ·rename_i h;subst h;rfl
 ·rfl
theorem cellsFrom_zero (r:Row) (i:Nat):cellsFrom r 0 i=some []:=rfl
theorem cellsFrom_succ (r:Row) (k i:Nat):cellsFrom r (k+1) i=oB (cellAt r i) fun v=>oB (cellsFrom r k (i+1)) fun l=>some (v::l):=rfl
theorem cellsFrom_some {r:Row}:∀ {k i:Nat} {l:List Value},cellsFrom r k i=some l→l.length=k∧∀ j v,l[j]? = some v→cellAt r (i+j)=some v
 |0,i,l,h=>by
  rw [cellsFrom_zero] at h;obtain rfl:=Option.some.inj h
  exact⟨rfl,fun j v hv=>by simp at hv⟩
 |k+1,i,l,h=>by
  rw [cellsFrom_succ] at h
  obtain⟨v,hv,h⟩:=oB_some.1 h
  obtain⟨l',hl,h⟩:=oB_some.1 h
  obtain rfl:=Option.some.inj h
  obtain⟨h1,h2⟩:=cellsFrom_some hl
  refine⟨by simp [h1],fun j u hu=>?_⟩
  cases j with
  |zero=>simp at hu;subst hu;exact hv
  |succ j=>simp at hu;have:=h2 j u hu;rw [show i+(j+1)=i+1+j from by omega];exact this
section
variable {tb:Tabs} {N:Nat} {w0:World} {E:Env} {m:Mem} {w:World}
theorem MR.cells (H:MR tb.p N w0 E m w) {b:Nat} {i:Info} {r:Row} (hE:E b=some i) (h:rowOf m b=some r) {k o:Nat} {l:List Value} (hl:cellsFrom r k o=some l) :
  ∃ l',VRs E l l'∧l'.length=k∧∀ j v,l'[j]? = some v→w.cell? ⟨i.blk,i.shift+o+j,none⟩=some v:=by
 obtain⟨h1,h2⟩:=cellsFrom_some hl
 have hc:∀ j v,l[j]? = some v→∃ v',w.cell? ⟨i.blk,i.shift+o+j,none⟩=some v'∧VR E v v':=by
  intro j v hv
  obtain⟨v',h3,h4⟩:=H.cell hE h (h2 j v hv)
  exact⟨v',by rw [show i.shift+o+j=i.shift+(o+j) from by omega];exact h3,h4⟩
 refine⟨(List.range k).map fun j=>(w.cell? ⟨i.blk,i.shift+o+j,none⟩).getD undef,?_,by simp,?_⟩
 ·refine VRs.of_get (by simp [h1]) fun j v v' hv hv'=>?_
  obtain⟨u,h3,h4⟩:=hc j v hv
  rw [List.getElem?_map] at hv'
  have hjl:j<k:=by
   have:=(List.getElem?_eq_some_iff.1 hv).1;omega
  rw [List.getElem?_range hjl] at hv'
  simp [h3] at hv'
  subst hv';exact h4
 ·intro j v hv
  rw [List.getElem?_map] at hv
  by_cases hjl:j<k
  ·rw [List.getElem?_range hjl] at hv
   obtain⟨u,hu⟩:∃ u,l[j]? = some u:=⟨l[j]'(by omega),List.getElem?_eq_getElem (by omega)⟩
   obtain⟨u',h3,h4⟩:=hc j u hu
   simp [h3] at hv
   rw [h3,hv]
  ·rw [List.getElem?_eq_none (by simp;omega)] at hv;simp at hv
theorem run_cells (H:MR tb.p N w0 E m w) {b:Nat} {i:Info} {r:Row} (hE:E b=some i) (h:rowOf m b=some r) {k o:Nat} {l:List Value} (hl:cellsFrom r k o=some l) :
  ∃ l',VRs E l l'∧l'.length=k∧(loadCells ⟨i.blk,i.shift+o,none⟩ k).run tb.p w=.ok l'.toArray w:=by
 obtain⟨l',h1,h2,h3⟩:=H.cells hE h hl
 refine⟨l',h1,h2,?_⟩
 have:=run_loadCells_list (P:=tb.p) (w:=w) ⟨i.blk,i.shift+o,none⟩ l' (fun j v hv=>by rw [add_none];exact h3 j v hv)
 rw [← h2];exact this
theorem run_loadA (ok:TabsOk tb) (H:MR tb.p N w0 E m w) {t b o:Nat} {i:Info} {v:Value} (hE:E b=some i) (h:loadA tb t m b o=some v) :
  ∃ v',(loadVar t ⟨i.blk,i.shift+o,none⟩).run tb.p w=.ok v' w∧VR E v v':=by
 unfold loadA at h
 obtain⟨j,hj,h⟩:=oB_some.1 h
 obtain⟨r,hr,h⟩:=oB_some.1 h
 unfold loadVar
 simp only [Sem.run_bind,run_isAgg ok hj,Result.andThen_ok]
 cases ha:j.agg with
 |true =>
  rw [ha] at h;simp only at h
  obtain⟨l,hl,h⟩:=oB_some.1 h
  obtain rfl:=Option.some.inj h
  obtain⟨l',h1,h2,h3⟩:=run_cells H hE hr hl
  refine⟨.agg ⟨l'⟩,?_,.agg h1⟩
  simp [run_size ok hj,h3]
 |false =>
  rw [ha] at h;simp only at h
  obtain⟨v',h1,h2⟩:=H.cell hE hr h
  exact⟨v',by simp [h1],h2⟩
theorem run_partA (ok:TabsOk tb) {t off:Nat} {cs cs':List Value} {v:Value} (hcs:VRs E cs cs') (h:partA tb t cs off=some v) :
  ∃ v',(part t ⟨cs'⟩ off).run tb.p w=.ok v' w∧VR E v v':=by
 unfold partA at h
 obtain⟨j,hj,h⟩:=oB_some.1 h
 unfold part
 simp only [Sem.run_bind,run_isAgg ok hj,Result.andThen_ok]
 cases ha:j.agg with
 |true =>
  rw [ha] at h;simp only [Option.some.injEq] at h;subst h
  refine⟨.agg ⟨takeN cs' off j.inf.size⟩,?_,.agg ((hcs.drop _).take _)⟩
  simp only [if_true,Sem.run_bind,run_size ok hj,Result.andThen_ok,Sem.run_pure]
  congr 2
  rw [show off+j.inf.size=off+j.inf.size from rfl]
  apply Array.ext'
  simp [takeN,List.extract_eq_take_drop]
 |false =>
  rw [ha] at h;simp only at h
  obtain⟨v',h1,h2⟩:=hcs.get off v h
  refine⟨v',?_,h2⟩
  have:(⟨cs'⟩:Array Value)[off]? = some v':=by simpa using h1
  simp [this]
theorem run_fieldA (ok:TabsOk tb) {t f:Nat} {x x' v:Value} (hx:VR E x x') (h:fieldA tb t x f=some v) :
  ∃ v',(Instr.field t x' f).run tb.p w=.ok v' w∧VR E v v':=by
 unfold fieldA at h
 obtain⟨j,hj,h⟩:=oB_some.1 h
 split at h
 ·rename_i cs
  cases hx with
  |agg hcs =>
   split at h
   ·rename_i o s ft bl hf
    have hfl:=(mkTI_some (ok.types t j hj)).2.2.2.2.2.1
    unfold Instr.field
    simp only [Sem.run_bind,run_ty ok hj,Result.andThen_ok]
    rw [hfl] at hf
    cases hd:j.d with
    |struct fs =>
     rw [hd] at hf
     simp only [List.getElem?_map] at hf
     obtain⟨q,hq1,hq2⟩:=Option.map_eq_some_iff.1 hf
     simp only [Prod.mk.injEq] at hq2
     obtain⟨rfl,rfl,rfl,rfl⟩:=hq2
     have hq:fs[f]? = some q:=by simpa using hq1
     obtain⟨v',h1,h2⟩:=run_partA (w:=w) ok hcs h
     refine⟨v',?_,h2⟩
     simp [hq,asAgg,h1]
    |_=>rw [hd] at hf;simp at hf
   ·simp at h
 ·simp at h
theorem run_indexA (ok:TabsOk tb) {t:Nat} {x x' ix ix' v:Value} (hx:VR E x x') (hi:VR E ix ix') (h:indexA tb t x ix=some v) :
  ∃ v',(Instr.index t x' ix').run tb.p w=.ok v' w∧VR E v v':=by
 unfold indexA at h
 split at h
 ·rename_i k q
  cases hi
  obtain⟨j,hj,h⟩:=oB_some.1 h
  unfold Instr.index
  simp only [asIntOf,Sem.run_bind,Sem.run_pure,run_ty ok hj,Result.andThen_ok]
  cases hd:j.d with
  |string =>
   rw [hd] at h
   cases hx with
   |string s =>
    simp only at h
    split at h
    ·rename_i b hb
     simp only [Option.some.injEq,byteV,fNat_eq] at h;subst h
     refine⟨.int .u8 b.toNat,?_,.int _ _⟩
     have hq:s[q]? = some b:=by
      have:s.data[q]? = some b:=by simpa using hb
      obtain⟨h1,h2⟩:=Array.getElem?_eq_some_iff.1 this
      have h1':q<s.size:=h1
      rw [ByteArray.getElem?_lt' s q h1']
      congr 1
     simp [hq]
    ·simp at h
   |_=>simp at h
  |array len elem =>
   rw [hd] at h
   cases hx with
   |agg hcs =>
    simp only at h
    split at h
    ·rename_i hb
     have hlt:q<len:=by simpa [Nat.blt_eq] using hb
     obtain⟨e,he,h⟩:=oB_some.1 h
     obtain⟨v',h1,h2⟩:=run_partA (w:=w) ok hcs h
     refine⟨v',?_,h2⟩
     have hc:(0:Int)≤(q:Int)∧(q:Int)<(len:Int):=by omega
     simp [hc,run_size ok he,h1,hlt]
    ·simp at h
   |_=>simp at h
  |_=>rw [hd] at h;simp at h
 ·simp at h
theorem run_fieldAddrA (ok:TabsOk tb) {t f:Nat} {x x' v:Value} (hx:VR E x x') (h:fieldAddrA tb t x f=some v) :
  ∃ v',(Instr.fieldAt t x' f).run tb.p w=.ok v' w∧VR E v v':=by
 unfold fieldAddrA at h
 obtain⟨j,hj,h⟩:=oB_some.1 h
 split at h
 ·rename_i a
  cases hx with
  |ptr hE =>
   split at h
   ·rename_i o s q hf
    split at h
    ·simp at h
    ·rename_i s'
     simp only [Option.some.injEq] at h;subst h
     have hfl:=(mkTI_some (ok.types t j hj)).2.2.2.2.2.1
     rw [hfl] at hf
     cases hd:j.d with
     |struct fs =>
      rw [hd] at hf
      simp only [List.getElem?_map] at hf
      obtain⟨q,hq1,hq2⟩:=Option.map_eq_some_iff.1 hf
      simp only [Prod.mk.injEq] at hq2
      obtain⟨rfl,h2,rfl⟩:=hq2
      have hq:fs[f]? = some q:=by simpa using hq1
      refine⟨_,?_,.ptr hE⟩
      unfold Instr.fieldAt
      have hs:∃ inf,tb.p.info? q.type=some inf∧inf.size=s'+1:=by
       unfold Program.cellsOf at h2
       cases hi:tb.p.info? q.type with
       |none=>simp [hi] at h2
       |some inf=>simp [hi] at h2;exact⟨inf,rfl,h2⟩
      obtain⟨inf,hi1,hi2⟩:=hs
      simp [run_ty ok hj,hd,hq,Instr.sureAddr,fieldPlace,sizeOf,typeInfo,hi1,hi2,add_none,addA,Nat.add_assoc]
     |_=>rw [hd] at hf;simp at hf
   ·simp at h
 ·simp at h
theorem run_indexAddrA (ok:TabsOk tb) {t:Nat} {x x' ix ix' v:Value} (hx:VR E x x') (hi:VR E ix ix') (h:indexAddrA tb t x ix=some v) :
  ∃ v',(Instr.indexAt t x' ix').run tb.p w=.ok v' w∧VR E v v':=by
 unfold indexAddrA at h
 split at h
 ·rename_i k q
  cases hi
  obtain⟨j,hj,h⟩:=oB_some.1 h
  cases hd:j.d with
  |array len elem =>
   rw [hd] at h
   cases hx with
   |ptr hE =>
    simp only at h
    split at h
    ·rename_i hb
     have hlt:q<len:=by simpa [Nat.blt_eq] using hb
     obtain⟨e,he,h⟩:=oB_some.1 h
     simp only [Option.some.injEq] at h;subst h
     refine⟨_,?_,.ptr hE⟩
     unfold Instr.indexAt
     simp [asIntOf,hd,Instr.sureAddr,hlt,run_size ok he,run_ty ok hj,add_none,addA,Nat.add_assoc]
    ·simp at h
   |_=>simp at h
  |slice elem =>
   rw [hd] at h
   have key:∀ (a:Addr) (i:Info) (len cap':Nat),E a.block=some i→(match Nat.blt q len with|true=>oB (ti tb elem) fun e=>some (Value.pointer (some (addA a (q*e.inf.size))))|false=>none)=some v →
     ∃ v',(Instr.indexAt t (.slice (some ⟨i.blk,i.shift+a.off,none⟩) len cap') (.int k q)).run tb.p w=.ok v' w∧VR E v v':=by
    intro a i len cap' hE h
    split at h
    ·rename_i hb
     have hlt:q<len:=by simpa [Nat.blt_eq] using hb
     obtain⟨e,he,h⟩:=oB_some.1 h
     simp only [Option.some.injEq] at h;subst h
     refine⟨_,?_,.ptr hE⟩
     unfold Instr.indexAt
     simp [asIntOf,run_ty ok hj,hd,hlt,run_size ok he,add_none,addA,Nat.add_assoc]
    ·simp at h
   cases hx with
   |sl l c hE=>simp only at h;exact key ⟨_,_,none⟩ _ _ _ hE h
   |slX l c hE=>simp only at h;exact key ⟨_,_,some 0⟩ _ _ _ hE h
   |slD a b=>simp only at h;rw [show Nat.blt q 0=false from rfl] at h;simp at h
   |slE0 hE hx=>simp only at h;rw [show Nat.blt q 0=false from rfl] at h;simp at h
   |slE1 hE hx=>simp only at h;rw [show Nat.blt q 0=false from rfl] at h;simp at h
   |_=>simp at h
  |_=>rw [hd] at h;simp at h
 ·simp at h
end
end Go.Ev

namespace Go.Ev
open Go.RowKit
inductive OVR (E:Env):Option Value→Option Value→Prop where
 |none:OVR E none none
 |some {v v':Value} (h:VR E v v'):OVR E (some v) (some v')
section
variable {tb:Tabs} {N:Nat} {w0:World} {E:Env} {m:Mem} {w:World}
theorem run_bound {P:Program} {x x':Value} {y y' n:Nat} (hx:VR E x x') (h:bound x y=some n) (hy:y≤y') (c:BoundsCode):n≤y∧(Instr.sliceBound x' y' c).run P w=.ok n w:=by
 unfold bound at h
 split at h
 ·rename_i k q
  cases hx
  split at h
  ·rename_i hb
   have hle:=Nat.le_of_ble_eq_true hb
   simp only [Option.some.injEq] at h;subst h
   refine⟨hle,?_⟩
   have hc:(0:Int)≤(q:Int)∧(q:Int)≤(y':Int):=by omega
   have hq:q≤y':=by omega
   simp [Instr.sliceBound,asIntOf,hq]
  ·simp at h
 ·simp at h
theorem bounds3_le {len cap l h q:Nat} {lo hi mx:Option Value} (hb:bounds3 len cap lo hi mx=some (l,h,q)):q≤cap:=by
 unfold bounds3 at hb
 split at hb
 ·simp at hb
 ·obtain⟨q',h1,hb⟩:=oB_some.1 hb
  obtain⟨h2,_,hb⟩:=oB_some.1 hb
  obtain⟨l2,_,hb⟩:=oB_some.1 hb
  have e:q'=q:=by
   split at hb
   ·simp only [Option.some.injEq,Prod.mk.injEq] at hb;exact hb.2.2
   ·cases hb
  subst e
  unfold oBound at h1
  split at h1
  ·unfold bound at h1
   split at h1
   ·split at h1
    ·rename_i hble
     simp only [Option.some.injEq] at h1
     rw [Nat.ble_eq] at hble;omega
    ·cases h1
   ·cases h1
  ·simp only [Option.some.injEq] at h1;omega
theorem run_bounds3 {P:Program} {isS:Bool} {lo lo' hi hi' mx mx':Option Value} (hlo:OVR E lo lo') (hhi:OVR E hi hi') (hmx:OVR E mx mx') {len cap cap' l h q:Nat} (hc:cap≤cap')
  (hb:bounds3 len cap lo hi mx=some (l,h,q)):l≤h∧h≤q∧(mx=none→q=cap)∧(Instr.sliceBounds isS len cap' lo' hi' mx').run P w=.ok (l,h,if mx.isSome then q else cap') w:=by
 have hb':oB (oBound mx cap cap) (fun q=>oB (oBound hi len q) fun h=>oB (oBound lo 0 h) fun l=>match Nat.ble l h&&Nat.ble h q with|true=>some (l,h,q)|false=>none)=some (l,h,q)∧(mx.isSome=true→hi.isSome=true):=by
  unfold bounds3 at hb
  split at hb
  ·simp at hb
  ·rename_i h1
   refine⟨hb,fun hm=>?_⟩
   cases hi with
   |some _=>rfl
   |none=>cases mx with
    |none=>simp at hm
    |some v=>exact absurd rfl (h1 v rfl)
 obtain⟨hb',hsome⟩:=hb'
 obtain⟨q0,h1,hb'⟩:=oB_some.1 hb'
 obtain⟨h0,h2,hb'⟩:=oB_some.1 hb'
 obtain⟨l0,h3,hb'⟩:=oB_some.1 hb'
 split at hb'
 ·rename_i hle
  simp only [Option.some.injEq,Prod.mk.injEq] at hb'
  obtain⟨rfl,rfl,rfl⟩:=hb'
  rw [Bool.and_eq_true] at hle
  refine⟨Nat.le_of_ble_eq_true hle.1,Nat.le_of_ble_eq_true hle.2,?_,?_⟩
  ·intro e;subst e;simp only [oBound,Option.some.injEq] at h1;exact h1.symm
  unfold Instr.sliceBounds
  cases hmx with
  |none =>
   simp only [oBound,Option.some.injEq] at h1;subst h1
   cases hhi with
   |none =>
    simp only [oBound,Option.some.injEq] at h2;subst h2
    simp only [Sem.run_bind,Sem.run_pure,Result.andThen_ok,Option.isSome_none,Bool.false_eq_true,if_false]
    cases hlo with
    |none=>simp only [oBound,Option.some.injEq] at h3;subst h3;simp
    |some hv' =>
     have hl:=(run_bound (P:=P) (w:=w) hv' h3 (Nat.le_refl _) .sliceB).2
     simp [hl]
   |some hv =>
    have hh:=(run_bound (P:=P) (w:=w) hv h2 hc (if isS then .sliceAcap else .sliceAlen)).2
    simp only [Sem.run_bind,Sem.run_pure,Result.andThen_ok,Option.isSome_none,Bool.false_eq_true,if_false]
    rw [hh];simp only [Result.andThen_ok]
    cases hlo with
    |none=>simp only [oBound,Option.some.injEq] at h3;subst h3;simp
    |some hv' =>
     have hl:=(run_bound (P:=P) (w:=w) hv' h3 (Nat.le_refl _) .sliceB).2
     simp [hl]
  |some hv =>
   have hm:=(run_bound (P:=P) (w:=w) hv h1 hc (if isS then .slice3Acap else .slice3Alen)).2
   cases hhi with
   |none=>simp at hsome
   |some hu =>
    have hh:=(run_bound (P:=P) (w:=w) hu h2 (Nat.le_refl _) .slice3B).2
    simp only [Sem.run_bind,Sem.run_pure,Result.andThen_ok,Option.isSome_some,if_true]
    rw [hm];simp only [Result.andThen_ok];rw [hh];simp only [Result.andThen_ok]
    cases hlo with
    |none=>simp only [oBound,Option.some.injEq] at h3;subst h3;simp
    |some hv' =>
     have hl:=(run_bound (P:=P) (w:=w) hv' h3 (Nat.le_refl _) .slice3C).2
     simp [hl]
 ·simp at hb'
theorem extract_eq (s:ByteArray) (l h:Nat):s.extract l h=⟨⟨(s.data.toList.drop l).take (h-l)⟩⟩:=by
 have:=ByteArray.extract_mk s.data.toList l h
 simpa using this
theorem addIf_eq (c:Bool) (b o n:Nat):addIf c ⟨b,o,none⟩ n=if c then ⟨b,o,none⟩ else ⟨b,o+n,none⟩:=by cases c<;>rfl
theorem beq_dec (a b:Nat):Nat.beq a b=decide (a=b):=by
 cases h:Nat.beq a b with
 |true=>simp [Nat.eq_of_beq_eq_true h]
 |false=>simp [Nat.ne_of_beq_eq_false h]
theorem run_sliceA (ok:TabsOk tb) (H:MR tb.p N w0 E m w) {t:Nat} {x x' v:Value} {lo lo' hi hi' mx mx':Option Value} (hx:VR E x x') (hlo:OVR E lo lo') (hhi:OVR E hi hi') (hmx:OVR E mx mx')
  (h:sliceA tb t m x lo hi mx=some v):∃ v',(Instr.sliceAt t x' lo' hi' mx').run tb.p w=.ok v' w∧VR E v v':=by
 unfold sliceA at h
 obtain⟨j,hj,h⟩:=oB_some.1 h
 cases hd:j.d with
 |string =>
  rw [hd] at h
  cases hx with
  |string s =>
   simp only at h
   cases hmx with
   |some _=>simp at h
   |none =>
    simp only [slStr] at h
    obtain⟨⟨l,h',q⟩,hb,h⟩:=oB_some.1 h
    simp only [Option.some.injEq] at h;subst h
    have hb':=(run_bounds3 (P:=tb.p) (w:=w) (isS:=false) hlo hhi .none (Nat.le_refl _) hb).2.2.2
    refine⟨_,?_,.string _⟩
    have e:s.size=s.data.toList.length:=rfl
    simp only [Instr.sliceAt,Sem.run_bind,run_ty ok hj,hd,Result.andThen_ok,Instr.slice,Option.isSome_none,Bool.false_eq_true,if_false,e,hb',Sem.run_pure,extract_eq]
  |_=>simp at h
 |slice elem =>
  rw [hd] at h
  cases hx with
  |slNil len cap =>
   simp only at h
   obtain⟨⟨l,h',q⟩,hb,h⟩:=oB_some.1 h
   obtain⟨e,he,h⟩:=oB_some.1 h
   simp only [Option.some.injEq] at h;subst h
   obtain⟨_,_,hq,hb'⟩:=run_bounds3 (P:=tb.p) (w:=w) (isS:=true) hlo hhi hmx (Nat.le_refl _) hb
   refine⟨.slice none (h'-l) (q-l),?_,.slNil _ _⟩
   have:(if mx.isSome then q else cap)=q:=by
    cases mx with
    |none=>simp [hq rfl]
    |some _=>rfl
   rw [this] at hb'
   simp only [Instr.sliceAt,Sem.run_bind,run_ty ok hj,hd,Result.andThen_ok,Instr.slice,hb',run_size ok he,Sem.run_pure]
   congr 2;split<;>rfl
  | @sl b o i len cap hE =>
    simp only at h
    obtain⟨⟨l,h',q⟩,hb,h⟩:=oB_some.1 h
    obtain⟨e,he,h⟩:=oB_some.1 h
    obtain⟨r,hr,h⟩:=oB_some.1 h
    obtain⟨hl1,hl2,hq,hb'⟩:=run_bounds3 (P:=tb.p) (w:=w) (isS:=true) hlo hhi hmx (Nat.le_add_right cap i.extra) hb
    have hrun:(Instr.sliceAt t (.slice (some ⟨i.blk,i.shift+o,none⟩) len (cap+i.extra)) lo' hi' mx').run tb.p w =
      .ok (.slice (if (if mx.isSome then q else cap+i.extra)=l then some ⟨i.blk,i.shift+o,none⟩ else some ⟨i.blk,i.shift+o+l*e.inf.size,none⟩) (h'-l) ((if mx.isSome then q else cap+i.extra)-l)) w:=by
     simp only [Instr.sliceAt,Sem.run_bind,run_ty ok hj,hd,Result.andThen_ok,Instr.slice,hb',run_size ok he,Sem.run_pure,Option.map_some,add_none]
    obtain⟨cells,el,fr,hc1,hc2⟩:=H.row hE hr
    simp only [slExt] at h
    cases hx:r.ext with
    |false =>
     rw [hx] at h;simp only [Option.some.injEq] at h;subst h
     obtain⟨hs0,hx0⟩:=hc2.exact' hx
     have hqq:(if mx.isSome then q else cap+i.extra)=q:=by
      cases mx with
      |none=>simp [hq rfl,hx0]
      |some _=>rfl
     rw [hqq] at hrun
     refine⟨_,hrun,?_⟩
     rw [addIf_eq,beq_dec]
     by_cases hql:q=l
     ·simp only [hql,if_true,decide_true]
      have:=VR.sl (E:=E) (o:=o) (h'-l) (l-l) hE
      rw [hx0,Nat.add_zero] at this;exact this
     ·simp only [hql,if_false,decide_false,Bool.false_eq_true]
      have:=VR.sl (E:=E) (o:=o+l*e.inf.size) (h'-l) (q-l) hE
      rw [hx0,Nat.add_zero,← Nat.add_assoc] at this;exact this
    |true =>
     rw [hx] at h;simp only at h
     cases hmx with
     |some hv =>
      simp only [Option.some.injEq] at h;subst h
      simp only [Option.isSome_some,if_true] at hrun
      refine⟨_,hrun,?_⟩
      rw [addIf_eq,beq_dec]
      by_cases hql:q=l
      ·simp only [hql,if_true,decide_true];exact .slX _ _ hE
      ·simp only [hql,if_false,decide_false,Bool.false_eq_true]
       have:=VR.slX (E:=E) (o:=o+l*e.inf.size) (h'-l) (q-l) hE
       rw [← Nat.add_assoc] at this;exact this
     |none =>
      have hqc:=hq rfl
      simp only [Option.isSome_none,Bool.false_eq_true,if_false,← hqc] at hrun
      rw [beq_dec] at h
      rw [← hqc]
      by_cases hql:q=l
      ·simp only [hql,decide_true] at h
       rw [hql] at hrun
       rw [hql]
       split at h
       ·simp at h
       ·rename_i k hk
        simp only [Option.some.injEq] at h;subst h
        refine⟨_,hrun,?_⟩
        have hh:h'-l=0:=by omega
        by_cases hx0:i.extra=0
        ·simp only [hx0,Nat.add_zero,if_true,hh,Nat.sub_self];exact .slE0 hE hx0
        ·have:¬ (l+i.extra=l):=by omega
         simp only [if_neg this,hh]
         have e2:l+i.extra-l=i.extra:=by omega
         rw [e2,hk]
         exact .slE1 hE hx0
      ·simp only [hql,decide_false,Option.some.injEq] at h;subst h
       have:¬ (q+i.extra=l):=by omega
       simp only [if_neg this] at hrun
       refine⟨_,hrun,?_⟩
       have:=VR.sl (E:=E) (o:=o+l*e.inf.size) (h'-l) (q-l) hE
       rw [← Nat.add_assoc] at this
       have e2:q+i.extra-l=q-l+i.extra:=by omega
       rw [e2];exact this
  | @slX b o i len cap hE =>
    simp only at h
    obtain⟨⟨l,h',q⟩,hb,h⟩:=oB_some.1 h
    obtain⟨e,he,h⟩:=oB_some.1 h
    obtain⟨r,hr,h⟩:=oB_some.1 h
    obtain⟨hl1,hl2,hq,hb'⟩:=run_bounds3 (P:=tb.p) (w:=w) (isS:=true) hlo hhi hmx (Nat.le_refl _) hb
    have hqq:(if mx.isSome then q else cap)=q:=by
     cases mx with
     |none=>simp [hq rfl]
     |some _=>rfl
    rw [hqq] at hb'
    have hrun:(Instr.sliceAt t (.slice (some ⟨i.blk,i.shift+o,none⟩) len cap) lo' hi' mx').run tb.p w =
      .ok (.slice (if q=l then some ⟨i.blk,i.shift+o,none⟩ else some ⟨i.blk,i.shift+o+l*e.inf.size,none⟩) (h'-l) (q-l)) w:=by
     simp only [Instr.sliceAt,Sem.run_bind,run_ty ok hj,hd,Result.andThen_ok,Instr.slice,hb',run_size ok he,Sem.run_pure,Option.map_some,add_none]
    simp only [slExt] at h
    cases hx:r.ext with
    |false=>rw [hx] at h;simp at h
    |true =>
     rw [hx] at h;simp only [Option.some.injEq] at h;subst h
     refine⟨_,hrun,?_⟩
     rw [beq_dec]
     by_cases hql:q=l
     ·simp only [hql,if_true,decide_true,addIf];exact .slX _ _ hE
     ·simp only [hql,if_false,decide_false,addIf,addA]
      have:=VR.slX (E:=E) (o:=o+l*e.inf.size) (h'-l) (q-l) hE
      rw [← Nat.add_assoc] at this;exact this
  | @slD b0 o0 s0 i0 b hE0 =>
    simp only at h
    obtain⟨⟨l,h',q⟩,hb,h⟩:=oB_some.1 h
    obtain⟨e,he,h⟩:=oB_some.1 h
    obtain⟨r,hr,h⟩:=oB_some.1 h
    obtain⟨hl1,hl2,hq,hb'⟩:=run_bounds3 (P:=tb.p) (w:=w) (isS:=true) hlo hhi hmx (Nat.le_refl 0) hb
    have hq0:=bounds3_le hb
    obtain rfl:q=0:=by omega
    obtain rfl:h'=0:=by omega
    obtain rfl:l=0:=by omega
    have hadd:∀ (bb:Bool) (x:Addr) (n:Nat),x.block=b0→(addIf bb x n).block=b0:=by
     intro bb x n hx;cases bb<;>exact hx
    have hA:∃ A:Addr,v=.slice (some A) 0 0∧A.block=b0:=by
     unfold slExt at h
     split at h
     ·split at h
      ·simp only [Option.some.injEq] at h;exact⟨_,h.symm,by first|rfl|exact hadd _ _ _ rfl⟩
      ·cases h
     ·split at h
      ·cases h
      ·simp only [Option.some.injEq] at h;exact⟨_,h.symm,by first|rfl|exact hadd _ _ _ rfl⟩
      ·split at h
       ·simp only [Option.some.injEq] at h;exact⟨_,h.symm,by first|rfl|exact hadd _ _ _ rfl⟩
       ·split at h
        ·split at h
         ·cases h
         ·simp only [Option.some.injEq] at h;exact⟨_,h.symm,by first|rfl|exact hadd _ _ _ rfl⟩
        ·simp only [Option.some.injEq] at h;exact⟨_,h.symm,by first|rfl|exact hadd _ _ _ rfl⟩
    obtain⟨⟨b1,o1,s1⟩,rfl,hb1⟩:=hA
    simp only at hb1;subst hb1
    refine⟨.slice (some b) 0 0,?_,.slD _ hE0⟩
    have hb2:(Instr.sliceBounds true 0 0 lo' hi' mx').run tb.p w=.ok (0,0,0) w:=by
     rw [hb'];split<;>rfl
    simp only [Instr.sliceAt,Sem.run_bind,run_ty ok hj,hd,Result.andThen_ok,Instr.slice,hb2,run_size ok he,Sem.run_pure,Option.map_some]
    simp [add_none]
  |slE0 hE hx =>
   simp only at h
   obtain⟨⟨l,h',q⟩,hb,h⟩:=oB_some.1 h
   obtain⟨e,he,h⟩:=oB_some.1 h
   obtain⟨r,hr,h⟩:=oB_some.1 h
   simp only [slExt] at h
   cases hx:r.ext<;>rw [hx] at h<;>simp at h
  |slE1 hE hx =>
   simp only at h
   obtain⟨⟨l,h',q⟩,hb,h⟩:=oB_some.1 h
   obtain⟨e,he,h⟩:=oB_some.1 h
   obtain⟨r,hr,h⟩:=oB_some.1 h
   simp only [slExt] at h
   cases hx:r.ext<;>rw [hx] at h<;>simp at h
  |_=>simp at h
 |array n elem =>
  rw [hd] at h
  cases hx with
  | @ptr b o i hE =>
    simp only at h
    obtain⟨⟨l,h',q⟩,hb,h⟩:=oB_some.1 h
    obtain⟨e,he,h⟩:=oB_some.1 h
    obtain⟨r,hr,h⟩:=oB_some.1 h
    obtain⟨hl1,hl2,hq,hb'⟩:=run_bounds3 (P:=tb.p) (w:=w) (isS:=false) hlo hhi hmx (Nat.le_refl _) hb
    have hqq:(if mx.isSome then q else n)=q:=by
     cases mx with
     |none=>simp [hq rfl]
     |some _=>rfl
    rw [hqq] at hb'
    have hrun:(Instr.sliceAt t (.pointer (some ⟨i.blk,i.shift+o,none⟩)) lo' hi' mx').run tb.p w =
      .ok (.slice (some (if q=l then ⟨i.blk,i.shift+o,none⟩ else ⟨i.blk,i.shift+o+l*e.inf.size,none⟩)) (h'-l) (q-l)) w:=by
     simp only [Instr.sliceAt,Sem.run_bind,run_ty ok hj,hd,Result.andThen_ok,Instr.sureAddr,hb',run_size ok he,Sem.run_pure,add_none]
    obtain⟨cells,el,fr,hc1,hc2⟩:=H.row hE hr
    cases hx:r.ext with
    |false =>
     rw [hx] at h;simp only [Option.some.injEq] at h;subst h
     obtain⟨hs0,hx0⟩:=hc2.exact' hx
     refine⟨_,hrun,?_⟩
     rw [addIf_eq,beq_dec]
     by_cases hql:q=l
     ·simp only [hql,if_true,decide_true]
      have:=VR.sl (E:=E) (o:=o) (h'-l) (l-l) hE
      rw [hx0,Nat.add_zero] at this;exact this
     ·simp only [hql,if_false,decide_false,Bool.false_eq_true]
      have:=VR.sl (E:=E) (o:=o+l*e.inf.size) (h'-l) (q-l) hE
      rw [hx0,Nat.add_zero,← Nat.add_assoc] at this;exact this
    |true =>
     rw [hx] at h;simp only [Option.some.injEq] at h;subst h
     refine⟨_,hrun,?_⟩
     rw [beq_dec]
     by_cases hql:q=l
     ·simp only [hql,if_true,decide_true,addIf];exact .slX _ _ hE
     ·simp only [hql,if_false,decide_false,addIf,addA]
      have:=VR.slX (E:=E) (o:=o+l*e.inf.size) (h'-l) (q-l) hE
      rw [← Nat.add_assoc] at this;exact this
  |_=>simp at h
 |_=>rw [hd] at h;simp at h
end
end Go.Ev

namespace Go.Ev
open Go.RowKit
section
variable {tb:Tabs} {N:Nat} {w0:World} {E:Env} {m:Mem} {w:World}
def EqOk (tb:Tabs) (E:Env) (w:World) (eq:TypeId→Value→Value→Option Bool) (d:Nat):Prop :=
 ∀ t x y x' y' r,eq t x y=some r→VR E x x'→VR E y y'→∀ D,d≤D→(Op.equalIn D t x' y').run tb.p w=.ok r w
theorem run_eqFields (ok:TabsOk tb) {eq:TypeId→Value→Value→Option Bool} {d D:Nat} (heq:EqOk tb E w eq d) (hD:d≤D) {xs ys xs' ys':List Value} (hx:VRs E xs xs') (hy:VRs E ys ys') :
  ∀ (fs:List Field) (r:Bool),eqFields tb eq xs ys (fs.map fun f=>(f.offset,tb.p.cellsOf f.type,f.type,f.name == "_"))=some r→(Op.eqFields D ⟨xs'⟩ ⟨ys'⟩ fs).run tb.p w=.ok r w
 | [],r,h=>by simp [eqFields] at h;subst h;simp [Op.eqFields]
 |f::fs,r,h=>by
  simp only [List.map_cons,eqFields] at h
  simp only [Op.eqFields]
  cases hb:f.name == "_" with
  |true =>
   rw [hb] at h
   have hn:f.name = "_" := by simpa using hb
   simp only [hn,ne_eq,not_true_eq_false,if_false]
   exact run_eqFields ok heq hD hx hy fs r h
  |false =>
   rw [hb] at h
   have hn:f.name ≠ "_" := by simpa using hb
   simp only at h
   obtain⟨a,ha,h⟩:=oB_some.1 h
   obtain⟨b,hb,h⟩:=oB_some.1 h
   obtain⟨q,hq,h⟩:=oB_some.1 h
   obtain⟨a',h1,h2⟩:=run_partA (w:=w) ok hx ha
   obtain⟨b',h3,h4⟩:=run_partA (w:=w) ok hy hb
   have h5:=heq _ _ _ _ _ _ hq h2 h4 D hD
   rw [if_pos hn]
   simp only [Sem.run_bind,h1,h3,h5,Result.andThen_ok]
   cases q with
   |true=>simp only [Bool.not_true,Bool.false_eq_true,if_false];exact run_eqFields ok heq hD hx hy fs r h
   |false=>simp only [Option.some.injEq] at h;subst h;simp
theorem run_eqElems (ok:TabsOk tb) {eq:TypeId→Value→Value→Option Bool} {d D:Nat} (heq:EqOk tb E w eq d) (hD:d≤D) {xs ys xs' ys':List Value} (hx:VRs E xs xs') (hy:VRs E ys ys') {elem n:Nat} :
  ∀ (k i:Nat) (r:Bool),eqElems tb eq elem n xs ys k i=some r→(Op.eqItems D elem n ⟨xs'⟩ ⟨ys'⟩ (List.range' i k)).run tb.p w=.ok r w
 |0,i,r,h=>by simp [eqElems] at h;subst h;simp [Op.eqItems]
 |k+1,i,r,h=>by
  simp only [eqElems] at h
  obtain⟨a,ha,h⟩:=oB_some.1 h
  obtain⟨b,hb,h⟩:=oB_some.1 h
  obtain⟨q,hq,h⟩:=oB_some.1 h
  obtain⟨a',h1,h2⟩:=run_partA (w:=w) ok hx ha
  obtain⟨b',h3,h4⟩:=run_partA (w:=w) ok hy hb
  have h5:=heq _ _ _ _ _ _ hq h2 h4 D hD
  rw [List.range'_succ]
  simp only [Op.eqItems,Sem.run_bind,h1,h3,h5,Result.andThen_ok]
  cases q with
  |true=>simp only [Bool.not_true,Bool.false_eq_true,if_false];exact run_eqElems ok heq hD hx hy k (i+1) r h
  |false=>simp only [Option.some.injEq] at h;subst h;simp
theorem MR.plain (H:MR tb.p N w0 E m w) {b:Nat} {i:Info} {r:Row} (hE:E b=some i) (h:rowOf m b=some r) (hf:r.fz=.none) :
  (∀ o,w.frozen? ⟨i.blk,o,none⟩=false)∧∃ e n,w.shape? i.blk=some (e,n):=by
 obtain⟨cells,elem,fr,h1,h2⟩:=H.row hE h
 have hz:=h2.fz
 rw [hf] at hz
 have hz:fr.1=fr.2:=hz
 constructor
 ·intro o
  obtain⟨lo,hi⟩:=fr
  have hz:lo=hi:=hz
  subst hz
  simp only [World.frozen?,h1]
  simp
 ·exact⟨elem,cells.size,by simp [World.shape?,h1]⟩
theorem run_ptrEq (H:MR tb.p N w0 E m w) {a b:Addr} {i j:Info} (ha:E a.block=some i) (hb:E b.block=some j) {r:Bool} (h:ptrEq m a b=some r) :
  (sameAddr ⟨i.blk,i.shift+a.off,none⟩ ⟨j.blk,j.shift+b.off,none⟩).run tb.p w=.ok r w:=by
 unfold ptrEq at h
 unfold sameAddr
 split at h
 ·rename_i hq
  have:=Nat.eq_of_beq_eq_true hq
  rw [this] at ha
  obtain rfl:=Option.some.inj (ha.symm.trans hb)
  simp only [Option.some.injEq] at h
  rw [beq_dec] at h
  simp only [beq_self_eq_true,if_true,Sem.run_pure]
  rw [← h]
  congr 1
  rw [Bool.eq_iff_iff]
  simp
 ·rename_i hq
  have hne:=Nat.ne_of_beq_eq_false hq
  split at h
  ·rename_i r1 r2 h1 h2
   split at h
   ·rename_i hf1 hf2
    simp only [Option.some.injEq] at h;subst h
    have hblk:i.blk≠j.blk:=by
     rcases rowOf_some h1 with h1|h1<;>rcases rowOf_some h2 with h2|h2<;>exact H.inj _ _ _ _ _ _ hne ha hb h1 h2 rfl rfl
    obtain⟨f1,e1,n1,s1⟩:=H.plain ha h1 hf1
    obtain⟨f2,e2,n2,s2⟩:=H.plain hb h2 hf2
    have hbb:(i.blk==j.blk)=false:=by simpa using hblk
    simp [hbb,f1,f2,noView,viewAt,s1,s2,mayBeOne,stringish]
   ·simp at h
  ·simp at h
theorem run_eqPtr (ok:TabsOk tb) (H:MR tb.p N w0 E m w) {t e:Nat} {j ie:TI} (hj:ti tb t=some j) (hd:j.d=.pointer e) (he:ti tb e=some ie) (hs:ie.inf.size≠0) {a b:Option Addr} {x' y':Value} (hx:VR E (.pointer a) x') (hy:VR E (.pointer b) y') {r:Bool} (h:eqPtr m a b=some r) (D:Nat) :
  (Op.equalIn (D+1) t x' y').run tb.p w=.ok r w:=by
 simp only [Op.equalIn,Sem.run_bind,run_ty ok hj,hd,Result.andThen_ok]
 cases hx with
 |ptrNil =>
  cases hy with
  |ptrNil=>simp only [eqPtr,Option.some.injEq] at h;subst h;simp
  |ptr hb=>simp only [eqPtr,Option.some.injEq] at h;subst h;simp
 |ptr ha =>
  cases hy with
  |ptrNil=>simp only [eqPtr,Option.some.injEq] at h;subst h;simp
  |ptr hb =>
   simp only [eqPtr] at h
   have:=run_ptrEq (w:=w) H (a:=⟨_,_,none⟩) (b:=⟨_,_,none⟩) ha hb h
   simp only [Sem.run_bind,run_size ok he,Result.andThen_ok,hs,ne_eq,not_false_eq_true,if_true]
   exact this
theorem run_eqSlice {t:Nat} {j:TI} {e:TypeId} (hu:(underlying t).run tb.p w=.ok (.slice e) w) {x y x' y':Value} {r:Bool} (hx:VR E x x') (hy:VR E y y') (h:eqSl x y=some r) (D:Nat):(Op.equalIn (D+1) t x' y').run tb.p w=.ok r w:=by
 unfold eqSl at h
 split at h<;>first
  | (simp at h;done)
  | (simp only [Option.some.injEq] at h;subst h;cases hx<;>cases hy<;>simp [Op.equalIn,hu])
theorem run_eqMap {t:Nat} {j:TI} {k e:TypeId} (hu:(underlying t).run tb.p w=.ok (.map k e) w) {x y x' y':Value} {r:Bool} (hx:VR E x x') (hy:VR E y y') (h:eqMp x y=some r) (D:Nat):(Op.equalIn (D+1) t x' y').run tb.p w=.ok r w:=by
 unfold eqMp at h
 split at h<;>first
  | (simp at h;done)
  | (simp only [Option.some.injEq] at h;subst h;cases hx<;>cases hy<;>simp [Op.equalIn,hu])
theorem run_eqFunc {t:Nat} {j:TI} {a b:Array TypeId} {c:Bool} (hu:(underlying t).run tb.p w=.ok (.func a b c) w) {x y x' y':Value} {r:Bool} (hx:VR E x x') (hy:VR E y y') (h:eqFn x y=some r) (D:Nat):(Op.equalIn (D+1) t x' y').run tb.p w=.ok r w:=by
 unfold eqFn at h
 split at h<;>first
  | (simp at h;done)
  | (simp only [Option.some.injEq] at h;subst h;cases hx<;>cases hy<;>simp [Op.equalIn,hu])
theorem run_eqA (ok:TabsOk tb) (H:MR tb.p N w0 E m w):∀ d,EqOk tb E w (eqA tb m d) d
 |0=>by intro t x y x' y' r h;simp [eqA] at h
 |d+1=>by
  intro t x y x' y' r h0 hx hy D hD
  obtain⟨D,rfl⟩:∃ k,D=k+1:=⟨D-1,by omega⟩
  have hD':d≤D:=by omega
  have ih:=run_eqA ok H d
  simp only [eqA] at h0
  obtain⟨j,hj,h⟩:=oB_some.1 h0
  clear h0
  have hu:(underlying t).run tb.p w=.ok j.d w:=run_ty ok hj
  have hfl:=mkTI_some (ok.types t j hj)
  cases hd:j.d with
  |bool =>
   rw [hd] at h hu;simp only at h
   unfold eqBool at h
   split at h
   ·cases hx;cases hy
    simp only [Option.some.injEq] at h
    subst h;simp [Op.equalIn,hu]
   ·simp at h
  |int k =>
   rw [hd] at h hu;simp only at h
   unfold eqInt at h
   split at h
   ·cases hx;cases hy
    split at h
    ·rename_i hk
     have:=kEq_true hk
     simp only [Option.some.injEq,intEq_eq] at h;subst h
     simp [Op.equalIn,hu,this]
    ·simp at h
   ·simp at h
  |string =>
   rw [hd] at h hu;simp only at h
   unfold eqStr at h
   split at h
   ·cases hx;cases hy
    simp only [Option.some.injEq] at h
    rw [bytesEq_eq,← toList_eq,← toList_eq,← beq_toListBytes] at h
    subst h;simp [Op.equalIn,hu]
   ·simp at h
  |pointer e =>
   rw [hd] at h;simp only at h
   unfold eqPt at h
   split at h
   ·obtain⟨ie,he,h1⟩:=oB_some.1 h
    split at h1
    ·simp at h1
    ·rename_i s hs
     exact run_eqPtr ok H hj hd he (by rw [hs];omega) hx hy h1 D
   ·simp at h
  |interface ms =>
   rw [hd] at h hu;simp only at h
   unfold eqIf at h
   split at h
   ·cases hx;cases hy;simp only [Option.some.injEq] at h;subst h;simp [Op.equalIn,hu]
   ·cases hx;cases hy;simp only [Option.some.injEq] at h;subst h;simp [Op.equalIn,hu]
   ·cases hx;cases hy;simp only [Option.some.injEq] at h;subst h;simp [Op.equalIn,hu]
   ·rename_i tx vx ty vy
    cases hx with
    |iface _ h1 =>
     cases hy with
     |iface _ h2 =>
      cases hq:Nat.beq tx ty with
      |false =>
       rw [hq] at h
       have hne:=Nat.ne_of_beq_eq_false hq
       simp only [Option.some.injEq] at h;subst h
       simp [Op.equalIn,hu,hne]
      |true =>
       rw [hq] at h;simp only at h
       have he:=Nat.eq_of_beq_eq_true hq
       clear hq
       subst he
       obtain⟨q,hq,h3⟩:=oB_some.1 h
       clear h
       cases hc:q.inf.comparable with
       |true =>
        rw [hc] at h3
        have:=ih _ _ _ _ _ _ h3 h1 h2 D hD'
        simp [Op.equalIn,hu,run_inf ok hq,hc,this]
       |false=>rw [hc] at h3;simp at h3
   ·simp at h
  |struct fs =>
   rw [hd] at h;simp only at h
   unfold eqSt at h
   split at h
   ·cases hx with
    |agg ha=>cases hy with
     |agg hb =>
      cases hh:j.held with
      |true=>rw [hh] at h;simp at h
      |false =>
       rw [hh] at h;simp only at h
       rw [hfl.2.2.2.2.2.1,hd] at h
       have hpf:tb.p.underlying t=some (.struct (tb.p.fieldsOf t)):=by simp [Program.fieldsOf,ok.und hj,hd]
       have hfs:tb.p.fieldsOf t=fs:=by simp [Program.fieldsOf,ok.und hj,hd]
       rw [run_equalIn_struct w D t _ _ hpf (by rw [← hfl.2.2.2.2.2.2.2];exact hh),hfs]
       exact run_eqFields ok ih hD' ha hb fs.toList r h
   ·simp at h
  |array len elem =>
   rw [hd] at h;simp only at h
   unfold eqAr at h
   split at h
   ·cases hx with
    |agg ha=>cases hy with
     |agg hb =>
      obtain⟨e,he,h1⟩:=oB_some.1 h
      have hpf:tb.p.underlying t=some (.array len elem):=by rw [ok.und hj,hd]
      rw [run_equalIn_array w D _ _ hpf (ok.info he),ok.cellsOf he,List.range_eq_range']
      exact run_eqElems ok ih hD' ha hb len 0 r h1
   ·simp at h
  |slice e=>rw [hd] at h hu;exact run_eqSlice (j:=j) hu hx hy h D
  |map k e=>rw [hd] at h hu;exact run_eqMap (j:=j) hu hx hy h D
  |func a b c=>rw [hd] at h hu;exact run_eqFunc (j:=j) hu hx hy h D
  |_=>rw [hd] at h;simp only [reduceCtorEq] at h
end
end Go.Ev

namespace Go.Ev
open Go.RowKit
def numText:Value→Value→Bool
 | .int _ _,.int _ _=>true
 | .float _ _,.float _ _=>true
 | .complex _ _ _,.complex _ _ _=>true
 | .string _,.string _=>true
 |_,_=>false
theorem binOp_eql' (t:TypeId) (a b:Value) (h:numText a b=false):binOp .eql t a b=(do pure (.bool (← Op.equal t a b))):=by
 cases a<;>cases b<;>first|rfl|(simp [numText] at h)
theorem binOp_neq' (t:TypeId) (a b:Value) (h:numText a b=false):binOp .neq t a b=(do pure (.bool (!(← Op.equal t a b)))):=by
 cases a<;>cases b<;>first|rfl|(simp [numText] at h)
theorem eqGuard_int (op:BinOp) (t:TypeId) (x y:Operand) (k:IntKind) (n:Int) (v:Value):eqGuard op t x y (.int k n) v=pure ():=by cases op<;>rfl
theorem eqGuard_string (op:BinOp) (t:TypeId) (x y:Operand) (s:ByteArray) (v:Value):eqGuard op t x y (.string s) v=pure ():=by cases op<;>rfl
section
variable {tb:Tabs} {N:Nat} {w0:World} {E:Env} {m:Mem} {w:World}
theorem run_guard (ok:TabsOk tb) {op:BinOp} {t:Nat} {x y:Operand} {a b a' b':Value} (ha:VR E a a') (hb:VR E b b') (h:guardOk tb t x y a b=true):(eqGuard op t x y a' b').run tb.p w=.ok () w:=by
 have hplain:∀ c d:Value,(¬ (c=.nilIface∧d=.nilIface))→(¬ ∃ p q,c=.agg p∧d=.agg q)→(eqGuard op t x y c d).run tb.p w=.ok () w:=by
  intro c d h1 h2
  have:eqGuard op t x y c d=pure ():=by
   unfold eqGuard
   cases op<;>first|rfl|skip
   all_goals
    rw [if_neg (by simp)]
    split
    ·exact absurd ⟨rfl,rfl⟩ h1
    ·exact absurd ⟨_,_,rfl,rfl⟩ h2
    ·rfl
  rw [this];rfl
 unfold guardOk at h
 split at h
 ·cases ha;cases hb
  have hc:(match x with | .const _=>true|_=>false)=true∨(match y with | .const _=>true|_=>false)=true:=by
   rw [Bool.or_eq_true] at h
   rcases h with h|h
   ·left;unfold isConst at h;split at h<;>simp_all
   ·right;unfold isConst at h;split at h<;>simp_all
  have:eqGuard op t x y .nilIface .nilIface=pure ():=by
   rcases hc with hc|hc
   ·cases x<;>first|(simp at hc;done)|skip
    cases op<;>rfl
   ·cases y<;>first|(simp at hc;done)|skip
    cases op<;>cases x<;>rfl
  rw [this];rfl
 ·cases ha with
  |agg ha=>cases hb with
   |agg hb =>
    split at h
    ·rename_i i hi
     have hg:=(mkTI_some (ok.types t i hi)).2.2.2.2.2.2.1
     have:tb.p.eqGuardType tb.p.depth t=false:=by rw [← hg];simpa using h
     unfold eqGuard
     cases op<;>first|rfl|skip
     all_goals simp [this]
    ·simp at h
 ·rename_i h1 h2
  refine hplain _ _ ?_ ?_
  ·rintro⟨e1,e2⟩
   subst e1;subst e2
   cases ha;cases hb
   exact h1 rfl rfl
  ·rintro⟨p,q,e1,e2⟩
   subst e1;subst e2
   cases ha;cases hb
   exact h2 _ _ rfl rfl
theorem strOp_self {op:BinOp} {a b:ByteArray} {v:Value} (h:strOp op a b=some v):VR E v v:=by
 cases op<;>simp only [strOp] at h
 all_goals first
  | (simp at h;done)
  | (simp only [Option.some.injEq] at h;subst h;constructor)
  |skip
 split at h
 ·simp only [Option.some.injEq] at h;subst h;exact .string _
 ·simp at h
theorem intOp_self {op:BinOp} {k:IntKind} {a b:Int} {v:Value} (h:intOp op k a b=some v):VR E v v:=by
 cases op<;>simp only [intOp] at h
 all_goals first
  | (simp only [Option.some.injEq,vInt_eq] at h;subst h;constructor)
  | (obtain⟨n,_,rfl⟩:=oI_some h;constructor)
  |skip
 obtain⟨r,_,h⟩:=oB_some.1 h
 simp only [Option.some.injEq,vInt_eq] at h;subst h;constructor
theorem shiftOp_self {op:BinOp} {k:IntKind} {a b:Int} {v:Value} (h:shiftOp op k a b=some v):VR E v v:=by
 unfold shiftOp at h
 split at h
 ·simp at h
 ·split at h<;>first
   | (simp only [Option.some.injEq,vInt_eq] at h;subst h;constructor)
   | (simp at h)
theorem run_eqOp (ok:TabsOk tb) (H:MR tb.p N w0 E m w) {t:Nat} {x y:Operand} {a b a' b':Value} {r:Bool} (ha:VR E a a') (hb:VR E b b') (h:eqOp tb m t x y a b=some r) :
  guardOk tb t x y a b=true∧(Op.equal t a' b').run tb.p w=.ok r w:=by
 unfold eqOp at h
 split at h
 ·rename_i hg
  exact⟨hg,run_eqA ok H 64 _ _ _ _ _ _ h ha hb _ (by decide)⟩
 ·simp at h
theorem run_binA (ok:TabsOk tb) (H:MR tb.p N w0 E m w) {op:BinOp} {t:Nat} {x y:Operand} {a b a' b' v:Value} (ha:VR E a a') (hb:VR E b b') (h:binA tb m op t x y a b=some v) :
  (do eqGuard op t x y a' b';binOp op t a' b':Sem Value).run tb.p w=.ok v w∧VR E v v:=by
 unfold binA at h
 split at h
 ·rename_i k n k' n'
  cases ha;cases hb
  rw [eqGuard_int]
  simp only [Sem.run_bind,Sem.run_pure,Result.andThen_ok]
  split at h
  ·exact⟨run_shiftOp t (.inl rfl) h,shiftOp_self h⟩
  ·exact⟨run_shiftOp t (.inr rfl) h,shiftOp_self h⟩
  ·rename_i h1 h2
   split at h
   ·rename_i hk
    have:=kEq_true hk
    subst this
    exact⟨run_intOp t h1 h2 h,intOp_self h⟩
   ·simp at h
 ·cases ha;cases hb
  rw [eqGuard_string]
  simp only [Sem.run_bind,Sem.run_pure,Result.andThen_ok]
  exact⟨run_strOp t h,strOp_self h⟩
 ·rename_i h1 h2
  have hn:numText a' b'=false:=by
   cases ha<;>cases hb<;>first|rfl|exact absurd rfl (h2 _ _ rfl)|exact (h1 _ _ _ _ rfl rfl).elim|exact (h2 _ _ rfl rfl).elim
  split at h
  ·obtain⟨r,hr,h⟩:=oB_some.1 h
   simp only [Option.some.injEq] at h;subst h
   obtain⟨hg,he⟩:=run_eqOp ok H ha hb hr
   refine⟨?_,.bool _⟩
   simp only [Sem.run_bind,run_guard ok ha hb hg,Result.andThen_ok,binOp_eql' t _ _ hn,he,Sem.run_pure]
  ·obtain⟨r,hr,h⟩:=oB_some.1 h
   simp only [Option.some.injEq] at h;subst h
   obtain⟨hg,he⟩:=run_eqOp ok H ha hb hr
   refine⟨?_,.bool _⟩
   simp only [Sem.run_bind,run_guard ok ha hb hg,Result.andThen_ok,binOp_neq' t _ _ hn,he,Sem.run_pure]
  ·simp at h
theorem run_lenA (ok:TabsOk tb) (H:MR tb.p N w0 E m w) {t:Nat} {ty:TypeId} {tys:List TypeId} {x x' v:Value} (hx:VR E x x') (h:lenA tb t m x=some v) :
  (Builtin.len_ ⟨t::tys⟩ ty ⟨[x']⟩).run tb.p w=.ok v w∧VR E v v:=by
 unfold lenA at h
 cases hx with
 |slNil l c =>
  obtain⟨j,hj,h⟩:=oB_some.1 h
  split at h<;>first|(simp at h;done)|skip
  rename_i e hd
  simp only [Option.some.injEq,vInt_eq] at h;subst h
  exact⟨by simp [Builtin.len_,run_ty ok hj,hd,goInt],.int _ _⟩
 |sl l c hE =>
  obtain⟨j,hj,h⟩:=oB_some.1 h
  split at h<;>first|(simp at h;done)|skip
  rename_i e hd
  simp only [Option.some.injEq,vInt_eq] at h;subst h
  exact⟨by simp [Builtin.len_,run_ty ok hj,hd,goInt],.int _ _⟩
 |slX l c hE =>
  obtain⟨j,hj,h⟩:=oB_some.1 h
  split at h<;>first|(simp at h;done)|skip
  rename_i e hd
  simp only [Option.some.injEq,vInt_eq] at h;subst h
  exact⟨by simp [Builtin.len_,run_ty ok hj,hd,goInt],.int _ _⟩
 |slD a b =>
  obtain⟨j,hj,h⟩:=oB_some.1 h
  split at h<;>first|(simp at h;done)|skip
  rename_i e hd
  simp only [Option.some.injEq,vInt_eq] at h;subst h
  exact⟨by simp [Builtin.len_,run_ty ok hj,hd,goInt],.int _ _⟩
 |slE0 hE hx =>
  obtain⟨j,hj,h⟩:=oB_some.1 h
  split at h<;>first|(simp at h;done)|skip
  rename_i e hd
  simp only [Option.some.injEq,vInt_eq] at h;subst h
  exact⟨by simp [Builtin.len_,run_ty ok hj,hd,goInt],.int _ _⟩
 |slE1 hE hx =>
  obtain⟨j,hj,h⟩:=oB_some.1 h
  split at h<;>first|(simp at h;done)|skip
  rename_i e hd
  simp only [Option.some.injEq,vInt_eq] at h;subst h
  exact⟨by simp [Builtin.len_,run_ty ok hj,hd,goInt],.int _ _⟩
 |string s =>
  obtain⟨j,hj,h⟩:=oB_some.1 h
  split at h<;>first|(simp at h;done)|skip
  rename_i hd
  simp only [Option.some.injEq,vInt_eq] at h;subst h
  exact⟨by simp [Builtin.len_,run_ty ok hj,hd,goInt],.int _ _⟩
 |mapNil =>
  obtain⟨j,hj,h⟩:=oB_some.1 h
  split at h<;>first|(simp at h;done)|skip
  rename_i k e hd
  simp only [Option.some.injEq] at h;subst h
  exact⟨by simp [Builtin.len_,run_ty ok hj,hd,goInt],.int _ _⟩
 |map hE =>
  obtain⟨j,hj,h⟩:=oB_some.1 h
  split at h<;>first|(simp at h;done)|skip
  rename_i k e hd
  split at h<;>first|(simp at h;done)|skip
  rename_i es c hg
  simp only [Option.some.injEq,vInt_eq] at h;subst h
  obtain⟨ob,h1,h2⟩:=H.objs _ _ _ hE hg rfl
  cases h2 with
  |map h2 =>
   refine⟨?_,.int _ _⟩
   simp [Builtin.len_,run_ty ok hj,hd,goInt,getObj,Sem.run,h1,h2.length]
 |agg ha =>
  obtain⟨j,hj,h⟩:=oB_some.1 h
  split at h<;>first|(simp at h;done)|skip
  rename_i n e hd
  simp only [Option.some.injEq] at h;subst h
  exact⟨by simp [Builtin.len_,run_ty ok hj,hd,goInt],.int _ _⟩
 |ptrNil =>
  obtain⟨j,hj,h⟩:=oB_some.1 h
  split at h<;>first|(simp at h;done)|skip
  rename_i arr hd
  obtain⟨q,hq,h⟩:=oB_some.1 h
  split at h<;>first|(simp at h;done)|skip
  rename_i n e hd2
  simp only [Option.some.injEq] at h;subst h
  exact⟨by simp [Builtin.len_,run_ty ok hj,hd,run_ty ok hq,hd2,goInt],.int _ _⟩
 |ptr hE =>
  obtain⟨j,hj,h⟩:=oB_some.1 h
  split at h<;>first|(simp at h;done)|skip
  rename_i arr hd
  obtain⟨q,hq,h⟩:=oB_some.1 h
  split at h<;>first|(simp at h;done)|skip
  rename_i n e hd2
  simp only [Option.some.injEq] at h;subst h
  exact⟨by simp [Builtin.len_,run_ty ok hj,hd,run_ty ok hq,hd2,goInt],.int _ _⟩
 |_=>simp at h
theorem run_capA (ok:TabsOk tb) (H:MR tb.p N w0 E m w) {t:Nat} {ty:TypeId} {tys:List TypeId} {x x' v:Value} (hx:VR E x x') (h:capA tb t m x=some v) :
  (Builtin.cap_ ⟨t::tys⟩ ty ⟨[x']⟩).run tb.p w=.ok v w∧VR E v v:=by
 unfold capA at h
 cases hx with
 |slNil l c =>
  obtain⟨j,hj,h⟩:=oB_some.1 h
  split at h<;>first|(simp at h;done)|skip
  rename_i e hd
  simp only [Option.some.injEq,vInt_eq] at h;subst h
  exact⟨by simp [Builtin.cap_,run_ty ok hj,hd,goInt],.int _ _⟩
 |sl l c hE =>
  obtain⟨j,hj,h1⟩:=oB_some.1 h
  split at h1<;>first|(simp at h1;done)|skip
  rename_i e hd
  simp only at h1
  obtain⟨r,hr,h2⟩:=oB_some.1 h1
  split at h2<;>first|(simp at h2;done)|skip
  rename_i hx
  obtain⟨cells,el,fr,hc1,hc2⟩:=H.row hE hr
  have hx0:=(hc2.exact' hx).2
  simp only [Option.some.injEq,vInt_eq] at h2;subst h2
  exact⟨by simp [Builtin.cap_,run_ty ok hj,hd,goInt,hx0],.int _ _⟩
 |slX l c hE =>
  obtain⟨j,hj,h⟩:=oB_some.1 h
  split at h<;>first|(simp at h;done)|skip
  rename_i e hd
  simp only [Option.some.injEq,vInt_eq] at h;subst h
  exact⟨by simp [Builtin.cap_,run_ty ok hj,hd,goInt],.int _ _⟩
 |slD a b =>
  obtain⟨j,hj,h1⟩:=oB_some.1 h
  split at h1<;>first|(simp at h1;done)|skip
  rename_i e hd
  have hv:v=.int .i64 0:=by
   split at h1
   ·simp only [Option.some.injEq,vInt_eq] at h1;exact h1.symm
   ·cases h1
   ·obtain⟨r,hr,h2⟩:=oB_some.1 h1
    split at h2
    ·cases h2
    ·simp only [Option.some.injEq,vInt_eq] at h2;exact h2.symm
  subst hv
  exact⟨by simp [Builtin.cap_,run_ty ok hj,hd,goInt],.int _ _⟩
 |slE0 hE hx =>
  obtain⟨j,hj,h⟩:=oB_some.1 h
  split at h<;>simp at h
 |slE1 hE hx =>
  obtain⟨j,hj,h⟩:=oB_some.1 h
  split at h<;>simp at h
 |_=>simp at h
theorem run_maxI {P:Program} {k:IntKind}:∀ {x:Int} {l l':List Value} {v:Value},VRs E l l'→maxI k x l=some v→(l'.foldlM Builtin.max2 (.int k x):Sem Value).run P w=.ok v w∧VR E v v:=by
 intro x l
 induction l generalizing x with
 |nil=>intro l' v hl h;cases hl;simp only [maxI,Option.some.injEq] at h;subst h;exact⟨rfl,.int _ _⟩
 |cons y l ih =>
  intro l' v hl h
  cases hl with
  |cons hy hl =>
   cases hy<;>first|(simp [maxI] at h;done)|skip
   rename_i k' n
   simp only [maxI,intLt_eq] at h
   simp only [List.foldlM_cons,Builtin.max2,Sem.run_bind,Sem.run_pure,Result.andThen_ok]
   by_cases hlt:x<n
   ·simp only [hlt,decide_true] at h
    have:n>x:=hlt
    rw [if_pos this];exact ih hl h
   ·simp only [hlt,decide_false] at h
    have:¬ n>x:=hlt
    rw [if_neg this];exact ih hl h
theorem run_minI {P:Program} {k:IntKind}:∀ {x:Int} {l l':List Value} {v:Value},VRs E l l'→minI k x l=some v→(l'.foldlM Builtin.min2 (.int k x):Sem Value).run P w=.ok v w∧VR E v v:=by
 intro x l
 induction l generalizing x with
 |nil=>intro l' v hl h;cases hl;simp only [minI,Option.some.injEq] at h;subst h;exact⟨rfl,.int _ _⟩
 |cons y l ih =>
  intro l' v hl h
  cases hl with
  |cons hy hl =>
   cases hy<;>first|(simp [minI] at h;done)|skip
   rename_i k' n
   simp only [minI,intLt_eq] at h
   simp only [List.foldlM_cons,Builtin.min2,Sem.run_bind,Sem.run_pure,Result.andThen_ok]
   by_cases hlt:n<x
   ·simp only [hlt,decide_true] at h
    rw [if_pos hlt];exact ih hl h
   ·simp only [hlt,decide_false] at h
    rw [if_neg hlt];exact ih hl h
end
end Go.Ev

namespace Go.Ev
open Go.RowKit
section
variable {tb:Tabs} {N:Nat} {w0:World} {E:Env} {m:Mem} {w:World}
theorem run_typeAssertA (ok:TabsOk tb) {x x' v:Value} {xt a:TypeId} {cok:Bool} (hx:VR E x x') (h:typeAssertA tb x a cok=some v) :
  ∃ v',(Instr.typeAssert x' xt a cok).run tb.p w=.ok v' w∧VR E v v':=by
 unfold typeAssertA at h
 obtain⟨i,hi,h1⟩:=oB_some.1 h
 clear h
 have hu:(underlying a).run tb.p w=.ok i.d w:=run_ty ok hi
 have hni:(∀ ms,i.d≠.interface ms)∧taV i a cok x=some v:=by
  cases hd:i.d<;>rw [hd] at h1<;>first|(simp at h1;done)|exact⟨fun ms e=>(by cases e),h1⟩
 obtain⟨hni,h2⟩:=hni
 have hz:∀ z,taFail i cok=some z→∃ z0,cok=true∧z=.tuple #[z0,.bool false]∧(zeroValue a).run tb.p w=.ok z0 w∧VR E z0 z0:=by
  intro z hz
  unfold taFail at hz
  cases cok with
  |false=>simp at hz
  |true =>
   obtain⟨z0,hz0,hz1⟩:=oB_some.1 hz
   obtain⟨hz2,hz3⟩:=zeroV_some ok hi hz0 E
   exact⟨z0,rfl,(Option.some.inj hz1).symm,run_zero ok hi hz2,hz3⟩
 unfold Instr.typeAssert
 cases hx with
 |nilIface =>
  obtain⟨z0,rfl,rfl,h3,h4⟩:=hz _ h2
  refine⟨.tuple #[z0,.bool false],?_,.tuple (.cons h4 (.cons (.bool _) .nil))⟩
  cases hd:i.d<;>first|exact absurd hd (hni _)|(rw [hd] at hu;simp [hu,h3])
 |iface t hv =>
  rename_i u u'
  simp only [taV] at h2
  cases hq:Nat.beq t a with
  |true =>
   rw [hq] at h2
   have:=Nat.eq_of_beq_eq_true hq
   subst this
   simp only [Option.some.injEq] at h2;subst h2
   cases cok with
   |true =>
    refine⟨.tuple #[u',.bool true],?_,.tuple (.cons hv (.cons (.bool _) .nil))⟩
    cases hd:i.d<;>first|exact absurd hd (hni _)|(rw [hd] at hu;simp [hu])
   |false =>
    refine⟨u',?_,hv⟩
    cases hd:i.d<;>first|exact absurd hd (hni _)|(rw [hd] at hu;simp [hu])
  |false =>
   rw [hq] at h2
   have hne:=Nat.ne_of_beq_eq_false hq
   obtain⟨z0,rfl,rfl,h3,h4⟩:=hz _ h2
   refine⟨.tuple #[z0,.bool false],?_,.tuple (.cons h4 (.cons (.bool _) .nil))⟩
   cases hd:i.d<;>first|exact absurd hd (hni _)|(rw [hd] at hu;simp [hu,hne,h3])
 |_=>simp [taV] at h2
theorem forIn_unit2 {α : Type} {P:Program} {w:World}:∀ (l:List α) (f : α → PUnit→Sem (ForInStep PUnit)),(∀ x∈l,(f x PUnit.unit).run P w=.ok (.yield PUnit.unit) w)→(forIn l PUnit.unit f:Sem PUnit).run P w=.ok PUnit.unit w
 | [],_,_=>rfl
 |x::l,f,h=>by
  rw [List.forIn_cons]
  simp only [Sem.run_bind,h x (by simp),Result.andThen_ok]
  exact forIn_unit2 l f fun y hy=>h y (by simp [hy])
def basicD:TypeDesc→Bool
 | .int _=>true
 | .string=>true
 |_=>false
theorem run_checkKey_basic (ok:TabsOk tb) {t:Nat} {i:TI} (hi:ti tb t=some i) (hb:basicD i.d=true) (em:Bool) (n:Nat) (v:Value):(Instr.checkKey em (n+1) t v).run tb.p w=.ok () w:=by
 have hu:(underlying t).run tb.p w=.ok i.d w:=run_ty ok hi
 simp only [Instr.checkKey,Sem.run_bind,hu,Result.andThen_ok]
 cases hd:i.d<;>rw [hd] at hb<;>first|(simp [basicD] at hb;done)|rfl
theorem run_checkKey (ok:TabsOk tb) {kt:Nat} {k k':Value} (hk:VR E k k') (h:keyOk tb kt k=true) (em:Bool) (n:Nat):(Instr.checkKey em (n+2) kt k').run tb.p w=.ok () w:=by
 unfold keyOk at h
 split at h
 ·rename_i i q n' hi
  refine run_checkKey_basic ok hi ?_ em (n+1) _
  split at h<;>first|(rename_i hd;rw [hd];rfl)|(simp at h)
 ·rename_i i s hi
  refine run_checkKey_basic ok hi ?_ em (n+1) _
  split at h<;>first|(rename_i hd;rw [hd];rfl)|(simp at h)
 ·rename_i i cs hi
  split at h
  ·rename_i fs hd
   cases hk with
   |agg hcs =>
   rw [Bool.and_eq_true] at h
   obtain⟨h1,h2⟩:=h
   have hfl:=(mkTI_some (ok.types kt i hi)).2.2.2.2.2.1
   rw [hfl,hd] at h2
   have hu:(underlying kt).run tb.p w=.ok (.struct fs) w:=by rw [← hd];exact run_ty ok hi
   obtain⟨K,hK⟩:∃ K,K=n+1:=⟨_,rfl⟩
   show (Instr.checkKey em ((n+1)+1) kt _).run tb.p w=_
   rw [← hK]
   simp only [Instr.checkKey,Sem.run_bind,hu,Result.andThen_ok]
   rw [← Array.forIn_toList]
   have key:∀ f∈fs.toList,(do if f.name ≠ "_" then Instr.checkKey em K f.type (← part f.type ⟨‹List Value›⟩ f.offset):Sem Unit).run tb.p w=.ok () w:=by
    intro f hf
    rw [List.all_map,List.all_eq_true] at h2
    have h3:=h2 f hf
    simp only [Function.comp,Bool.and_eq_true] at h3
    obtain⟨⟨h4,h5⟩,h6⟩:=h3
    by_cases hn:f.name = "_"
    ·simp [hn]
    ·simp only [hn,ne_eq,not_false_eq_true,if_true,Sem.run_bind]
     split at h6
     ·rename_i j _ _ hj hc
      obtain⟨v',hv1,hv2⟩:=hcs.get _ _ hc
      have hbas:basicD j.d=true:=by split at h6<;>first|(rename_i hd';rw [hd'];rfl)|(simp at h6)
      have hag:j.agg=false:=by
       rw [ok.agg hj];unfold basicD at hbas;unfold isAggD;split at hbas<;>simp_all
      have hp:(part f.type ⟨‹List Value›⟩ f.offset).run tb.p w=.ok v' w:=by
       unfold part
       simp only [Sem.run_bind,run_isAgg ok hj,Result.andThen_ok,hag,Bool.false_eq_true,if_false]
       have:(⟨‹List Value›⟩:Array Value)[f.offset]? = some v':=by simpa using hv1
       simp [this]
      simp only [hp,Result.andThen_ok]
      rw [hK];exact run_checkKey_basic ok hj hbas em n _
     ·rename_i j _ hj hc
      obtain⟨v',hv1,hv2⟩:=hcs.get _ _ hc
      have hbas:basicD j.d=true:=by split at h6<;>first|(rename_i hd';rw [hd'];rfl)|(simp at h6)
      have hag:j.agg=false:=by
       rw [ok.agg hj];unfold basicD at hbas;unfold isAggD;split at hbas<;>simp_all
      have hp:(part f.type ⟨‹List Value›⟩ f.offset).run tb.p w=.ok v' w:=by
       unfold part
       simp only [Sem.run_bind,run_isAgg ok hj,Result.andThen_ok,hag,Bool.false_eq_true,if_false]
       have:(⟨‹List Value›⟩:Array Value)[f.offset]? = some v':=by simpa using hv1
       simp [this]
      simp only [hp,Result.andThen_ok]
      rw [hK];exact run_checkKey_basic ok hj hbas em n _
     ·simp at h6
   rw [forIn_unit2 fs.toList _ fun f hf=>?_]
   ·rfl
   ·have:=key f hf
    by_cases hn:f.name = "_"
    ·simp [hn]
    ·simp only [ne_eq,hn,not_false_eq_true,if_true,Sem.run_bind,Sem.run_pure] at this ⊢
     generalize (part f.type _ f.offset).run tb.p w=r1 at this ⊢
     cases r1 with
     |ok a w1 =>
      simp only [Result.andThen_ok] at this ⊢
      rw [this];rfl
     |halt x w1=>simp at this
  ·simp at h
 ·simp at h
end
end Go.Ev

