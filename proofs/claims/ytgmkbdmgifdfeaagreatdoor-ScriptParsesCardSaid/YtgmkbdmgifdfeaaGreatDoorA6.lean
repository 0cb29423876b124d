/- A part of a proof: ScriptParses. -/
import Derived.Laws.IdiomCopy
import Derived.Test.YtgmkbdmgifdfeaaGreatDoorA5
set_option linter.unusedVariables false
set_option linter.unusedSimpArgs false
namespace Go.Ev
open Go.RowKit
structure OneR (w w':World) (g:Nat) (o:Obj):Prop where
 at_:w'.heap[g]? = some o
 other:∀ k,k≠g→w'.heap[k]? = w.heap[k]?
 size:w'.heap.size=w.heap.size
 os:w'.os=w.os
 tape:w'.tape=w.tape
 output:w'.output=w.output
theorem OneR.trans {a b c:World} {g:Nat} {o q:Obj} (h:OneR a b g o) (k:OneR b c g q):OneR a c g q :=
 ⟨k.at_,fun x hx=>(k.other x hx).trans (h.other x hx),k.size.trans h.size,k.os.trans h.os,k.tape.trans h.tape,k.output.trans h.output⟩
theorem run_storeList {P:Program}:∀ (l:List Value) (g o i:Nat) (w:World) (cells:Array Value) (el:TypeId) (fr:Nat × Nat),w.heap[g]? = some (.cells cells el fr)→o+i+l.length≤cells.size→(∀ v∈l,v.oneCell'=true) →
  (∀ j,j<l.length→¬ (fr.1≤o+i+j∧o+i+j<fr.2)) →
  ∃ cells' w',(storeCells ⟨g,o,none⟩ l i).run P w=.ok () w'∧OneR w w' g (.cells cells' el fr)∧cells'.size=cells.size∧∀ k,cells'[k]? = if o+i≤k∧k<o+i+l.length then l[k-(o+i)]? else cells[k]?
 | [],g,o,i,w,cells,el,fr,hg,_,_,_=>by
   refine⟨cells,w,rfl,⟨hg,fun _ _=>rfl,rfl,rfl,rfl,rfl⟩,rfl,fun k=>?_⟩
   rw [if_neg (by simp)]
 |v::l,g,o,i,w,cells,el,fr,hg,hlen,h1,hf=>by
  simp only [List.length_cons] at hlen
  have hlt:o+i<cells.size:=by omega
  have hcell:w.cell? ⟨g,o+i,none⟩=some cells[o+i]:=by simp [World.cell?,hg,hlt]
  have hz:w.frozen? ⟨g,o+i,none⟩=false:=by
   have:=hf 0 (by simp)
   obtain⟨lo,hi⟩:=fr
   simp only [World.frozen?,hg]
   simp only [Nat.add_zero] at this
   simpa using this
  have hst:(store ((⟨g,o,none⟩:Addr).add i) v).run P w=.ok () (w.setCell ⟨g,o+i,none⟩ v):=by
   rw [add_none,run_store P w _ v _ (h1 v (by simp)),hcell]
   rw [hz];rfl
  have hone:OneR w (w.setCell ⟨g,o+i,none⟩ v) g (.cells (cells.setIfInBounds (o+i) v) el fr):=by
   refine⟨?_,?_,by simp [World.setCell],rfl,rfl,rfl⟩
   ·simp [World.setCell,Array.getElem?_modify,hg]
   ·intro k hk
    simp only [World.setCell,Array.getElem?_modify]
    rw [if_neg (fun e=>hk e.symm)]
  obtain⟨cells',w',g1,g2,g3,g4⟩:=run_storeList (P:=P) l g o (i+1) (w.setCell ⟨g,o+i,none⟩ v) (cells.setIfInBounds (o+i) v) el fr hone.at_ (by simp;omega) (fun x hx=>h1 x (by simp [hx])) (fun j hj=>by
   have:=hf (j+1) (by simp;omega)
   rwa [show o+i+(j+1)=o+(i+1)+j from by omega] at this)
  refine⟨cells',w',?_,hone.trans g2,by rw [g3];simp,fun k=>?_⟩
  ·simp only [storeCells,Sem.run_bind,hst,Result.andThen_ok,g1]
  ·rw [g4 k]
   simp only [List.length_cons]
   by_cases e:k=o+i
   ·subst e
    rw [if_neg (by omega),if_pos (by omega)]
    rw [Array.getElem?_setIfInBounds,if_pos rfl,if_pos hlt]
    simp
   ·by_cases hin:o+(i+1)≤k∧k<o+(i+1)+l.length
    ·rw [if_pos hin,if_pos (by omega)]
     rw [show k-(o+i)=(k-(o+(i+1)))+1 from by omega,List.getElem?_cons_succ]
    ·rw [if_neg hin,if_neg (by omega)]
     rw [Array.getElem?_setIfInBounds,if_neg (fun h=>e h.symm)]
theorem oneC_rel {E:Env} {v v':Value} (h:VR E v v') (ho:oneC v=true):v'.oneCell'=true:=by
 cases h<;>first|rfl|(simp [oneC] at ho)
theorem VRs.all_one {E:Env}:∀ {l l':List Value},VRs E l l'→l.all oneC=true→∀ v∈l',v.oneCell'=true
 |_,_,.nil,_=>by simp
 |_,_,.cons h t,ho=>by
  rw [List.all_cons,Bool.and_eq_true] at ho
  intro v hv
  rcases List.mem_cons.1 hv with rfl|hv
  ·exact oneC_rel h ho.1
  ·exact VRs.all_one t ho.2 v hv
theorem cellAt_of {r:Row} {j:Nat} (hj:j<r.n):cellAt r j=match r.ov.get j with|some v=>some v|none=>r.z[j%r.z.length]? := by
 obtain⟨ov,n,z,e,f,x⟩:=r
 have hj:j<n:=hj
 simp only [cellAt]
 rw [show Nat.blt j n=true from by simpa [Nat.blt_eq] using hj]
 rfl
section
variable {tb:Tabs} {N:Nat} {w0:World} {E:Env} {m:Mem} {w:World}
theorem setCells_some {r r1:Row} {o:Nat} {l:List Value} (h:setCells r o l=some r1):r1=⟨T.setL l o r.ov,r.n,r.z,r.elem,r.fz,r.ext⟩∧o+l.length≤r.n∧l.all oneC=true∧fzOk r.fz o l.length=true:=by
 obtain⟨ov,n,z,elem,fz,ext⟩:=r
 simp only [setCells] at h
 split at h<;>first|(simp at h;done)|skip
 rename_i hb
 rw [Bool.and_eq_true] at hb
 split at h<;>first|(simp at h;done)|skip
 rename_i hf
 simp only [Option.some.injEq] at h
 exact⟨h.symm,Nat.le_of_ble_eq_true hb.1,hb.2,hf⟩
theorem run_storeCellsA (H:MR tb.p N w0 E m w) {b o:Nat} {i:Info} (hE:E b=some i) {l l':List Value} (hl:VRs E l l') {m':Mem} (h:storeCellsA m b o l=some m') :
  ∃ w',(storeCells ⟨i.blk,i.shift+o,none⟩ l').run tb.p w=.ok () w'∧MR tb.p N w0 E m' w'∧MExt m.next E m E m':=by
 unfold storeCellsA at h
 obtain⟨r,hr,h1⟩:=oB_some.1 h
 obtain⟨r1,hr1,h2⟩:=oB_some.1 h1
 simp only [Option.some.injEq] at h2;subst h2
 obtain⟨rfl,hle,hone,hfz⟩:=setCells_some hr1
 obtain⟨cells,el,fr,g1,g2⟩:=H.row hE (rowOf_of_rowW hr)
 have hlen:=hl.length
 obtain⟨cells',w',q1,q2,q3,q4⟩:=run_storeList (P:=tb.p) l' i.blk (i.shift+o) 0 w cells el fr g1 (by rw [g2.size,← hlen];omega) (hl.all_one hone) (by
  intro j hj
  have hf:=g2.fz
  rw [← hlen] at hj
  unfold fzOk at hfz
  cases hz:r.fz with
  |none=>rw [hz] at hf;have hf:fr.1=fr.2:=hf;omega
  |str =>
   rw [hz] at hf;have hf:fr.1=fr.2∨cells.size≤fr.1:=hf
   have:=g2.size
   omega
  |rng lo hi =>
   rw [hz] at hf hfz
   have hf:fr=(i.shift+lo,i.shift+hi):=hf
   subst hf
   simp only [Bool.or_eq_true] at hfz
   rcases hfz with hfz|hfz
   ·have:=Nat.le_of_ble_eq_true hfz;simp only;omega
   ·have:=Nat.le_of_ble_eq_true hfz;simp only;omega)
 refine⟨w',q1,?_,MExt.put _ hE⟩
 refine H.put hE (rowW_some hr) rfl (.inl rfl) q2.size q2.other q2.os q2.tape q2.output fun _=>⟨_,q2.at_,.row ⟨g2.elem,?_,by rw [q3];exact g2.size,g2.exact',by rw [q3];exact g2.fz⟩⟩
 intro j v hv
 have hj:=cellAt_lt hv
 simp only at hj
 rw [q4]
 rw [cellAt_of (r:=⟨T.setL l o r.ov,r.n,r.z,r.elem,r.fz,r.ext⟩) hj] at hv
 simp only [T.get_setL] at hv
 by_cases ha:j<o
 ·rw [if_pos ha] at hv
  rw [if_neg (by omega)]
  exact g2.cell j v (by rw [cellAt_of hj];exact hv)
 ·rw [if_neg ha] at hv
  by_cases hb:j<o+l.length
  ·rw [if_pos hb,List.getElem?_eq_getElem (by omega)] at hv
   simp only [Option.some.injEq] at hv
   obtain⟨v',h3,h4⟩:=hl.get (j-o) v (by rw [List.getElem?_eq_getElem (by omega)];simp [hv])
   rw [if_pos (by omega)]
   exact⟨v',by rw [show i.shift+j-(i.shift+o+0)=j-o from by omega];exact h3,h4⟩
  ·rw [if_neg hb] at hv
   rw [if_neg (by omega)]
   exact g2.cell j v (by rw [cellAt_of hj];exact hv)
def WuOk (tb:Tabs) (N:Nat) (w0:World) (E:Env) (m:Mem) (w:World) (m':Mem) (s:Sem Unit):Prop :=
 ∃ w' E',s.run tb.p w=.ok () w'∧MR tb.p N w0 E' m' w'∧MExt m.next E m E' m'
theorem run_storeA (ok:TabsOk tb) (H:MR tb.p N w0 E m w) {t b o:Nat} {i:Info} (hE:E b=some i) {v v':Value} (hv:VR E v v') {m':Mem} (h:storeA tb t m b o v=some m'):WuOk tb N w0 E m w m' (storeVar t ⟨i.blk,i.shift+o,none⟩ v'):=by
 unfold storeA at h
 obtain⟨j,hj,h1⟩:=oB_some.1 h
 split at h1<;>first|(simp at h1;done)|skip
 rename_i hb
 have hb:=Nat.eq_of_beq_eq_true hb
 obtain⟨w',q1,q2,q3⟩:=run_storeCellsA H hE hv.cells h1
 refine⟨w',E,?_,q2,q3⟩
 have hlen:v'.cells.size=j.inf.size:=by rw [← hb,hv.cells.length];simp
 simp [storeVar,run_size ok hj,hlen,q1]
def OpResU (tb:Tabs) (N:Nat) (w0:World) (E:Env) (m:Mem) (w:World) (r:OR) (s:Sem Unit):Prop :=
 match r with
 | .r _=>False
 | .f _ _=>False
 | .e v m'=>v=undef∧WuOk tb N w0 E m w m' s
 | .c=>True
 | .bad=>True
theorem OpResU.of {x:Option Mem} {s:Sem Unit} (h:∀ m',x=some m'→WuOk tb N w0 E m w m' s):OpResU tb N w0 E m w (oM x) s:=by
 cases x with
 |none=>exact trivial
 |some m'=>exact⟨rfl,h m' rfl⟩
theorem run_opStore (ok:TabsOk tb) (H:MR tb.p N w0 E m w) {t:TypeId} {a a' v v':Value} (ha:VR E a a') (hv:VR E v v'):OpResU tb N w0 E m w (opStore tb t m a v) (Instr.storeAt t a' v'):=by
 unfold opStore
 cases ha with
 | @ptr b o i hE =>
   refine OpResU.of fun m' h=>?_
   obtain⟨w',E',q1,q2,q3⟩:=run_storeA ok H hE hv h
   exact⟨w',E',by simpa [Instr.storeAt,Instr.sureAddr] using q1,q2,q3⟩
 |_=>exact trivial
theorem run_firstA (H:MR tb.p N w0 E m w) {sz n k:Nat} (hk:k=n*sz) {x x':Value} (hx:VR E x x') (hn:∀ a l c,x=.slice a l c→n≤l) {l:List Value} (h:firstA m k n x=some l):∃ l',VRs E l l'∧∀ w',w'.heap=w.heap→(Builtin.firstCells sz n x').run tb.p w'=.ok ⟨l'⟩ w':=by
 unfold firstA at h
 split at h
 ·rename_i a len c
  have hx':(∃ i o' c',E a.block=some i∧x'=.slice (some ⟨i.blk,o',none⟩) len c'∧(len≠0→o'=i.shift+a.off))∨(len=0∧∃ a',x'=.slice (some a') 0 0):=by
   cases hx with
   |sl l c h=>exact .inl ⟨_,_,_,‹E _=some _›,rfl,fun _=>rfl⟩
   |slX l c h=>exact .inl ⟨_,_,_,‹E _=some _›,rfl,fun _=>rfl⟩
   |slE0 h hx=>exact .inl ⟨_,_,_,‹E _=some _›,rfl,fun h=>absurd rfl h⟩
   |slE1 h hx=>exact .inl ⟨_,_,_,‹E _=some _›,rfl,fun h=>absurd rfl h⟩
   |slD a b=>exact .inr ⟨rfl,_,rfl⟩
  rcases hx' with ⟨i,o',c',hE,rfl,ho⟩|⟨rfl,a',rfl⟩
  case inr =>
   split at h
   ·rename_i hk
    simp only [Option.some.injEq] at h;subst h
    exact⟨[],.nil,fun w' _=>by simp [Builtin.firstCells,← hk,loadCells,loadCellsFrom]⟩
   ·exfalso
    rename_i k hk
    have:=hn _ _ _ rfl
    have:n=0:=by omega
    subst this;simp at hk
  split at h
  ·simp only [Option.some.injEq] at h;subst h
   exact⟨[],.nil,fun w' _=>by simp [Builtin.firstCells,← hk,loadCells,loadCellsFrom]⟩
  ·rename_i k
   obtain⟨r,hr,h1⟩:=oB_some.1 h
   have hl0:len≠0:=by
    have:=hn _ _ _ rfl
    intro e;subst e
    have:n=0:=by omega
    subst this;simp at hk
   obtain rfl:=ho hl0
   obtain⟨l',q1,q2,q3⟩:=H.cells hE hr h1
   refine⟨l',q1,fun w' hw'=>?_⟩
   simp only [Builtin.firstCells,← hk]
   have:=run_loadCells_list (P:=tb.p) (w:=w') ⟨i.blk,i.shift+a.off,none⟩ l' (fun j v hv=>by
    rw [add_none]
    have:=q3 j v hv
    unfold World.cell? at this ⊢
    rw [hw'];exact this)
   rw [q2] at this;exact this
 ·simp only [Option.some.injEq] at h;subst h
  cases hx
  exact⟨[],.nil,fun _ _=>rfl⟩
 ·rename_i s
  simp only [Option.some.injEq] at h;subst h
  cases hx
  refine⟨u8s (s.data.toList.take n),u8s_self _,fun w' _=>?_⟩
  simp only [Builtin.firstCells,Sem.run_pure]
  congr 1
  apply Array.ext'
  simp [u8s_eq]
 ·simp at h
end
end Go.Ev

namespace Go.Ev
open Go.RowKit
theorem VR.slice_inv {E:Env} {p:Option Addr} {l c:Nat} {x':Value} (h:VR E (.slice p l c) x') :
  (p=none∧x'=.slice none l c)∨(∃ a i o' c',p=some a∧E a.block=some i∧x'=.slice (some ⟨i.blk,o',none⟩) l c'∧(l≠0→o'=i.shift+a.off))∨(∃ a a',p=some a∧l=0∧x'=.slice (some a') 0 0):=by
 cases h with
 |slNil=>exact .inl ⟨rfl,rfl⟩
 |sl l c h=>exact .inr (.inl ⟨_,_,_,_,rfl,h,rfl,fun _=>rfl⟩)
 |slX l c h=>exact .inr (.inl ⟨_,_,_,_,rfl,h,rfl,fun _=>rfl⟩)
 |slE0 h hx=>exact .inr (.inl ⟨_,_,_,_,rfl,h,rfl,fun h=>absurd rfl h⟩)
 |slE1 h hx=>exact .inr (.inl ⟨_,_,_,_,rfl,h,rfl,fun h=>absurd rfl h⟩)
 |slD a b=>exact .inr (.inr ⟨_,_,rfl,rfl,rfl⟩)
theorem repl_get (z:List Value):∀ (n j:Nat),(repl z n)[j]? = if j<n*z.length then z[j%z.length]? else none
 |0,j=>by simp [repl]
 |n+1,j=>by
  have e:(n+1)*z.length=n*z.length+z.length:=by rw [Nat.add_mul,Nat.one_mul]
  rw [e]
  simp only [repl]
  by_cases h:j<z.length
  ·rw [List.getElem?_append_left h,if_pos (by omega),Nat.mod_eq_of_lt h]
  ·rw [List.getElem?_append_right (by omega),repl_get z n]
   by_cases h2:j<n*z.length+z.length
   ·rw [if_pos (by omega),if_pos h2,← Nat.mod_eq_sub_mod (by omega)]
   ·rw [if_neg (by omega),if_neg h2]
theorem repl_length (z:List Value):∀ n,(repl z n).length=n*z.length
 |0=>by simp [repl]
 |n+1=>by simp [repl,repl_length z n,Nat.add_mul];omega
theorem zeroCells_eq (z:Array Value) (n:Nat):(Builtin.zeroCells z n).toList=repl z.toList n:=by
 apply List.ext_getElem?
 intro j
 rw [repl_get]
 simp only [Builtin.zeroCells,Array.toList_map,Array.toList_range,List.getElem?_map,Array.length_toList]
 by_cases h:j<n*z.size
 ·rw [if_pos h,List.getElem?_range h]
  have hz:j%z.size<z.size:=Nat.mod_lt _ (by
   rcases Nat.eq_zero_or_pos z.size with h0|h0
   ·rw [h0] at h;omega
   ·exact h0)
  simp [hz]
 ·rw [if_neg h,List.getElem?_eq_none (by simp;omega)]
  rfl
section
variable {tb:Tabs} {N:Nat} {w0:World} {E:Env} {m:Mem} {w:World}
theorem run_lenOf {P:Program} {x x':Value} (hx:VR E x x') {n:Nat} (h:lenOfA x=some n):(Builtin.lenOf x').run P w=.ok n w∧∀ a l c,x=.slice a l c→n=l:=by
 unfold lenOfA at h
 split at h
 ·simp only [Option.some.injEq] at h;subst h
  rcases hx.slice_inv with ⟨_,rfl⟩|⟨a,i,o',c',_,_,rfl,_⟩|⟨a,a',_,rfl,rfl⟩
  ·exact⟨rfl,fun a l c e=>by cases e;rfl⟩
  ·exact⟨rfl,fun a l c e=>by cases e;rfl⟩
  ·exact⟨rfl,fun a l c e=>by cases e;rfl⟩
 ·simp only [Option.some.injEq] at h;subst h
  cases hx
  exact⟨rfl,fun a l c e=>by cases e⟩
 ·simp at h
theorem run_copyA (ok:TabsOk tb) (H:MR tb.p N w0 E m w) {tys:List TypeId} {d d' s s' v:Value} {m':Mem} (hd:VR E d d') (hs:VR E s s') (h:copyA tb tys m d s=some (v,m')) (ty:TypeId) :
  WrOk tb N w0 E m w v m' (Builtin.copy_ ⟨tys⟩ ty #[d',s']):=by
 unfold copyA at h
 split at h<;>first|(simp at h;done)|skip
 rename_i dt tys'
 obtain⟨i,hi,h1⟩:=oB_some.1 h
 split at h1<;>first|(simp at h1;done)|skip
 rename_i elem base dl dc hid
 obtain⟨e,he,h2⟩:=oB_some.1 h1
 obtain⟨sl,hsl,h3⟩:=oB_some.1 h2
 obtain⟨cells,hc,h4⟩:=oB_some.1 h3
 obtain⟨q1,q2⟩:=run_lenOf (P:=tb.p) (w:=w) hs hsl
 obtain⟨cells',r1,r2⟩:=run_firstA H (sz:=e.inf.size) (n:=Nat.min sl dl) rfl hs (fun a l c ex=>by have:=q2 a l c ex;have:=Nat.min_le_left sl dl;simp only [Nat.min_def] at this ⊢;split<;>omega) hc
 have r2:=r2 w rfl
 have hdef:∀ x y,Builtin.copy_ ⟨dt::tys'⟩ ty #[x,y]=(do
   let .slice elem ← underlying dt|stuck "copy: slice type expected"
   let .slice base dLen _:=x|stuck "copy: slice expected"
   let n:=Nat.min (← Builtin.lenOf y) dLen
   let cells ← Builtin.firstCells (← sizeOf elem) n y
   if let some a:=base then storeCells a cells.toList
   pure (goInt n)):=fun x y=>rfl
 have hv:∀ n:Nat,VR E (vInt .i64 (.ofNat n)) (goInt n):=fun n=>by rw [vInt_eq];exact .int _ _
 rcases hd.slice_inv with ⟨rfl,rfl⟩|⟨a,j,o',c',rfl,hE,rfl,ho⟩|⟨a,a',rfl,rfl,rfl⟩
 ·simp only [Option.some.injEq,Prod.mk.injEq] at h4
  obtain⟨rfl,rfl⟩:=h4
  refine⟨_,w,E,?_,hv _,H,.refl _ _ _⟩
  rw [hdef]
  simp [run_ty ok hi,hid,q1,run_size ok he,r2]
 ·cases cells with
  |nil =>
   cases r1
   simp only [Option.some.injEq,Prod.mk.injEq] at h4
   obtain⟨rfl,rfl⟩:=h4
   refine⟨_,w,E,?_,hv _,H,.refl _ _ _⟩
   rw [hdef]
   simp [run_ty ok hi,hid,q1,run_size ok he,r2,storeCells]
  |cons c1 cs =>
   obtain⟨m1,hm1,h5⟩:=oB_some.1 h4
   simp only [Option.some.injEq,Prod.mk.injEq] at h5
   obtain⟨rfl,rfl⟩:=h5
   have hl0:dl≠0:=by
    intro e0;subst e0
    simp only [Nat.min_def] at hc
    rw [show (if sl≤0 then sl else 0)=0 from by split<;>omega,Nat.zero_mul] at hc
    unfold firstA at hc
    split at hc<;>simp at hc
    simp [u8s] at hc
   obtain rfl:=ho hl0
   obtain⟨w',p1,p2,p3⟩:=run_storeCellsA H hE r1 hm1
   refine⟨_,w',E,?_,hv _,p2,p3⟩
   rw [hdef]
   simp [run_ty ok hi,hid,q1,run_size ok he,r2,p1]
 ·cases cells with
  |nil =>
   cases r1
   simp only [Option.some.injEq,Prod.mk.injEq] at h4
   obtain⟨rfl,rfl⟩:=h4
   refine⟨_,w,E,?_,hv _,H,.refl _ _ _⟩
   have e0:Nat.min sl 0=0:=by simp only [Nat.min_def];split<;>omega
   rw [e0] at r2 ⊢
   rw [hdef]
   simp [run_ty ok hi,hid,q1,run_size ok he,e0,r2,storeCells]
  |cons c1 cs =>
   exfalso
   simp only [Nat.min_def] at hc
   rw [show (if sl≤0 then sl else 0)=0 from by split<;>omega,Nat.zero_mul] at hc
   unfold firstA at hc
   split at hc<;>simp at hc
   simp [u8s] at hc
theorem MR.putMap (H:MR tb.p N w0 E m w) {r:Nat} {i:Info} (hE:E r=some i) {es:List MapEntry} {c:Nat} (hm:mapOf m r=some (es,c)) {es2 es2':List MapEntry} {c2:Nat} (h2:EntR E es2 es2') :
  (setObj i.blk (.map ⟨es2'⟩ c2)).run tb.p w=.ok () { w with heap:=w.heap.setIfInBounds i.blk (.map ⟨es2'⟩ c2) }∧MR tb.p N w0 E (putObj m r (.map es2 c2)) { w with heap:=w.heap.setIfInBounds i.blk (.map ⟨es2'⟩ c2) }:=by
 obtain⟨es',hh,_⟩:=H.map hE hm
 have hlt:i.blk<w.heap.size:=(Array.getElem?_eq_some_iff.1 hh).1
 refine⟨by simp [setObj,Sem.run,hh],?_⟩
 refine H.put hE (mapOf_some hm) rfl (.inl rfl) (by simp) ?_ rfl rfl rfl fun _=>⟨_,by simp [hlt],.map h2⟩
 intro k hk
 simp only [Array.getElem?_setIfInBounds]
 rw [if_neg (fun e=>hk e.symm)]
theorem run_clearA (ok:TabsOk tb) (H:MR tb.p N w0 E m w) {t:TypeId} {tys:List TypeId} {x x':Value} {m':Mem} (hx:VR E x x') (h:clearA tb t m x=some m') (ty:TypeId) :
  WrOk tb N w0 E m w undef m' (Builtin.clear_ ⟨t::tys⟩ ty #[x']):=by
 have hdef:∀ x,Builtin.clear_ ⟨t::tys⟩ ty #[x]=(do
   match ← underlying t,x with
   |_,.map none|_,.slice none _ _|_,.slice _ 0 _=>pure ()
   |_,.map (some r) =>
    let .map _ clock ← getObj r|stuck "clear: map expected"
    setObj r (.map #[] clock)
   | .slice elem,.slice (some a) n _ =>
     storeCells a (Builtin.zeroCells (← zeroValue elem).cells n).toList
   |_,_=>stuck "clear: map or slice expected"
   pure (.tuple #[])):=fun x=>rfl
 unfold clearA at h
 obtain⟨i,hi,h1⟩:=oB_some.1 h
 rw [hdef]
 cases hx with
 |mapNil =>
  simp only [Option.some.injEq] at h1;subst h1
  exact⟨undef,w,E,by simp [run_ty ok hi,undef],.undef E,H,.refl _ _ _⟩
 | @map r j hE =>
   obtain⟨⟨es,c⟩,hm,h2⟩:=oB_some.1 h1
   simp only [Option.some.injEq] at h2;subst h2
   obtain⟨es',hh,_⟩:=H.map hE hm
   obtain⟨p1,p2⟩:=H.putMap hE hm (es2:=[]) (es2':=[]) (c2:=c) .nil
   exact⟨undef,_,E,by simp [run_ty ok hi,undef,run_getMap hh,p1],.undef E,p2,.put _ hE⟩
 |slNil l c =>
  simp only [Option.some.injEq] at h1;subst h1
  exact⟨undef,w,E,by simp [run_ty ok hi,undef],.undef E,H,.refl _ _ _⟩
 |slD _ _ =>
  simp only [Option.some.injEq] at h1;subst h1
  exact⟨undef,w,E,by simp [run_ty ok hi,undef],.undef E,H,.refl _ _ _⟩
 |slE0 h hx =>
  simp only [Option.some.injEq] at h1;subst h1
  exact⟨undef,w,E,by simp [run_ty ok hi,undef],.undef E,H,.refl _ _ _⟩
 |slE1 h hx =>
  simp only [Option.some.injEq] at h1;subst h1
  exact⟨undef,w,E,by simp [run_ty ok hi,undef],.undef E,H,.refl _ _ _⟩
 |sl l c hE =>
  cases l with
  |zero =>
   simp only [Option.some.injEq] at h1;subst h1
   exact⟨undef,w,E,by simp [run_ty ok hi,undef],.undef E,H,.refl _ _ _⟩
  |succ l =>
   simp only at h1
   split at h1<;>first|(simp at h1;done)|skip
   rename_i el hd
   obtain⟨j,hj,h2⟩:=oB_some.1 h1
   split at h2<;>first|(simp at h2;done)|skip
   rename_i z1 zs hz hzc
   obtain⟨z,g1,g2,g3,g4,_⟩:=ok.zc hj hz
   have hzc':z.cells.toList=j.zc:=by rw [g2];cases z<;>rfl
   have hrel:VRs E (repl (z1::zs) (l+1)) (Builtin.zeroCells z.cells (l+1)).toList:=by
    rw [zeroCells_eq,hzc',hzc]
    exact VRs.repl (flatVs_self (by rw [← hzc,g2];exact g3)) _
   obtain⟨w',p1,p2,p3⟩:=run_storeCellsA H hE hrel h2
   exact⟨undef,w',E,by simp [run_ty ok hi,undef,hd,run_zero ok hj g1,p1],.undef E,p2,p3⟩
 |slX l c hE =>
  cases l with
  |zero =>
   simp only [Option.some.injEq] at h1;subst h1
   exact⟨undef,w,E,by simp [run_ty ok hi,undef],.undef E,H,.refl _ _ _⟩
  |succ l =>
   simp only at h1
   split at h1<;>first|(simp at h1;done)|skip
   rename_i el hd
   obtain⟨j,hj,h2⟩:=oB_some.1 h1
   split at h2<;>first|(simp at h2;done)|skip
   rename_i z1 zs hz hzc
   obtain⟨z,g1,g2,g3,g4,_⟩:=ok.zc hj hz
   have hzc':z.cells.toList=j.zc:=by rw [g2];cases z<;>rfl
   have hrel:VRs E (repl (z1::zs) (l+1)) (Builtin.zeroCells z.cells (l+1)).toList:=by
    rw [zeroCells_eq,hzc',hzc]
    exact VRs.repl (flatVs_self (by rw [← hzc,g2];exact g3)) _
   obtain⟨w',p1,p2,p3⟩:=run_storeCellsA H hE hrel h2
   exact⟨undef,w',E,by simp [run_ty ok hi,undef,hd,run_zero ok hj g1,p1],.undef E,p2,p3⟩
 |_=>simp at h1
end
end Go.Ev

namespace Go.Ev
open Go.RowKit
theorem growBy_le (need:Nat):∀ (r c:Nat),c≤need→Builtin.growBy need r c≤2*need+192
 |0,c,h=>by simp only [Builtin.growBy];omega
 |r+1,c,h=>by
  simp only [Builtin.growBy]
  by_cases h0:c=need
  ·rw [if_pos (by omega)];omega
  rw [if_neg (by omega)]
  by_cases h2:c+(c+768) / 4≤need
  ·exact growBy_le need r _ h2
  ·cases r with
   |zero=>simp only [Builtin.growBy];omega
   |succ r=>simp only [Builtin.growBy];rw [if_pos (by omega)];omega
theorem nextslicecap_le {need old:Nat} (h:old<need):Builtin.nextslicecap need old≤2*need+192:=by
 unfold Builtin.nextslicecap
 split
 ·omega
 ·split
  ·omega
  ·exact growBy_le need 4 old (by omega)
section
variable {tb:Tabs} {N:Nat} {w0:World} {E:Env} {m:Mem} {w:World}
inductive CntOk (P:Program) (w:World) (xt elem:TypeId) (size:Nat) (x:Value) (n:Nat) (new:List Value):Prop where
 |z (kd k:IntKind) (h3:∀ w,(underlying xt).run P w=.ok (.int kd) w) (hx:x=.int k (n:Int)) (hw:IntKind.i64.wrap (n:Int)=(n:Int)) {inf:TypeInfo} (hi:∀ w,(typeInfo elem).run P w=.ok inf w)
    (hb:¬ ((281474976710656:Int)<(n:Int)*(inf.bytes:Int))) {zv:Value} (hz:∀ w,(zeroValue elem).run P w=.ok zv w) (h0:n*size=0→new=[]) (hn:new=(Builtin.zeroCells zv.cells n).toList)
 |o (d:TypeDesc) (hd:∀ k,d≠.int k) (h3:∀ w,(underlying xt).run P w=.ok d w) (hl:∀ w,(Builtin.lenOf x).run P w=.ok n w) (hf:(Builtin.firstCells size n x).run P w=.ok ⟨new⟩ w) (hf':(Builtin.firstCells size n x).run P w.drew=.ok ⟨new⟩ w.drew)
set_option maxHeartbeats 4000000 in
theorem append_fits {P:Program} {w w':World} {st xt elem:TypeId} {tys:List TypeId} {ty:TypeId} {base:Option Addr} {sLen sCap size:Nat} {x:Value} {n:Nat} {new:List Value}
  (h1:∀ w,(underlying st).run P w=.ok (.slice elem) w) (h2:∀ w,(sizeOf elem).run P w=.ok size w) (hc:CntOk P w xt elem size x n new) (hle:sLen+n≤sCap)
  (hs:match base with|some a=>(storeCells (a.add (sLen*size)) new).run P w=.ok () w'|none=>w'=w) :
  (Builtin.append_ ⟨st::xt::tys⟩ ty #[.slice base sLen sCap,x]).run P w=.ok (.slice base (sLen+n) sCap) w':=by
 cases hc with
 |z kd k h3 hx hw hi hb hz h0 hn =>
  subst hx
  have hneg:¬ ((n:Int)<0):=by omega
  by_cases hn0:n*size=0
  ·have hnew:=h0 hn0
   rw [hnew] at hs
   have h00:n=0∨size=0:=Nat.mul_eq_zero.1 hn0
   cases base with
   |none=>subst hs;simp [Builtin.append_,h1,h2,h3,asInt,asIntOf,hw,hneg,hi,hb,hle,hn0,h00]
   |some a=>simp [Builtin.append_,h1,h2,h3,asInt,asIntOf,hw,hneg,hi,hb,hle,hn0,h00,hs]
  ·have h00:¬ (n=0∨size=0):=fun h=>hn0 (Nat.mul_eq_zero.2 h)
   rw [hn] at hs
   cases base with
   |none =>
    subst hs
    simp [Builtin.append_,h1,h2,h3,asInt,asIntOf,hw,hneg,hi,hb,hle,h00,hz]
    try (intro h;exact absurd h hn0)
   |some a =>
    simp only at hs
    simp [Builtin.append_,h1,h2,h3,asInt,asIntOf,hw,hneg,hi,hb,hle,h00,hz,hs]
    intro h;exact absurd h hn0
 |o d hd h3 hl hf hf' =>
  cases base with
  |none=>subst hs;cases d<;>first|(exact absurd rfl (hd _))|simp [Builtin.append_,h1,h2,h3,hl,hf,hle]
  |some a=>cases d<;>first|(exact absurd rfl (hd _))|simp [Builtin.append_,h1,h2,h3,hl,hf,hle,hs]
set_option maxHeartbeats 4000000 in
theorem append_grow {P:Program} {w:World} {st xt elem:TypeId} {tys:List TypeId} {ty:TypeId} {base:Option Addr} {sLen sCap size:Nat} {x:Value} {n:Nat} {old new:List Value}
  (h1:∀ w,(underlying st).run P w=.ok (.slice elem) w) (h2:∀ w,(sizeOf elem).run P w=.ok size w) (hc:CntOk P w xt elem size x n new) (hgt:¬ sLen+n≤sCap)
  {inf:TypeInfo} (hi:∀ w,(typeInfo elem).run P w=.ok inf w) (hb0:inf.bytes≠0) (hmax:sLen+n<9223372036854775808) (hcap:¬ 281474976710656<Builtin.nextslicecap (sLen+n) sCap*inf.bytes)
  {zv:Value} (hz:∀ w,(zeroValue elem).run P w=.ok zv w) (hold:(Builtin.firstCells size sLen (.slice base sLen sCap)).run P w.drew=.ok ⟨old⟩ w.drew) :
  ∃ q,(Builtin.append_ ⟨st::xt::tys⟩ ty #[.slice base sLen sCap,x]).run P w=.ok (.slice (some ⟨w.heap.size,0,none⟩) (sLen+n) (sLen+n+q))
    { w with drawn:=w.drawn+1,heap:=w.heap.push (.cells ⟨old++new++repl zv.cells.toList q⟩ elem) }:=by
 have hfo:(Question.appendCap (sLen+n) sCap elem).forced=false:=rfl
 generalize hq:w.tape w.drawn (.appendCap (sLen+n) sCap elem)%(2 ^ 63-(sLen+n))=q
 have hcut:(Question.appendCap (sLen+n) sCap elem).cut (w.tape w.drawn (.appendCap (sLen+n) sCap elem))=sLen+n+q:=by
  show (sLen+n)+_%(2 ^ 63-(sLen+n))=_
  rw [hq]
 have hrest:(⟨old++new++repl zv.cells.toList q⟩:Array Value)=(⟨old⟩:Array Value)++((⟨new⟩:Array Value)++Builtin.zeroCells zv.cells q):=by
  apply Array.ext'
  simp [zeroCells_eq]
 have hi63:¬ ((9223372036854775807:Int)<(sLen:Int)+(n:Int)):=by omega
 refine⟨q,?_⟩
 rw [hrest]
 cases hc with
 | @z kd k h3 hx hw inf2 hi2 hb zv2 hz2 h0 hn =>
   subst hx
   obtain rfl:inf2=inf:=by have:=(hi2 w).symm.trans (hi w);simpa using this
   obtain rfl:zv2=zv:=by have:=(hz2 w).symm.trans (hz w);simpa using this
   have hneg:¬ ((n:Int)<0):=by omega
   have hnew1:(⟨new⟩:Array Value)=Builtin.zeroCells zv2.cells n:=by rw [hn]
   rw [hnew1]
   by_cases hn0:n*size=0
   ·have hnew:=h0 hn0
    have h00:n=0∨size=0:=Nat.mul_eq_zero.1 hn0
    have he:Builtin.zeroCells zv2.cells n = #[]:=by rw [← hnew1,hnew]
    rw [he]
    simp [Builtin.append_,h1,h2,h3,asInt,asIntOf,hw,hneg,hi,hb,hgt,hn0,h00,hi63,hcap,hfo,hcut,hold,hz,newRow]
    rfl
   ·have h00:¬ (n=0∨size=0):=fun h=>hn0 (Nat.mul_eq_zero.2 h)
    simp [Builtin.append_,h1,h2,h3,asInt,asIntOf,hw,hneg,hi,hb,hgt,h00,hi63,hcap,hfo,hcut,hold,hz,newRow,hn0]
    rfl
 |o d hd h3 hl hf hf' =>
  cases d<;>first|(exact absurd rfl (hd _))|(simp [Builtin.append_,h1,h2,h3,hl,hf,hf',hgt,hi,hb0,hi63,hcap,hfo,hcut,hold,hz,newRow];rfl)
end
end Go.Ev

namespace Go.Ev
open Go.RowKit
section
variable {tb:Tabs} {N:Nat} {w0:World} {E:Env} {m:Mem} {w:World}
theorem run_appended (ok:TabsOk tb) (H:MR tb.p N w0 E m w) {xt elem:TypeId} {e:TI} (he:ti tb elem=some e) {x x':Value} (hx:VR E x x') {n:Nat} {new:List Value} (h:appended tb m xt elem e.inf.size x=some (n,new)) :
  ∃ new',VRs E new new'∧CntOk tb.p w xt elem e.inf.size x' n new':=by
 unfold appended at h
 obtain⟨j,hj,h1⟩:=oB_some.1 h
 clear h
 split at h1
 ·rename_i k hd
  split at h1<;>first|(simp at h1;done)|skip
  rename_i k' l
  cases hx
  obtain⟨e',he',h2⟩:=oB_some.1 h1
  obtain rfl:=Option.some.inj (he.symm.trans he')
  split at h2<;>first|(simp at h2;done)|skip
  rename_i hz hb hlt
  simp only [Option.some.injEq,Prod.mk.injEq] at h2
  obtain⟨rfl,rfl⟩:=h2
  have hb:=Nat.le_of_ble_eq_true hb
  have hlt:l<9223372036854775808:=by simpa [Nat.blt_eq] using hlt
  obtain⟨z,g1,g2,g3,g4,_⟩:=ok.zc he hz
  have hzc':z.cells.toList=e.zc:=by rw [g2];cases z<;>rfl
  refine⟨repl e.zc l,VRs.repl (flatVs_self (by rw [g2];exact g3)) _,.z k k' (fun w=>by rw [run_ty ok hj,hd]) rfl ?_ (fun w=>run_inf ok he) ?_ (fun w=>run_zero ok he g1) ?_ ?_⟩
  ·rw [wrap_i64];split<;>omega
  ·have:((l*e.inf.bytes:Nat):Int)=(l:Int)*(e.inf.bytes:Int):=by push_cast;rfl
   rw [← this];omega
  ·intro hn
   exact List.eq_nil_of_length_eq_zero (by rw [repl_length,g4];exact hn)
  ·rw [zeroCells_eq,hzc']
 ·rename_i hnd
  obtain⟨n',hn',h2⟩:=oB_some.1 h1
  obtain⟨l,hl,h3⟩:=oB_some.1 h2
  simp only [Option.some.injEq,Prod.mk.injEq] at h3
  obtain⟨rfl,rfl⟩:=h3
  have hcnt:∀ w,(Builtin.lenOf x').run tb.p w=.ok n' w∧∀ a l c,x=.slice a l c→n'=l:=fun w=>run_lenOf hx hn'
  have hbnd:∀ a l c,x=.slice a l c→n'≤l:=fun a l c ex=>by rw [(hcnt w).2 a l c ex];exact Nat.le_refl _
  obtain⟨new',r1,r2⟩:=run_firstA H (sz:=e.inf.size) (n:=n') rfl hx hbnd hl
  exact⟨new',r1,.o j.d (fun k e=>hnd k e) (fun w=>run_ty ok hj) (fun w=>(hcnt w).1) (r2 w rfl) (r2 w.drew rfl)⟩
theorem MR.newRow (H:MR tb.p N w0 E m w) (elem:TypeId) {cells cells' rest:List Value} (hc:VRs E cells cells') {q:Nat} (hr:rest.length=q*tb.p.cellsOf elem) {d:Nat} :
  ∃ E',E' m.next=some ⟨w.heap.size,0,q⟩∧MR tb.p N w0 E' (newObjA m (rowObj elem cells .none true)) { w with drawn:=d,heap:=w.heap.push (.cells ⟨cells'++rest⟩ elem) }∧MExt m.next E m E' (newObjA m (rowObj elem cells .none true)):=by
 have hn:=(H.dom m.next (Nat.le_refl _)).2
 have HL:=H.lay (rowObj elem cells .none true)
 have HM:=HL.mat (b:=m.next) (o:=rowObj elem cells .none true) (ob:=.cells ⟨cells'++rest⟩ elem) (w' := { w with drawn:=d,heap:=w.heap.push (.cells ⟨cells'++rest⟩ elem) }) (sh:=0) (ex:=q)
  hn (by rw [get_newObjA,if_pos rfl]) (by rw [next_newObjA];omega) rfl rfl rfl rfl rfl (rowObj_new (cells_freshE hn hc) hr (by simp) rfl)
 refine⟨_,Env.add_at,HM,?_⟩
 exact (MExt.lay H _).trans (MExt.mat hn (Nat.le_refl _))
theorem MExt.kill {hi:Nat} {b:Nat} {i:Info} (hE:E b=some i):MExt hi E m E (putObj m b .dead):=MExt.put _ hE
theorem MR.kill (H:MR tb.p N w0 E m w) {b:Nat} {i:Info} {r:Row} (hE:E b=some i) (hr:rowW m b=some r):MR tb.p N w0 E (putObj m b .dead) w :=
 H.put hE (rowW_some hr) rfl (.inr rfl) rfl (fun _ _=>rfl) rfl rfl rfl (fun h=>by simp [AObj.live] at h)
theorem MR.regrow (H:MR tb.p N w0 E m w) {b:Nat} {i:Info} {r:Row} (hE:E b=some i) (hr:rowW m b=some r) (hz:r.fz=.none) {o:Nat} {new new':List Value} {old:List Value} {w':World} {cells cells':Array Value} {el:TypeId} {fr:Nat × Nat}
  (hg:w.heap[i.blk]? = some (.cells cells el fr)) (hone:OneR w w' i.blk (.cells cells' el fr)) (hsz:cells'.size=cells.size) {ex:Nat}
  (hcell:∀ j v,(old++new)[j]? = some v→∃ v',cells'[i.shift+o+j]? = some v'∧VR E v v') (hn:cells.size=i.shift+o+(old++new).length+ex*tb.p.cellsOf r.elem) :
  ∃ E',E' m.next=some ⟨i.blk,i.shift+o,ex⟩∧MR tb.p N w0 E' (newObjA (putObj m b .dead) (rowObj r.elem (old++new) .none true)) w'∧MExt m.next E m E' (newObjA (putObj m b .dead) (rowObj r.elem (old++new) .none true)):=by
 obtain⟨c0,e0,f0,g1,g2⟩:=H.row hE (rowOf_of_rowW hr)
 rw [hg] at g1
 obtain⟨rfl,rfl,rfl⟩:cells=c0∧el=e0∧fr=f0:=by
  have:=Option.some.inj g1
  injection this with a b c
  exact⟨a,b,c⟩
 have hK:MR tb.p N w0 E (putObj m b .dead) w':=H.put hE (rowW_some hr) rfl (.inr rfl) hone.size hone.other hone.os hone.tape hone.output (fun h=>by simp [AObj.live] at h)
 have hnx:=(H.dom m.next (Nat.le_refl _)).2
 have hle:=Env.add_le (i:=⟨i.blk,i.shift+o,ex⟩) hnx
 have hbn:b≠m.next:=by intro e;subst e;rw [hnx] at hE;simp at hE
 refine⟨E.add m.next ⟨i.blk,i.shift+o,ex⟩,Env.add_at,⟨?_,?_,?_,?_,?_,hK.base,hK.size⟩,?_⟩
 ·intro c j q hc hq hql
  rw [get_newObjA,next_putObj] at hq
  by_cases e:c=m.next
  ·subst e
   rw [if_pos rfl] at hq
   obtain rfl:=Option.some.inj hq
   obtain rfl:=Option.some.inj (Env.add_at.symm.trans hc)
   refine⟨_,hone.at_,.row ⟨g2.elem,?_,?_,fun h=>by simp at h,?_⟩⟩
   ·intro j v hv
    simp only [cellAt,T.get_ofList] at hv
    split at hv<;>first|(simp at hv;done)|skip
    split at hv
    ·rename_i u hu
     simp only [Option.some.injEq] at hv;subst hv
     obtain⟨v',h1,h2⟩:=hcell j u hu
     exact⟨v',h1,h2.mono hle⟩
    ·simp at hv
   ·rw [hsz];exact hn
   ·have:=g2.fz;rw [hz] at this;exact this
  ·rw [if_neg e] at hq
   simp only [Env.add,if_neg e] at hc
   obtain⟨ob,h1,h2⟩:=hK.objs c j q hc hq hql
   exact⟨ob,h1,h2.mono hle⟩
 ·intro c j hc
  by_cases e:c=m.next
  ·subst e
   obtain rfl:=Option.some.inj (Env.add_at.symm.trans hc)
   exact hK.ub b i hE
  ·simp only [Env.add,if_neg e] at hc;exact hK.ub c j hc
 ·intro c hc
  rw [next_newObjA,next_putObj] at hc
  obtain⟨h1,h2⟩:=hK.dom c (by rw [next_putObj];omega)
  rw [get_newObjA,next_putObj,if_neg (by omega)]
  exact⟨h1,by simp only [Env.add];rw [if_neg (by omega)];exact h2⟩
 ·intro c c' j j' q q' hne hc hc' hq hq' hl1 hl2
  rw [get_newObjA,next_putObj] at hq hq'
  have key:∀ x k y,x≠m.next→(E.add m.next ⟨i.blk,i.shift+o,ex⟩) x=some k→(putObj m b .dead).objs.get x=some y→y.live=true→k.blk≠i.blk:=by
   intro x k y hx hk hy hyl
   simp only [Env.add,if_neg hx] at hk
   rw [get_putObj] at hy
   have hxb:x≠b:=by intro e;subst e;rw [if_pos rfl] at hy;obtain rfl:=Option.some.inj hy;simp [AObj.live] at hyl
   rw [if_neg hxb] at hy
   exact H.inj x b k i y _ hxb hk hE hy (rowW_some hr) hyl rfl
  by_cases e:c=m.next
  ·subst e
   obtain rfl:=Option.some.inj (Env.add_at.symm.trans hc)
   rw [if_neg (Ne.symm hne)] at hq'
   exact (key c' j' q' (Ne.symm hne) hc' hq' hl2).symm
  ·by_cases e':c'=m.next
   ·subst e'
    obtain rfl:=Option.some.inj (Env.add_at.symm.trans hc')
    rw [if_neg e] at hq
    exact key c j q e hc hq hl1
   ·rw [if_neg e] at hq
    rw [if_neg e'] at hq'
    simp only [Env.add,if_neg e] at hc
    simp only [Env.add,if_neg e'] at hc'
    exact hK.inj c c' j j' q q' hne hc hc' hq hq' hl1 hl2
 ·intro c j q hc hq hqo
  rw [get_newObjA,next_putObj] at hq
  by_cases e:c=m.next
  ·subst e
   obtain rfl:=Option.some.inj (Env.add_at.symm.trans hc)
   exact H.own b i _ hE (rowW_some hr) rfl
  ·rw [if_neg e] at hq
   simp only [Env.add,if_neg e] at hc
   exact hK.own c j q hc hq hqo
 ·refine⟨hle,fun c hc hn=>⟨by simp only [Env.add];rw [if_neg (by omega)];exact hn,?_⟩,by rw [next_newObjA,next_putObj];omega⟩
  rw [get_newObjA,next_putObj,if_neg (by omega),get_putObj,if_neg (by intro e;subst e;rw [hE] at hn;simp at hn)]
end
end Go.Ev

namespace Go.Ev
open Go.RowKit
section
variable {tb:Tabs} {N:Nat} {w0:World} {E:Env} {m:Mem} {w:World}
theorem appendFits_some {p:Option Addr} {sl sc n bytes:Nat} (h:appendFits (.slice p sl sc) n bytes=true) (hb:0<bytes) {c:Nat} (hc:c<sl+n) :
  sl+n<9223372036854775808∧¬ 281474976710656<Builtin.nextslicecap (sl+n) c*bytes:=by
 have h:=Nat.le_of_ble_eq_true h
 have h1:=nextslicecap_le hc
 have h2:sl+n+1000≤(sl+n+1000)*bytes:=Nat.le_mul_of_pos_right _ hb
 have h3:Builtin.nextslicecap (sl+n) c*bytes≤(2*(sl+n+1000))*bytes:=Nat.mul_le_mul_right _ (by omega)
 rw [Nat.mul_assoc] at h3
 omega
theorem appended_nil {m:Mem} {xt elem:TypeId} {sz:Nat} {x:Value} {n:Nat} {new:List Value} (h:appended tb m xt elem sz x=some (n,new)):n=0→new=[]:=by
 unfold appended at h
 obtain⟨j,hj,h1⟩:=oB_some.1 h
 clear h
 split at h1
 ·split at h1<;>first|(simp at h1;done)|skip
  obtain⟨e',he',h2⟩:=oB_some.1 h1
  split at h2<;>first|(simp at h2;done)|skip
  simp only [Option.some.injEq,Prod.mk.injEq] at h2
  obtain⟨rfl,rfl⟩:=h2
  intro e;subst e;rfl
 ·obtain⟨n',hn',h2⟩:=oB_some.1 h1
  obtain⟨l,hl,h3⟩:=oB_some.1 h2
  simp only [Option.some.injEq,Prod.mk.injEq] at h3
  obtain⟨rfl,rfl⟩:=h3
  intro e;subst e
  rw [Nat.zero_mul] at hl
  unfold firstA at hl
  split at hl
  ·simp at hl;exact hl
  ·simp at hl;exact hl
  ·simp [u8s] at hl;exact hl
  ·simp at hl
theorem VR.slice_len {E:Env} {a:Addr} {l c l1:Nat} {x':Value} (h:VR E (.slice (some a) l c) x') (hl:l1≤c):∃ p' c',x'=.slice (some p') l c'∧c≤c'∧VR E (.slice (some a) l1 c) (.slice (some p') l1 c'):=by
 cases h with
 |sl l c h=>exact⟨_,_,rfl,by omega,.sl _ _ h⟩
 |slX l c h=>exact⟨_,_,rfl,by omega,.slX _ _ h⟩
 |slD a h=>obtain rfl:l1=0:=(by omega);exact⟨_,_,rfl,by omega,.slD _ h⟩
 |slE0 h hx=>obtain rfl:l1=0:=(by omega);exact⟨_,_,rfl,by omega,.slE0 h hx⟩
 |slE1 h hx=>obtain rfl:l1=0:=(by omega);exact⟨_,_,rfl,by omega,.slE1 h hx⟩
theorem run_appendTo (ok:TabsOk tb) (H:MR tb.p N w0 E m w) {st xt elem:TypeId} {e:TI} {i:TI} (hi:ti tb st=some i) (hid:i.d=.slice elem) (he:ti tb elem=some e) {s s' x' v:Value} {m':Mem} (hs:VR E s s')
  {n:Nat} {new new':List Value} (hnew:VRs E new new') (hc:CntOk tb.p w xt elem e.inf.size x' n new') (hsz:0<e.inf.size) (hby:0<e.inf.bytes) (hz:e.hasZ=true) (hfit:appendFits s n e.inf.bytes=true) (hn0:n=0→new=[])
  (h:appendTo m elem e.inf.size s n new=some (v,m')) (tys:List TypeId) (ty:TypeId):WrOk tb N w0 E m w v m' (Builtin.append_ ⟨st::xt::tys⟩ ty #[s',x']):=by
 obtain⟨z,g1,g2,g3,g4,_⟩:=ok.zc he hz
 have hzc':z.cells.toList=e.zc:=by rw [g2];cases z<;>rfl
 have hst:∀ w,(underlying st).run tb.p w=.ok (.slice elem) w:=fun w=>by rw [run_ty ok hi,hid]
 have hrl:∀ q,(repl z.cells.toList q).length=q*tb.p.cellsOf elem:=fun q=>by rw [repl_length,hzc',g4,ok.cellsOf he]
 have grow:∀ (p:Option Addr) (sl c:Nat) (old old':List Value),s'=.slice p sl c→c<sl+n→appendFits (.slice p sl 0) n e.inf.bytes=true→VRs E old old' →
   (Builtin.firstCells e.inf.size sl (.slice p sl c)).run tb.p w.drew=.ok ⟨old'⟩ w.drew→∀ m1,MR tb.p N w0 E m1 w→m1.next=m.next→MExt m.next E m E m1→v=.slice (some ⟨m.next,0,none⟩) (sl+n) (sl+n)→m'=newObjA m1 (rowObj elem (old++new) .none true) →
   WrOk tb N w0 E m w v m' (Builtin.append_ ⟨st::xt::tys⟩ ty #[s',x']):=by
  intro p sl c old old' hs' hlt hft hold hrun m1 H1 hnx hx1 hv hm'
  obtain⟨b1,b2⟩:=appendFits_some hft hby hlt
  obtain⟨q,hq⟩:=append_grow (P:=tb.p) (w:=w) (st:=st) (xt:=xt) (elem:=elem) (tys:=tys) (ty:=ty) hst (fun w=>run_size ok he) hc (by omega) (fun w=>run_inf ok he) (by omega) b1 b2 (fun w=>run_zero ok he g1) hrun
  obtain⟨E',e1,e2,e3⟩:=H1.newRow elem (hold.append hnew) (rest:=repl z.cells.toList q) (hrl q) (d:=w.drawn+1)
  refine⟨_,_,E',by rw [hs'];exact hq,?_,by rw [hm'];exact e2,by rw [hm'];exact hx1.trans (by rw [← hnx];exact e3)⟩
  rw [hv,← hnx]
  have:=VR.sl (E:=E') (b:=m1.next) (o:=0) (sl+n) (sl+n) e1
  simpa using this
 have inplace:∀ (b:Nat) (i:Info) (r:Row) (o sl c:Nat) (old:List Value),E b=some i→rowW m b=some r→r.fz=.none→r.elem=elem→s'=.slice (some ⟨i.blk,i.shift+o,none⟩) sl c→sl+n≤c →
   (∀ j u,old[j]? = some u→cellAt r (o+j)=some u)→old.length=sl*e.inf.size→new.length=n*e.inf.size→new.all oneC=true→r.n+i.extra*e.inf.size=o+c*e.inf.size →
   v=.slice (some ⟨m.next,0,none⟩) (sl+n) (sl+n)→m'=newObjA (putObj m b .dead) (rowObj elem (old++new) .none true)→WrOk tb N w0 E m w v m' (Builtin.append_ ⟨st::xt::tys⟩ ty #[s',x']):=by
  intro b i r o sl c old hE hr hfz hel hs' hle hold hol hnl hone hn hv hm'
  obtain⟨cells,el,fr,q1,q2⟩:=H.row hE (rowOf_of_rowW hr)
  have hcs:tb.p.cellsOf r.elem=e.inf.size:=by rw [hel,ok.cellsOf he]
  have hsize:=q2.size
  rw [hcs] at hsize
  obtain⟨ex,rfl⟩:∃ ex,c=sl+n+ex:=⟨c-(sl+n),by omega⟩
  rw [Nat.add_mul,Nat.add_mul] at hn
  have hfr:fr.1=fr.2:=by have:=q2.fz;rw [hfz] at this;exact this
  have hlen:=hnew.length
  by_cases hnn:new'=[]
  ·subst hnn
   have hnew0:new=[]:=List.eq_nil_of_length_eq_zero (by rw [hlen];rfl)
   have hns:n*e.inf.size=0:=by rw [← hnl,hnew0];rfl
   have hrun:=append_fits (w':=w) (tys:=tys) (ty:=ty) (base:=some ⟨i.blk,i.shift+o,none⟩) hst (fun w=>run_size ok he) hc hle (by rfl)
   obtain⟨E',e1,e2,e3⟩:=H.regrow (o:=o) (new:=new) (new':=[]) (old:=old) (ex:=ex) hE hr hfz q1 ⟨q1,fun _ _=>rfl,rfl,rfl,rfl,rfl⟩ rfl (by
    intro j u hu
    rw [hnew0,List.append_nil] at hu
    rw [Nat.add_assoc]
    exact q2.cell _ _ (hold j u hu)) (by rw [hcs,List.length_append,hol,hnl];omega)
   refine⟨_,w,E',by rw [hs'];exact hrun,?_,by rw [hm',← hel];exact e2,by rw [hm',← hel];exact e3⟩
   rw [hv]
   have:=VR.sl (E:=E') (b:=m.next) (o:=0) (sl+n) (sl+n) e1
   simpa using this
  ·obtain⟨cells',w',p1,p2,p3,p4⟩:=run_storeList (P:=tb.p) new' i.blk (i.shift+o+sl*e.inf.size) 0 w cells el fr q1 (by rw [hsize,← hlen,hnl];omega) (hnew.all_one hone) (by intro j hj;omega)
   have hrun:=append_fits (w':=w') (tys:=tys) (ty:=ty) (base:=some ⟨i.blk,i.shift+o,none⟩) hst (fun w=>run_size ok he) hc hle (by simp only;rw [add_none];exact p1)
   obtain⟨E',e1,e2,e3⟩:=H.regrow (o:=o) (new:=new) (new':=new') (old:=old) (ex:=ex) hE hr hfz q1 p2 p3 (by
    intro j u hu
    rw [p4]
    by_cases hj:j<old.length
    ·rw [List.getElem?_append_left hj] at hu
     rw [if_neg (by omega),Nat.add_assoc]
     exact q2.cell _ _ (hold j u hu)
    ·rw [List.getElem?_append_right (by omega)] at hu
     obtain⟨u',h3,h4⟩:=hnew.get _ u hu
     have hlt:=(List.getElem?_eq_some_iff.1 h3).1
     rw [if_pos (by omega)]
     exact⟨u',by rw [show i.shift+o+j-(i.shift+o+sl*e.inf.size+0)=j-old.length from by omega];exact h3,h4⟩) (by rw [hcs,List.length_append,hol,hnl];omega)
   refine⟨_,w',E',by rw [hs'];exact hrun,?_,by rw [hm',← hel];exact e2,by rw [hm',← hel];exact e3⟩
   rw [hv]
   have:=VR.sl (E:=E') (b:=m.next) (o:=0) (sl+n) (sl+n) e1
   simpa using this
 unfold appendTo at h
 split at h
 ·rename_i sl sc
  have hs':s'=.slice none sl sc:=by cases hs;rfl
  split at h
  ·split at h<;>first|(simp at h;done)|skip
   rename_i hb
   obtain rfl:=Nat.eq_of_beq_eq_true hb
   simp only [Option.some.injEq,Prod.mk.injEq] at h
   obtain⟨rfl,rfl⟩:=h
   subst hs'
   refine⟨_,w,E,append_fits hst (fun w=>run_size ok he) hc (by omega) rfl,.slNil _ _,H,.refl _ _ _⟩
  ·rename_i n
   split at h<;>first|(simp at h;done)|skip
   rename_i hb
   rw [Bool.and_eq_true] at hb
   obtain rfl:=Nat.eq_of_beq_eq_true hb.1
   obtain rfl:=Nat.eq_of_beq_eq_true hb.2
   simp only [newRowV,Option.some.injEq,Prod.mk.injEq] at h
   obtain⟨hv,hm⟩:=h
   exact grow none 0 0 [] [] hs' (by omega) hfit .nil rfl m H rfl (.refl _ _ _) (by rw [← hv];simp) (by rw [← hm];rfl)
 ·rename_i a sl sc
  split at h
  ·rename_i hle
   have hle:=Nat.le_of_ble_eq_true hle
   obtain⟨p',c',rfl,hcc,hvr⟩:=hs.slice_len hle
   split at h
   ·simp only [Option.some.injEq,Prod.mk.injEq] at h
    obtain⟨rfl,rfl⟩:=h
    cases hnew
    exact⟨_,w,E,append_fits hst (fun w=>run_size ok he) hc (by omega) rfl,hvr,H,.refl _ _ _⟩
   ·rename_i v1 new1
    have hn1:n≠0:=fun e=>by have:=hn0 e;simp at this
    obtain⟨m1,hm1,h2⟩:=oB_some.1 h
    simp only [Option.some.injEq,Prod.mk.injEq] at h2
    obtain⟨rfl,rfl⟩:=h2
    have hin:∃ i,E a.block=some i∧p'=⟨i.blk,i.shift+a.off,none⟩:=by
     clear h
     cases hs with
     |sl l c h=>exact⟨_,h,rfl⟩
     |slX l c h=>exact⟨_,h,rfl⟩
     |slD _ _=>omega
     |slE0 h hx=>omega
     |slE1 h hx=>omega
    obtain⟨i,hE,rfl⟩:=hin
    obtain⟨w',p1,p2,p3⟩:=run_storeCellsA H hE hnew hm1
    refine⟨_,w',E,append_fits hst (fun w=>run_size ok he) hc (by omega) ?_,hvr,p2,p3⟩
    simp only
    rw [add_none,Nat.add_assoc];exact p1
  ·rename_i hgt
   have hgt:¬ sl+n≤sc:=fun hh=>by rw [Nat.ble_eq_true_of_le hh] at hgt;simp at hgt
   unfold growA at h
   obtain⟨r,hr,h1⟩:=oB_some.1 h
   clear h
   have hfirst:∀ old,cellsFrom r (sl*e.inf.size) a.off=some old→firstA m (sl*e.inf.size) sl (.slice (some a) sl sc)=some old:=by
    intro old ho
    unfold firstA
    simp only
    cases hk:sl*e.inf.size with
    |zero=>rw [hk,cellsFrom_zero] at ho;exact ho
    |succ k=>rw [hk] at ho;simp only [hr,oB];exact ho
   have hold:∀ old,cellsFrom r (sl*e.inf.size) a.off=some old→∃ old',VRs E old old'∧∀ w',w'.heap=w.heap→(Builtin.firstCells e.inf.size sl s').run tb.p w'=.ok ⟨old'⟩ w':=fun old ho =>
    run_firstA H rfl hs (fun a l c ex=>by cases ex;exact Nat.le_refl _) (hfirst old ho)
   have sure:∀ c p,s'=.slice p sl c→c≤sc→∀ old,cellsFrom r (sl*e.inf.size) a.off=some old→∀ m1,MR tb.p N w0 E m1 w→m1.next=m.next→MExt m.next E m E m1→newRowV m1 elem (old++new) (sl+n)=some (v,m') →
     WrOk tb N w0 E m w v m' (Builtin.append_ ⟨st::xt::tys⟩ ty #[s',x']):=by
    intro c p hs' hcc old ho m1 H1 hnx hx1 hv
    obtain⟨old',o1,o2⟩:=hold old ho
    simp only [newRowV,Option.some.injEq,Prod.mk.injEq] at hv
    obtain⟨hv,hm⟩:=hv
    exact grow p sl c old old' hs' (by omega) hfit o1 (by rw [← hs'];exact o2 w.drew rfl) m1 H1 hnx hx1 (by rw [← hv,hnx]) hm.symm
   cases hx:r.ext with
   |false =>
    rw [hx] at h1;simp only at h1
    obtain⟨old,ho,h2⟩:=oB_some.1 h1
    have hex:∀ b i,E b=some i→a.block=b→i.extra=0:=by
     intro b i hE hb
     subst hb
     obtain⟨cells,el,fr,q1,q2⟩:=H.row hE hr
     exact (q2.exact' hx).2
    cases hs with
    |sl l c h=>exact sure _ _ rfl (by rw [hex _ _ h rfl];omega) old ho m H rfl (.refl _ _ _) h2
    |slX l c h=>exact sure _ _ rfl (Nat.le_refl _) old ho m H rfl (.refl _ _ _) h2
    |slD _ h=>exact sure _ _ rfl (Nat.le_refl _) old ho m H rfl (.refl _ _ _) h2
    |slE0 h hx=>exact sure _ _ rfl (Nat.le_refl _) old ho m H rfl (.refl _ _ _) h2
    |slE1 h hx=>exact absurd (hex _ _ h rfl) hx
   |true =>
    rw [hx] at h1;simp only at h1
    cases hs with
    | @slX b o i l c hE =>
      simp only at h1
      obtain⟨old,ho,h2⟩:=oB_some.1 h1
      exact sure _ _ rfl (Nat.le_refl _) old ho m H rfl (.refl _ _ _) h2
    | @sl b o i l c hE =>
      simp only at h1
      split at h1<;>first|(simp at h1;done)|skip
      rename_i r2 hfz hrw hck
      obtain⟨old,ho,h2⟩:=oB_some.1 h1
      have hrr:r2=r:=by have:=rowOf_of_rowW hrw;rw [hr] at this;exact (Option.some.inj this).symm
      subst hrr
      simp only [Bool.and_eq_true] at hck
      obtain⟨⟨⟨k1,k2⟩,k3⟩,k4⟩:=hck
      have k1:=Nat.eq_of_beq_eq_true k1
      have k2:=Nat.eq_of_beq_eq_true k2
      have k3:=Nat.eq_of_beq_eq_true k3
      by_cases hroom:sl+n≤sc+i.extra
      ·obtain⟨c1,c2⟩:=cellsFrom_some ho
       simp only [newRowV,Option.some.injEq,Prod.mk.injEq] at h2
       exact inplace b i r2 o sl (sc+i.extra) old hE hrw hfz k2 rfl hroom c2 c1 k3 k4 (by rw [Nat.add_mul];omega) h2.1.symm h2.2.symm
      ·obtain⟨old',o1,o2⟩:=hold old ho
       simp only [newRowV,Option.some.injEq,Prod.mk.injEq] at h2
       exact grow _ sl (sc+i.extra) old old' rfl (by omega) hfit o1 (o2 w.drew rfl) (putObj m b .dead) (H.kill hE hrw) rfl (MExt.kill hE) h2.1.symm h2.2.symm
    | @slD b o s0 i a' hE =>
      simp only at h1
      split at h1
      ·obtain⟨old,ho,h2⟩:=oB_some.1 h1
       exact sure _ _ rfl (Nat.le_refl _) old ho m H rfl (.refl _ _ _) h2
      ·split at h1<;>first|(simp at h1;done)|skip
       rename_i r2 hfz hrw hck
       simp only [newRowV,Option.some.injEq,Prod.mk.injEq] at h1
       exact grow _ 0 0 [] [] rfl (by omega) hfit .nil (by simp only [Builtin.firstCells,Nat.zero_mul];rfl) (putObj m b .dead) (H.kill hE hrw) rfl (MExt.kill hE) (by rw [← h1.1,Nat.zero_add];rfl) h1.2.symm
      ·split at h1<;>first|(simp at h1;done)|skip
       rename_i r2 hfz hrw hck
       obtain⟨old,ho,h2⟩:=oB_some.1 h1
       obtain⟨old',o1,o2⟩:=hold old ho
       simp only [newRowV,Option.some.injEq,Prod.mk.injEq] at h2
       exact grow _ 0 0 old old' rfl (by omega) hfit o1 (o2 w.drew rfl) (putObj m b .dead) (H.kill hE hrw) rfl (MExt.kill hE) h2.1.symm h2.2.symm
    | @slE0 b o k i hE hxx =>
      simp only at h1
      split at h1<;>first|(simp at h1;done)|skip
      rename_i r2 hfz hrw hck
      simp only [newRowV,Option.some.injEq,Prod.mk.injEq] at h1
      exact grow _ 0 0 [] [] rfl (by omega) hfit .nil (by simp only [Builtin.firstCells,Nat.zero_mul];rfl) (putObj m b .dead) (H.kill hE hrw) rfl (MExt.kill hE) (by rw [← h1.1,Nat.zero_add];rfl) h1.2.symm
    | @slE1 b o k i hE hxx =>
      simp only at h1
      split at h1<;>first|(simp at h1;done)|skip
      rename_i r2 hfz hrw hck
      have hrr:r2=r:=by have:=rowOf_of_rowW hrw;rw [hr] at this;exact (Option.some.inj this).symm
      subst hrr
      simp only [Bool.and_eq_true] at hck
      obtain⟨⟨⟨k1,k2⟩,k3⟩,k4⟩:=hck
      have k1:=Nat.eq_of_beq_eq_true k1
      have k2:=Nat.eq_of_beq_eq_true k2
      have k3:=Nat.eq_of_beq_eq_true k3
      simp only [newRowV,Option.some.injEq,Prod.mk.injEq] at h1
      by_cases hroom:0+n≤i.extra
      ·exact inplace b i r2 (o+(k+1)) 0 i.extra [] hE hrw hfz k2 (by rw [Nat.add_assoc]) hroom (by simp) (by simp) k3 k4 (by omega) (by rw [← h1.1,Nat.zero_add];rfl) h1.2.symm
      ·exact grow _ 0 i.extra [] [] rfl (by omega) hfit .nil (by simp only [Builtin.firstCells,Nat.zero_mul];rfl) (putObj m b .dead) (H.kill hE hrw) rfl (MExt.kill hE) (by rw [← h1.1,Nat.zero_add];rfl) h1.2.symm
 ·simp at h
theorem run_appendA (ok:TabsOk tb) (H:MR tb.p N w0 E m w) {tys:List TypeId} {s s' x x' v:Value} {m':Mem} (hs:VR E s s') (hx:VR E x x') (h:appendA tb tys m s x=some (v,m')) (ty:TypeId) :
  WrOk tb N w0 E m w v m' (Builtin.append_ ⟨tys⟩ ty #[s',x']):=by
 unfold appendA at h
 split at h<;>first|(simp at h;done)|skip
 rename_i st xt tys'
 obtain⟨i,hi,h1⟩:=oB_some.1 h
 clear h
 split at h1<;>first|(simp at h1;done)|skip
 rename_i elem hid
 obtain⟨e,he,h2⟩:=oB_some.1 h1
 obtain⟨⟨n,new⟩,ha,h3⟩:=oB_some.1 h2
 clear h1 h2
 simp only at h3
 split at h3<;>first|(simp at h3;done)|skip
 rename_i k1 k2 hsz hby hz hfit
 obtain⟨new',r1,r2⟩:=run_appended ok H he hx ha
 exact run_appendTo ok H hi hid he hs r1 r2 (by omega) (by omega) hz hfit (appended_nil ha) h3 tys' ty
end
end Go.Ev

