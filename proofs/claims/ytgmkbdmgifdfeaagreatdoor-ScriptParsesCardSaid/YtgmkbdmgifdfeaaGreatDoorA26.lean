/- A part of a proof: ScriptParses. -/
import Derived.Test.YtgmkbdmgifdfeaaGreatDoorA25
set_option linter.unusedVariables false
set_option linter.unusedSimpArgs false
set_option maxRecDepth 8000
namespace Go.Proofs.YtgmkbdmgifdfeaaGreatDoor
open Go Go.Ev
structure Fs where
 ints:List Int
 nats:List Int
 way:Int
 text:List UInt8
def fs0:Fs:=⟨[],[],0,[]⟩
def rdOne (c:UInt8) (w:List UInt8) (f:Fs):Option Fs :=
 if c=105 then (intOf w).map fun v => { f with ints:=f.ints++[v] }
 else if c=110 then (longOf w).map fun v => { f with nats:=f.nats++[v] }
 else if c=109 then (maskOf w).map fun v => { f with nats:=f.nats++[v] }
 else if c=119 then (wayOf w).map fun v => { f with way:=v }
 else if c=116 then (textOf w).map fun v => { f with text:=v }
 else none
def readGo:List UInt8→List (List UInt8)→Fs→Option Fs
 | [],[],f=>some f
 |c::cs,w::ws,f=>(rdOne c w f).bind (readGo cs ws)
 |_,_,_=>none
def readF (form:List UInt8) (ws:List (List UInt8)):Option Fs :=
 if form=[99] then (allInts ws).map fun l => { fs0 with ints:=l } else readGo form ws fs0
theorem readGo_len:∀ (cs:List UInt8) (ws:List (List UInt8)) (f:Fs),cs.length≠ws.length→readGo cs ws f=none
 | [],[],_,h=>absurd rfl h
 | [],_::_,_,_=>rfl
 |_::_,[],_,_=>rfl
 |c::cs,w::ws,f,h=>by
  rw [readGo]
  cases rdOne c w f with
  |none=>rfl
  |some g=>exact readGo_len cs ws g (by simpa using h)
def u64s (l:List Int):List Value:=l.map fun n=>.int .u64 n
@[simp] theorem u64s_length (l:List Int):(u64s l).length=l.length:=by simp [u64s]
theorem app1u {n0:Nat} {m:Mem} {v:Value} {o:List Int} (h:Own n0 m v 22 o.length (u64s o)) (hn:n0≤m.next) (c:Int) :
  ∃ aw v' m3,v=.slice aw o.length o.length∧appendTo (newObjA m (.row ⟨T.setL [.int .u64 c] 0 .lf,1,[.int .u64 0],22,.none,false⟩)) 22 1 (.slice aw o.length o.length) 1 [.int .u64 c]=some (v',m3)∧Own n0 m3 v' 22 (o++[c]).length (u64s (o++[c]))∧Old n0 m m3∧(∀ x,x<m.next→blkV v≠some x→m3.objs.get x=m.objs.get x):=by
 obtain⟨aw,rfl⟩:=h.shape
 obtain⟨v',m3,h5,h6,h7,h8,b,hb1,hb2⟩:=h.append (k:=0) (sz:=1) (new:=[.int .u64 c]) ((Old.refl _ m).new (Nat.le_refl _) (.row ⟨T.setL [.int .u64 c] 0 .lf,1,[.int .u64 0],22,.none,false⟩)) hn (by simp) (by simp) (by simp)
 have e1:u64s (o++[c])=u64s o++[.int .u64 c]:=by simp [u64s]
 exact⟨aw,v',m3,rfl,h5,by rw [e1,List.length_append];exact h6,((Old.refl n0 m).new hn _).trans h8,fun x hx hb=>by rw [h7.2 x (by rw [next_newObjA];omega) hb,get_newObjA,if_neg (by omega)]⟩
def FsAt (n0:Nat) (m:Mem) (p:Nat) (f:Fs):Prop :=
 ∃ vi vn vt,vw m p=some ⟨true,141,false,[vi,vn,.int .i64 f.way,vt]⟩∧Own n0 m vi 3 f.ints.length (i64s f.ints)∧Own n0 m vn 22 f.nats.length (u64s f.nats)∧Own n0 m vt 5 f.text.length (u8s f.text)
def FsV (n0:Nat) (m:Mem) (f:Fs) (v:Value):Prop :=
 ∃ vi vn vt,v=.agg ⟨[vi,vn,.int .i64 f.way,vt]⟩∧Own n0 m vi 3 f.ints.length (i64s f.ints)∧Own n0 m vn 22 f.nats.length (u64s f.nats)∧Own n0 m vt 5 f.text.length (u8s f.text)
theorem WordsV.get {m:Mem} {p:Nat} {v:Value} {ws:List (List UInt8)} (h:WordsV m p v ws) {k:Nat} {w:List UInt8} (hw:ws[k]? = some w) :
  ∃ b o all,v=.slice (some ⟨b,o,none⟩) ws.length ws.length∧b<p∧vw m b=some ⟨true,9,true,strsV all⟩∧(strsV all)[o+k]? = some (.string ⟨⟨w⟩⟩)∧o+k<all.length:=by
 obtain⟨hk,he⟩:=List.getElem?_eq_some_iff.1 hw
 rcases h with ⟨_,rfl⟩|⟨b,all,h1,h2,⟨o,rfl,h3⟩|⟨rfl,_⟩⟩
 ·simp at hk
 ·have h4:all[o+k]? = some w:=by rw [← List.getElem?_drop,← h3];exact hw
  exact⟨b,o,all,rfl,h1,h2,by rw [strsV_get,h4];rfl,(List.getElem?_eq_some_iff.1 h4).1⟩
 ·simp at hk
theorem WordsV.shape {m:Mem} {p:Nat} {v:Value} {ws:List (List UInt8)} (h:WordsV m p v ws):∃ a,v=.slice a ws.length ws.length:=by
 rcases h with ⟨rfl,rfl⟩|⟨b,all,h1,h2,⟨o,rfl,h3⟩|⟨rfl,o,k,rfl⟩⟩<;>exact⟨_,rfl⟩
theorem resX_ct {l:List Value} {m:Mem} {i j b:Nat} {t:TypeId} {v:Value} (h:gx l i=.pointer (some ⟨b,0,none⟩)) (hv:loadA tb t m b 0=some v):resX tb [.cell i t,.tmp j] l m=some (.tuple ⟨[v,gx l j]⟩):=by
 have h1:=slots_ofList l i
 have h2:=slots_ofList l j
 rw [gx_eq] at h1 h2
 simp only [ev] at h1 h2
 have h3:(T.ofList l).get i=some (.pointer (some ⟨b,0,none⟩)):=by
  cases hg:(T.ofList l).get i with
  |none=>rw [hg,h] at h1;cases h1
  |some x=>rw [hg,h] at h1;rw [show x=_ from h1]
 simp only [resX,resA,h3,oB,hv,h2]
structure RdI (m0 m:Mem) (f:Fs):Prop where
 old:Old m0.next m0 m
 nx:m0.next+2≤m.next
 p4:∃ a b c d,vw m m0.next=some ⟨true,141,false,[a,b,c,d]⟩
 fs:FsAt m0.next m (m0.next+1) f
theorem RdI.int1 {m0 m:Mem} {f:Fs} (h:RdI m0 m f) (c:Int):∃ aw vn vt aw1 m3,
  vw m (m0.next+1)=some ⟨true,141,false,[.slice aw f.ints.length f.ints.length,vn,.int .i64 f.way,vt]⟩ ∧
  appendTo (newObjA m (.row ⟨T.setL [.int .i64 c] 0 .lf,1,[.int .i64 0],3,.none,false⟩)) 3 1 (.slice aw f.ints.length f.ints.length) 1 [.int .i64 c]=some (.slice aw1 (f.ints.length+1) (f.ints.length+1),m3) ∧
  vw m3 (m0.next+1)=some ⟨true,141,false,[.slice aw f.ints.length f.ints.length,vn,.int .i64 f.way,vt]⟩ ∧
  RdI m0 (stM m3 (m0.next+1) 0 [.slice aw1 (f.ints.length+1) (f.ints.length+1)]) { f with ints:=f.ints++[c] }:=by
 obtain⟨hO,hnx,⟨a4,b4,c4,d4,h4⟩,vi,vn,vt,h1,h2,h3,h5⟩:=h
 obtain⟨aw,v',m3,rfl,g1,g2,g3,g4,-⟩:=app1i h2 hO.1 c
 obtain⟨aw1,rfl⟩:=g2.shape
 simp only [List.length_append,List.length_cons,List.length_nil,Nat.zero_add] at g1 g2
 have hne:∀ x V,vw m x=some V→V.elem≠3→blkV (.slice aw f.ints.length f.ints.length)≠some x:=fun x V hV he=>by
  rcases h2 with ⟨e,_⟩|⟨b,e,_,_,hb⟩
  ·rw [e];intro h;cases h
  ·rw [e];intro h
   have:b=x:=Option.some.inj h
   subst this;rw [hb] at hV;cases hV;exact he rfl
 have vk:∀ x V,x<m.next→vw m x=some V→V.elem≠3→vw m3 x=some V:=fun x V hx hV he=>by
  have:=g4 x hx (hne x V hV he)
  unfold vw at hV ⊢;rw [this];exact hV
 have h13:=vk _ _ (by omega) h1 (by intro e;cases e)
 refine⟨aw,vn,vt,aw1,m3,h1,g1,h13,⟨?_,?_,?_,?_⟩⟩
 ·have:=hO.trans g3
  exact⟨by rw [stM_next];exact this.1,fun x hx=>by rw [stM_get (by omega)];exact this.2 x hx⟩
 ·rw [stM_next];have:=g3.1;omega
 ·exact⟨a4,b4,c4,d4,by rw [vw_stM_ne (by omega)];exact vk _ _ (by omega) h4 (by intro e;cases e)⟩
 ·have own:∀ {v:Value} {e:TypeId} {n:Nat} {cs:List Value},Own m0.next m3 v e n cs→Own m0.next (stM m3 (m0.next+1) 0 [.slice aw1 (f.ints.length+1) (f.ints.length+1)]) v e n cs:=fun ho=>by
   refine ho.ex (by rw [stM_next];exact Nat.le_refl _) fun x hx h0 hV=>stM_get fun e=>?_
   subst e;rw [h13] at hV;cases hV
  have own2:∀ {v:Value} {e:TypeId} {n:Nat} {cs:List Value},e≠3→Own m0.next m v e n cs→Own m0.next m3 v e n cs:=fun he ho=>by
   refine ho.ex g3.1 fun x hx h0 hV=>g4 x hx (hne x _ hV he)
  refine⟨.slice aw1 (f.ints.length+1) (f.ints.length+1),vn,vt,?_,own (by simpa using g2),own (own2 (by decide) h3),own (own2 (by decide) h5)⟩
  rw [vw_stM_eq h13 (stOk_one rfl (by simp) rfl)];rfl
theorem RdI.nat1 {m0 m:Mem} {f:Fs} (h:RdI m0 m f) (c:Int):∃ aw vi vt aw1 m3,
  vw m (m0.next+1)=some ⟨true,141,false,[vi,.slice aw f.nats.length f.nats.length,.int .i64 f.way,vt]⟩ ∧
  appendTo (newObjA m (.row ⟨T.setL [.int .u64 c] 0 .lf,1,[.int .u64 0],22,.none,false⟩)) 22 1 (.slice aw f.nats.length f.nats.length) 1 [.int .u64 c]=some (.slice aw1 (f.nats.length+1) (f.nats.length+1),m3) ∧
  vw m3 (m0.next+1)=some ⟨true,141,false,[vi,.slice aw f.nats.length f.nats.length,.int .i64 f.way,vt]⟩ ∧
  RdI m0 (stM m3 (m0.next+1) 1 [.slice aw1 (f.nats.length+1) (f.nats.length+1)]) { f with nats:=f.nats++[c] }:=by
 obtain⟨hO,hnx,⟨a4,b4,c4,d4,h4⟩,vi,vn,vt,h1,h2,h3,h5⟩:=h
 obtain⟨aw,v',m3,rfl,g1,g2,g3,g4⟩:=app1u h3 hO.1 c
 obtain⟨aw1,rfl⟩:=g2.shape
 simp only [List.length_append,List.length_cons,List.length_nil,Nat.zero_add] at g1 g2
 have hne:∀ x V,vw m x=some V→V.elem≠22→blkV (.slice aw f.nats.length f.nats.length)≠some x:=fun x V hV he=>by
  rcases h3 with ⟨e,_⟩|⟨b,e,_,_,hb⟩
  ·rw [e];intro h;cases h
  ·rw [e];intro h
   have:b=x:=Option.some.inj h
   subst this;rw [hb] at hV;cases hV;exact he rfl
 have vk:∀ x V,x<m.next→vw m x=some V→V.elem≠22→vw m3 x=some V:=fun x V hx hV he=>by
  have:=g4 x hx (hne x V hV he)
  unfold vw at hV ⊢;rw [this];exact hV
 have h13:=vk _ _ (by omega) h1 (by intro e;cases e)
 refine⟨aw,vi,vt,aw1,m3,h1,g1,h13,⟨?_,?_,?_,?_⟩⟩
 ·have:=hO.trans g3
  exact⟨by rw [stM_next];exact this.1,fun x hx=>by rw [stM_get (by omega)];exact this.2 x hx⟩
 ·rw [stM_next];have:=g3.1;omega
 ·exact⟨a4,b4,c4,d4,by rw [vw_stM_ne (by omega)];exact vk _ _ (by omega) h4 (by intro e;cases e)⟩
 ·have own:∀ {v:Value} {e:TypeId} {n:Nat} {cs:List Value},Own m0.next m3 v e n cs→Own m0.next (stM m3 (m0.next+1) 1 [.slice aw1 (f.nats.length+1) (f.nats.length+1)]) v e n cs:=fun ho=>by
   refine ho.ex (by rw [stM_next];exact Nat.le_refl _) fun x hx h0 hV=>stM_get fun e=>?_
   subst e;rw [h13] at hV;cases hV
  have own2:∀ {v:Value} {e:TypeId} {n:Nat} {cs:List Value},e≠22→Own m0.next m v e n cs→Own m0.next m3 v e n cs:=fun he ho=>by
   refine ho.ex g3.1 fun x hx h0 hV=>g4 x hx (hne x _ hV he)
  refine⟨vi,.slice aw1 (f.nats.length+1) (f.nats.length+1),vt,?_,own (own2 (by decide) h2),own (by simpa using g2),own (own2 (by decide) h5)⟩
  rw [vw_stM_eq h13 (stOk_one rfl (by simp) rfl)];rfl
theorem RdI.way1 {m0 m:Mem} {f:Fs} (h:RdI m0 m f) (z:Int):(∃ vi vn vt,vw m (m0.next+1)=some ⟨true,141,false,[vi,vn,.int .i64 f.way,vt]⟩)∧RdI m0 (stM m (m0.next+1) 2 [.int .i64 z]) { f with way:=z }:=by
 obtain⟨hO,hnx,⟨a4,b4,c4,d4,h4⟩,vi,vn,vt,h1,h2,h3,h5⟩:=h
 refine⟨⟨vi,vn,vt,h1⟩,⟨?_,?_,?_,?_⟩⟩
 ·exact⟨by rw [stM_next];exact hO.1,fun x hx=>by rw [stM_get (by omega)];exact hO.2 x hx⟩
 ·rw [stM_next];omega
 ·exact⟨a4,b4,c4,d4,by rw [vw_stM_ne (by omega)];exact h4⟩
 ·have own:∀ {v:Value} {e:TypeId} {n:Nat} {cs:List Value},Own m0.next m v e n cs→Own m0.next (stM m (m0.next+1) 2 [.int .i64 z]) v e n cs:=fun ho=>by
   refine ho.ex (by rw [stM_next];exact Nat.le_refl _) fun x hx h0 hV=>stM_get fun e=>?_
   subst e;rw [h1] at hV;cases hV
  refine⟨vi,vn,vt,?_,own h2,own h3,own h5⟩
  rw [vw_stM_eq h1 (stOk_one rfl (by simp) rfl)];rfl
theorem RdI.text1 {m0 m m3:Mem} {f:Fs} {v:Value} {s:List UInt8} (h:RdI m0 m f) (hO:Old m.next m m3) (hv:Own m0.next m3 v 5 s.length (u8s s)):(∃ vi vn vt,vw m3 (m0.next+1)=some ⟨true,141,false,[vi,vn,.int .i64 f.way,vt]⟩)∧RdI m0 (stM m3 (m0.next+1) 3 [v]) { f with text:=s }:=by
 obtain⟨hO0,hnx,⟨a4,b4,c4,d4,h4⟩,vi,vn,vt,h1,h2,h3,h5⟩:=h
 have h13:vw m3 (m0.next+1)=some ⟨true,141,false,[vi,vn,.int .i64 f.way,vt]⟩:=by rw [hO.vw (by omega)];exact h1
 refine⟨⟨vi,vn,vt,h13⟩,⟨?_,?_,?_,?_⟩⟩
 ·have:=hO0.trans (hO.le hO0.1)
  exact⟨by rw [stM_next];exact this.1,fun x hx=>by rw [stM_get (by omega)];exact this.2 x hx⟩
 ·rw [stM_next];have:=hO.1;omega
 ·exact⟨a4,b4,c4,d4,by rw [vw_stM_ne (by omega),hO.vw (by omega)];exact h4⟩
 ·have own:∀ {v':Value} {e:TypeId} {n:Nat} {cs:List Value},Own m0.next m3 v' e n cs→Own m0.next (stM m3 (m0.next+1) 3 [v]) v' e n cs:=fun ho=>by
   refine ho.ex (by rw [stM_next];exact Nat.le_refl _) fun x hx h0 hV=>stM_get fun e=>?_
   subst e;rw [h13] at hV;cases hV
  have own2:∀ {v':Value} {e:TypeId} {n:Nat} {cs:List Value},Own m0.next m v' e n cs→Own m0.next m3 v' e n cs:=fun ho =>
   ho.ex hO.1 fun x hx h0 hV=>hO.2 x hx
  obtain⟨a,rfl⟩:=hv.shape
  refine⟨vi,vn,.slice a s.length s.length,?_,own (own2 h2),own (own2 h3),own hv⟩
  rw [vw_stM_eq h13 (stOk_one rfl (by simp) rfl)];rfl
def fsC (f:Fs) (a1 a2 a3:Option Addr):List Value:=[.slice a1 f.ints.length f.ints.length,.slice a2 f.nats.length f.nats.length,.int .i64 f.way,.slice a3 f.text.length f.text.length]
theorem RdI.fin {m0 m:Mem} {f:Fs} (h:RdI m0 m f):∃ a1 a2 a3 a4 b4 c4 d4,vw m (m0.next+1)=some ⟨true,141,false,fsC f a1 a2 a3⟩∧vw m m0.next=some ⟨true,141,false,[a4,b4,c4,d4]⟩∧loadA tb 141 (stM m m0.next 0 (fsC f a1 a2 a3)) m0.next 0=some (.agg ⟨fsC f a1 a2 a3⟩) ∧
  Old m0.next m0 (stM m m0.next 0 (fsC f a1 a2 a3))∧FsV m0.next (stM m m0.next 0 (fsC f a1 a2 a3)) f (.agg ⟨fsC f a1 a2 a3⟩):=by
 obtain⟨hO,hnx,⟨a4,b4,c4,d4,h4⟩,vi,vn,vt,h1,h2,h3,h5⟩:=h
 obtain⟨a1,rfl⟩:=h2.shape
 obtain⟨a2,rfl⟩:=h3.shape
 obtain⟨a3,rfl⟩:=h5.shape
 have hst:stOk ⟨true,141,false,[a4,b4,c4,d4]⟩ 0 (fsC f a1 a2 a3)=true:=by
  simp [stOk,oneC,fsC]
 refine⟨a1,a2,a3,a4,b4,c4,d4,h1,h4,?_,?_,.slice a1 f.ints.length f.ints.length,.slice a2 f.nats.length f.nats.length,.slice a3 f.text.length f.text.length,rfl,?_,?_,?_⟩
 ·rw [loadA_all Ty.ti141 Ty.g141 (vw_stM_eq h4 hst) (by rw [Ty.s141];rfl)];rfl
 ·exact⟨by rw [stM_next];exact hO.1,fun x hx=>by rw [stM_get (by omega)];exact hO.2 x hx⟩
 all_goals
  refine Own.ex (by assumption) (by rw [stM_next];exact Nat.le_refl _) fun x hx h0 hV=>stM_get fun e=>?_
  subst e;rw [h4] at hV;cases hV
end Go.Proofs.YtgmkbdmgifdfeaaGreatDoor

set_option maxRecDepth 8000
namespace Go.Proofs.YtgmkbdmgifdfeaaGreatDoor
open Go Go.Ev
def ReadFR (form:List UInt8) (ws:List (List UInt8)) (m:Mem) (r:Value) (m':Mem):Prop :=
 ∃ f a1 a2 a3 ok,r=.tuple ⟨[.agg ⟨fsC f a1 a2 a3⟩,.bool ok]⟩∧Old m.next m m'∧(ok=true→readF form ws=some f∧FsV m.next m' f (.agg ⟨fsC f a1 a2 a3⟩))∧(ok=false→readF form ws=none)
theorem rread_ok {m:Mem} {form:List UInt8} {v:Value} {ws:List (List UInt8)} (hW:WordsV m m.next v ws) (hl:ws.length≤2000000) (hlw:∀ w∈ws,w.length≤2000000) (hf:form.length≤20) :
  CallsA tb 78 [.string ⟨⟨form⟩⟩,v] m (retR (ReadFR form ws m)):=by
 refine callsS Tryz.func78 e78 rfl rfl ?_
 simp only [s78,List.replicate,List.length_cons,List.length_nil,List.cons_append,List.nil_append,Nat.reduceAdd,Nat.reduceSub]
 obtain⟨av,rfl⟩:=hW.shape
 refine xsr fun Q' hQ=>?_
 simp
 subst hQ
 refine xsr fun Q' hQ=>?_
 simp
 subst hQ
 obtain⟨r0,hr0⟩:∃ r0,r0=m.next:=⟨_,rfl⟩
 obtain⟨mA,hmA⟩:∃ mA,mA=(Ev.stM (newObjA (newObjA m (zeroObj 141 4 [Value.slice none 0 0,Value.slice none 0 0,Value.int IntKind.i64 0,Value.slice none 0 0])) (zeroObj 141 4 [Value.slice none 0 0,Value.slice none 0 0,Value.int IntKind.i64 0,Value.slice none 0 0])) (m.next+1) 0 [Value.slice none 0 0,Value.slice none 0 0,Value.int IntKind.i64 0,Value.slice none 0 0]):=⟨_,rfl⟩
 rw [← hmA]
 have hI0:RdI m mA fs0:=by
  have hz:∀ (m:Mem) (x:Nat),x=m.next→vw (newObjA m (zeroObj 141 4 [Value.slice none 0 0,Value.slice none 0 0,Value.int IntKind.i64 0,Value.slice none 0 0])) x=some ⟨true,141,false,[Value.slice none 0 0,Value.slice none 0 0,Value.int IntKind.i64 0,Value.slice none 0 0]⟩:=by
   rintro m x rfl
   rw [vw_new,if_pos rfl];exact vwO_zero1 141 [Value.slice none 0 0,Value.slice none 0 0,Value.int IntKind.i64 0,Value.slice none 0 0]
  subst hmA
  have h1:vw (newObjA (newObjA m (zeroObj 141 4 [Value.slice none 0 0,Value.slice none 0 0,Value.int IntKind.i64 0,Value.slice none 0 0])) (zeroObj 141 4 [Value.slice none 0 0,Value.slice none 0 0,Value.int IntKind.i64 0,Value.slice none 0 0])) (m.next+1)=some ⟨true,141,false,[Value.slice none 0 0,Value.slice none 0 0,Value.int IntKind.i64 0,Value.slice none 0 0]⟩:=hz _ _ rfl
  refine⟨(((Old.refl _ _).new (Nat.le_refl _) _).new (by rw [next_newObjA];omega) _).st (by omega) _ _,by rw [stM_next,next_newObjA,next_newObjA];omega,⟨.slice none 0 0,.slice none 0 0,.int .i64 0,.slice none 0 0,?_⟩,.slice none 0 0,.slice none 0 0,.slice none 0 0,?_,.inl ⟨rfl,rfl,rfl⟩,.inl ⟨rfl,rfl,rfl⟩,.inl ⟨rfl,rfl,rfl⟩⟩
  ·rw [vw_stM_ne (by omega),vw_new,if_neg (by rw [next_newObjA];omega)];exact hz _ _ rfl
  ·rw [vw_stM_eq h1 (by simp [stOk,oneC])];rfl
 have hfs:fs0.ints=[]∧fs0.nats=[]∧fs0.way=0∧fs0.text=[]:=⟨rfl,rfl,rfl,rfl⟩
 clear hmA
 have done:∀ {m1:Mem} {f:Fs} {ok:Bool},RdI m m1 f→(ok=true→readF form ws=some f)→(ok=false→readF form ws=none)→∃ a1 a2 a3 a4 b4 c4 d4,vw m1 (m.next+1)=some ⟨true,141,false,fsC f a1 a2 a3⟩∧vw m1 m.next=some ⟨true,141,false,[a4,b4,c4,d4]⟩ ∧
   ∀ {l:List Value},(∃ x0 x1 x2 x3 ts,l=x0::x1::x2::x3::.pointer (some ⟨m.next,0,none⟩)::.bool ok::ts)→endX tb Tryz.f78.results.toList (retR (ReadFR form ws m)) (.jump .ret) l [] (stM m1 m.next 0 (fsC f a1 a2 a3)):=by
  intro m1 f ok hI h1 h0
  obtain⟨a1,a2,a3,a4,b4,c4,d4,g1,g2,g3,g4,g5⟩:=hI.fin
  refine⟨a1,a2,a3,a4,b4,c4,d4,g1,g2,?_⟩
  rintro l ⟨x0,x1,x2,x3,ts,rfl⟩
  refine⟨rfl,_,resX_ct (i:=4) (j:=5) rfl g3,f,a1,a2,a3,ok,rfl,g4,fun h=>⟨h1 h,g5⟩,h0⟩
 refine xseqN (fun l ds m'=>ds=[]∧m'=mA∧form≠[99]∧Sl [.string ⟨⟨form⟩⟩,.slice av ws.length ws.length,undef,undef,.pointer (some ⟨m.next,0,none⟩),.bool false,.pointer (some ⟨m.next+1,0,none⟩)] 138 l) ?_ ?_
 rotate_left
 ·refine xsr fun Q' hQ=>?_
  by_cases hc:form=[99]
  rotate_left
  ·simp [hc]
   subst hQ
   refine xno (by simp [hc]) (xskip ?_)
   exact⟨rfl,rfl,hc,Sl.mk rfl rfl⟩
  have hrf:readF form ws=(allInts ws).map fun l => { fs0 with ints:=l }:=by unfold readF;rw [if_pos hc]
  simp [hc]
  subst hQ
  refine xyes (by simp) ?_
  refine xseqN (fun l ds m'=>ds=[]∧∃ f x7 x8 x9,RdI m m' f∧readF form ws=some f∧Sl [.string ⟨⟨[99]⟩⟩,.slice av ws.length ws.length,undef,undef,.pointer (some ⟨m.next,0,none⟩),.bool false,.pointer (some ⟨m.next+1,0,none⟩),x7,x8,x9] 135 l) ?_ ?_
  ·rintro l ds m1 ⟨rfl,f,x7,x8,x9,hI,hf,ts,hts,rfl⟩
   obtain⟨a1,a2,a3,a4,b4,c4,d4,g1,g2,g3⟩:=done (ok:=true) hI (fun _=>hf) (fun h=>by cases h)
   simp only [fsC] at g1 g3
   refine xsr fun Q' hQ=>?_
   simp [hts,g1,g2,fsC]
   subst hQ
   refine xret (g3 ?_)
   exact⟨_,_,_,_,_,rfl⟩
  refine xsr fun Q' hQ=>?_
  simp
  subst hQ
  refine xblock (xwhile (N:=ws.length) (I:=fun q l ds m1=>∃ (k:Nat) (a:List Int) (x8 x9:Value),q=ws.length-k∧k≤ws.length∧ds=[]∧RdI m m1 { fs0 with ints:=a }∧a.length=k∧allInts ws=(allInts (ws.drop k)).map (a ++ ·)∧Sl [.string ⟨⟨[99]⟩⟩,.slice av ws.length ws.length,undef,undef,.pointer (some ⟨m.next,0,none⟩),.bool false,.pointer (some ⟨m.next+1,0,none⟩),.int .i64 (k:Nat),x8,x9] 135 l) ?_ ?_)
  ·exact⟨0,[],_,_,rfl,by omega,rfl,hI0,rfl,by simp,Sl.mk rfl rfl⟩
  rintro q l ds m1 ⟨k,a,x8,x9,rfl,hk,rfl,hI,hal,hai,us,hus,rfl⟩
  refine xseq (xseq (xregQ fun Q' hQ=>?_))
  simp [hus]
  subst hQ
  refine xif (v:=decide ((k:Int)<(ws.length:Int))) (by simp [hus]) (fun h=>xskip ?_) (fun h=>xexit ?_)
  rotate_left
  ·simp only [decide_eq_false_iff_not] at h
   obtain rfl:k=ws.length:=by omega
   rw [List.drop_length] at hai
   exact⟨rfl,_,_,_,_,hI,by rw [hrf,hai];simp [allInts],Sl.mk rfl (by simp [hus])⟩
  simp only [decide_eq_true_eq] at h
  have hkl:k<ws.length:=by omega
  obtain⟨w,hw⟩:∃ w,ws[k]? = some w:=⟨_,List.getElem?_eq_getElem hkl⟩
  have hwl:=hlw w (List.mem_of_getElem? hw)
  obtain⟨b,o,all,hav,hb,hvb,hel,hol⟩:=hW.get hw
  obtain rfl:av=some ⟨b,o,none⟩:=by cases hav;rfl
  have hvb1:vw m1 b=some ⟨true,9,true,strsV all⟩:=by rw [hI.old.vw hb];exact hvb
  have hdr:ws.drop k=w::ws.drop (k+1):=by
   obtain⟨h1,h2⟩:=List.getElem?_eq_some_iff.1 hw
   rw [List.drop_eq_getElem_cons h1,h2]
  rw [hdr] at hai
  rw [thenA_normal]
  obtain⟨k1,hk1⟩:∃ k1,k1=k+1:=⟨_,rfl⟩
  have hw1:IntKind.wrap .i64 ((k:Int)+1)=(k1:Int):=by rw [wr64 _ (by omega) (by omega)];omega
  refine xseqN (fun l ds m'=>ds=[]∧∃ (a:List Int) (x8 x9:Value),RdI m m' { fs0 with ints:=a }∧a.length=k1∧allInts ws=(allInts (ws.drop k1)).map (a ++ ·)∧Sl [.string ⟨⟨[99]⟩⟩,.slice (some ⟨b,o,none⟩) ws.length ws.length,undef,undef,.pointer (some ⟨m.next,0,none⟩),.bool false,.pointer (some ⟨m.next+1,0,none⟩),.int .i64 (k:Nat),x8,x9] 135 l) ?_ ?_
  ·rintro l ds m3 ⟨rfl,a,x8,x9,hI,hal,hai,vs,hvs,rfl⟩
   refine xregQ fun Q' hQ=>?_
   simp [hvs,hw1]
   subst hQ
   exact⟨ws.length-k1,by omega,k1,a,_,_,rfl,by omega,rfl,hI,hal,hai,Sl.mk rfl (by simp [hvs])⟩
  refine xblock (xseq (xregQ fun Q' hQ=>?_))
  simp [hus,hkl,hvb1,hel,hol]
  refine xcall (ov_none (by decide)) (rinteger_ok hwl) ?_ (fun ch m' h=>h.elim)
  rintro r m2 ⟨rfl,z,ok,rfl,hz1,hz2,h1,h2⟩
  simp [hus]
  subst hQ
  cases ok with
  |false =>
   refine xseq (xseq (xregQ fun Q' hQ=>?_))
   simp [hus]
   subst hQ
   refine xyes (by simp [hus]) ?_
   obtain⟨a1,a2,a3,a4,b4,c4,d4,g1,g2,g3⟩:=done (ok:=false) hI (fun h=>by cases h) (fun _=>by rw [hrf,hai,allInts,h2 rfl];rfl)
   simp only [fsC] at g1 g3
   refine xsr fun Q' hQ=>?_
   simp [hus,g1,g2,fsC]
   subst hQ
   refine xret (g3 ?_)
   exact⟨_,_,_,_,_,rfl⟩
  |true =>
   refine xseq (xseq (xregQ fun Q' hQ=>?_))
   simp [hus]
   subst hQ
   refine xno (by simp [hus]) (xskip ?_)
   rw [thenA_normal]
   obtain⟨aw,vn,vt,aw1,m3,g1,g2,g3,hI3⟩:=hI.int1 z
   refine xregQ fun Q' hQ=>?_
   simp only at g1 g2 g3
   simp [hus,g1,fits_true _ a.length a.length 1 8 (by omega),g2,g3,stOk,oneC]
   subst hQ
   refine⟨rfl,a++[z],_,_,hI3,by simp;omega,?_,Sl.mk rfl (by simp [hus])⟩
   rw [hai,allInts,h1 rfl,hk1];simp [Option.map_map,Function.comp_def]
 rintro l ds m1 ⟨rfl,rfl,hc,ts,hts,rfl⟩
 have hrf:readF form ws=readGo form ws fs0:=by unfold readF;rw [if_neg hc]
 refine xseqN (fun l ds m'=>ds=[]∧m'=m1∧form.length=ws.length∧Sl [.string ⟨⟨form⟩⟩,.slice av ws.length ws.length,undef,undef,.pointer (some ⟨m.next,0,none⟩),.bool false,.pointer (some ⟨m.next+1,0,none⟩)] 138 l) ?_ ?_
 rotate_left
 ·refine xsr fun Q' hQ=>?_
  by_cases he:ws.length=form.length
  ·simp [hts,he]
   subst hQ
   refine xno (by simp [hts]) (xskip ?_)
   exact⟨rfl,rfl,he.symm,Sl.mk (by simp [he]) (by simp [hts])⟩
  ·have he':¬ (ws.length:Int)=(form.length:Int):=by omega
   simp [hts,he']
   subst hQ
   refine xyes (by simp [hts]) ?_
   obtain⟨a1,a2,a3,a4,b4,c4,d4,g1,g2,g3⟩:=done (ok:=false) hI0 (fun h=>by cases h) (fun _=>by rw [hrf,readGo_len _ _ _ (fun e=>he e.symm)])
   simp only [fsC] at g1 g3
   refine xsr fun Q' hQ=>?_
   simp [hts,g1,g2,fsC]
   subst hQ
   refine xret (g3 ?_)
   exact⟨_,_,_,_,_,rfl⟩
 clear hts
 rintro l ds m1 ⟨rfl,rfl,hlen,ts,hts,rfl⟩
 refine xseqN (fun l ds m'=>ds=[]∧∃ f x7 x8 x9,RdI m m' f∧readF form ws=some f∧Sl [.string ⟨⟨form⟩⟩,.slice av ws.length ws.length,undef,undef,.pointer (some ⟨m.next,0,none⟩),.bool false,.pointer (some ⟨m.next+1,0,none⟩),x7,x8,x9] 135 l) ?_ ?_
 ·rintro l ds m1 ⟨rfl,f,x7,x8,x9,hI,hf,ts,hts,rfl⟩
  obtain⟨a1,a2,a3,a4,b4,c4,d4,g1,g2,g3⟩:=done (ok:=true) hI (fun _=>hf) (fun h=>by cases h)
  simp only [fsC] at g1 g3
  refine xsr fun Q' hQ=>?_
  simp [hts,g1,g2,fsC]
  subst hQ
  refine xret (g3 ?_)
  exact⟨_,_,_,_,_,rfl⟩
 obtain⟨x7,ts7,rfl,hts7⟩:=ln_succ (n:=137) hts
 obtain⟨x8,ts8,rfl,hts8⟩:=ln_succ (n:=136) hts7
 obtain⟨x9,ts9,rfl,hts9⟩:=ln_succ (n:=135) hts8
 refine xsr fun Q' hQ=>?_
 simp [hts9]
 subst hQ
 obtain⟨y10,ts10,rfl,hts10⟩:=ln_succ (n:=134) hts9
 refine xblock (xwhile (N:=ws.length) (I:=fun q l ds m1=>∃ (k:Nat) (f:Fs),q=ws.length-k∧k≤ws.length∧ds=[]∧RdI m m1 f∧f.ints.length≤k∧f.nats.length≤k∧readF form ws=readGo (form.drop k) (ws.drop k) f∧Sl [.string ⟨⟨form⟩⟩,.slice av ws.length ws.length,undef,undef,.pointer (some ⟨m.next,0,none⟩),.bool false,.pointer (some ⟨m.next+1,0,none⟩),x7,x8,x9,.int .i64 (k:Nat)] 134 l) ?_ ?_)
 ·exact⟨0,fs0,rfl,by omega,rfl,hI0,by simp [fs0],by simp [fs0],hrf,Sl.mk rfl (by simp [hts10])⟩
 clear hts hts7 hts8 hts9 hts10
 rintro q l ds m1 ⟨k,f,rfl,hk,rfl,hI,hfi,hfn,hrg,us,hus,rfl⟩
 refine xseq (xseq (xregQ fun Q' hQ=>?_))
 simp [hus]
 subst hQ
 refine xif (v:=decide ((k:Int)<(ws.length:Int))) (by simp [hus]) (fun h=>xskip ?_) (fun h=>xexit ?_)
 rotate_left
 ·simp only [decide_eq_false_iff_not] at h
  obtain rfl:k=ws.length:=by omega
  rw [List.drop_length,← hlen,List.drop_length] at hrg
  exact⟨rfl,f,x7,x8,x9,hI,by rw [hrg];rfl,Sl.mk rfl (by simp [hus])⟩
 simp only [decide_eq_true_eq] at h
 have hkl:k<ws.length:=by omega
 obtain⟨w,hw⟩:∃ w,ws[k]? = some w:=⟨_,List.getElem?_eq_getElem hkl⟩
 obtain⟨c,hcf⟩:∃ c,form[k]? = some c:=⟨_,List.getElem?_eq_getElem (by omega)⟩
 have hwl:=hlw w (List.mem_of_getElem? hw)
 obtain⟨b,o,all,hav,hb,hvb,hel,hol⟩:=hW.get hw
 obtain rfl:av=some ⟨b,o,none⟩:=by cases hav;rfl
 have hvb1:vw m1 b=some ⟨true,9,true,strsV all⟩:=by rw [hI.old.vw hb];exact hvb
 have hdr:ws.drop k=w::ws.drop (k+1):=by
  obtain⟨h1,h2⟩:=List.getElem?_eq_some_iff.1 hw
  rw [List.drop_eq_getElem_cons h1,h2]
 rw [hdr,drop_get hcf,readGo] at hrg
 rw [thenA_normal]
 obtain⟨k1,hk1⟩:∃ k1,k1=k+1:=⟨_,rfl⟩
 have hw1:IntKind.wrap .i64 ((k:Int)+1)=(k1:Int):=by rw [wr64 _ (by omega) (by omega)];omega
 refine xseqN (fun l ds m'=>ds=[]∧∃ f,RdI m m' f∧f.ints.length≤k1∧f.nats.length≤k1∧readF form ws=readGo (form.drop k1) (ws.drop k1) f∧Sl [.string ⟨⟨form⟩⟩,.slice (some ⟨b,o,none⟩) ws.length ws.length,undef,undef,.pointer (some ⟨m.next,0,none⟩),.bool false,.pointer (some ⟨m.next+1,0,none⟩),x7,x8,x9,.int .i64 (k:Nat)] 134 l) ?_ ?_
 ·rintro l ds m3 ⟨rfl,f,hI,h1,h2,h3,vs,hvs,rfl⟩
  refine xregQ fun Q' hQ=>?_
  simp [hvs,hw1]
  subst hQ
  exact⟨ws.length-k1,by omega,k1,f,rfl,by omega,rfl,hI,h1,h2,h3,Sl.mk rfl (by simp [hvs])⟩
 refine xblock (xseq (xregQ fun Q' hQ=>?_))
 simp [hus]
 subst hQ
 obtain⟨y11,us2,rfl,hus2⟩:=ln_succ (n:=133) hus
 refine xseqN (fun l ds m'=>ds=[]∧∃ (f':Fs) (ok:Bool),RdI m m' f'∧f'.ints.length≤k1∧f'.nats.length≤k1∧(ok=true→rdOne c w f=some f')∧(ok=false→rdOne c w f=none)∧Sl [.string ⟨⟨form⟩⟩,.slice (some ⟨b,o,none⟩) ws.length ws.length,undef,undef,.pointer (some ⟨m.next,0,none⟩),.bool false,.pointer (some ⟨m.next+1,0,none⟩),x7,x8,x9,.int .i64 (k:Nat),.bool ok] 133 l) ?_ ?_
 ·rintro l ds m3 ⟨rfl,f',ok,hI,h1,h2,h3,h4,vs,hvs,rfl⟩
  refine xsr fun Q' hQ=>?_
  cases ok with
  |false =>
   simp [hvs]
   subst hQ
   refine xyes (by simp [hvs]) ?_
   obtain⟨a1,a2,a3,a4,b4,c4,d4,g1,g2,g3⟩:=done (ok:=false) hI (fun h=>by cases h) (fun _=>by rw [hrg,h4 rfl];rfl)
   simp only [fsC] at g1 g3
   refine xsr fun Q' hQ=>?_
   simp [hvs,g1,g2,fsC]
   subst hQ
   refine xret (g3 ?_)
   exact⟨_,_,_,_,_,rfl⟩
  |true =>
   simp [hvs]
   subst hQ
   refine xno (by simp [hvs]) (xskip ?_)
   exact⟨rfl,f',hI,h1,h2,by rw [hrg,h3 rfl,hk1];rfl,Sl.mk rfl (by simp [hvs])⟩
 refine xsr fun Q' hQ=>?_
 simp [hus2,hcf]
 subst hQ
 have no:∀ {l:List Value} {ok:Bool},ok=false→rdOne c w f=none→Sl [.string ⟨⟨form⟩⟩,.slice (some ⟨b,o,none⟩) ws.length ws.length,undef,undef,.pointer (some ⟨m.next,0,none⟩),.bool false,.pointer (some ⟨m.next+1,0,none⟩),x7,x8,x9,.int .i64 (k:Nat),.bool ok] 133 l →
   (∃ (f':Fs) (ok:Bool),RdI m m1 f'∧f'.ints.length≤k1∧f'.nats.length≤k1∧(ok=true→rdOne c w f=some f')∧(ok=false→rdOne c w f=none)∧Sl [.string ⟨⟨form⟩⟩,.slice (some ⟨b,o,none⟩) ws.length ws.length,undef,undef,.pointer (some ⟨m.next,0,none⟩),.bool false,.pointer (some ⟨m.next+1,0,none⟩),x7,x8,x9,.int .i64 (k:Nat),.bool ok] 133 l):=by
  rintro l ok rfl hno hl
  exact⟨f,false,hI,by omega,by omega,(fun h=>by cases h),fun _=>hno,hl⟩
 refine xblock (xseq (xregQ fun Q' hQ=>?_))
 by_cases c105:c=105
 ·subst c105
  simp [hus2]
  subst hQ
  refine xyes (by simp [hus2]) ?_
  refine xsr fun Q' hQ=>?_
  simp [hus2]
  subst hQ
  refine xsr fun Q' hQ=>?_
  simp [hus2,hkl,hvb1,hel,hol]
  refine xcall (ov_none (by decide)) (rinteger_ok hwl) ?_ (fun ch m' h=>h.elim)
  rintro r m2 ⟨rfl,z,ok,rfl,hz1,hz2,h1,h2⟩
  simp [hus2]
  subst hQ
  obtain⟨aw,vn,vt,aw1,m3,g1,g2,g3,hI3⟩:=hI.int1 z
  refine xregQ fun Q' hQ=>?_
  simp [hus2,g1,fits_true _ f.ints.length f.ints.length 1 8 (by omega),g2,g3,stOk,oneC]
  subst hQ
  refine⟨rfl,_,ok,hI3,by simp;omega,by simp;omega,(fun h=>by simp [rdOne,h1 h]),(fun h=>by simp [rdOne,h2 h]),Sl.mk rfl (by simp [hus2])⟩
 have c105':¬ (c.toNat:Int)=105:=fun e=>c105 ((u8i (n:=105) (by omega)).1 e)
 simp [hus2,c105']
 subst hQ
 refine xno (by simp [hus2]) ?_
 refine xsr fun Q' hQ=>?_
 by_cases c110:c=110
 ·subst c110
  simp [hus2]
  subst hQ
  refine xyes (by simp [hus2]) ?_
  refine xsr fun Q' hQ=>?_
  simp [hus2]
  subst hQ
  refine xsr fun Q' hQ=>?_
  simp [hus2,hkl,hvb1,hel,hol]
  refine xcall (ov_none (by decide)) (rnumber_ok (b:=18446744073709551615) hwl (by omega)) ?_ (fun ch m' h=>h.elim)
  rintro r m2 ⟨rfl,z,ok,rfl,hz,h1,h2⟩
  simp [hus2]
  subst hQ
  obtain⟨aw,vi,vt,aw1,m3,g1,g2,g3,hI3⟩:=hI.nat1 (z:Int)
  refine xregQ fun Q' hQ=>?_
  simp [hus2,g1,fits_true _ f.nats.length f.nats.length 1 8 (by omega),g2,g3,stOk,oneC]
  subst hQ
  refine⟨rfl,_,ok,hI3,by simp;omega,by simp;omega,(fun h=>by simp [rdOne,longOf,h1 h]),(fun h=>by simp [rdOne,longOf,h2 h]),Sl.mk rfl (by simp [hus2])⟩
 have c110':¬ (c.toNat:Int)=110:=fun e=>c110 ((u8i (n:=110) (by omega)).1 e)
 simp [hus2,c110']
 subst hQ
 refine xno (by simp [hus2]) ?_
 refine xsr fun Q' hQ=>?_
 by_cases c109:c=109
 ·subst c109
  simp [hus2]
  subst hQ
  refine xyes (by simp [hus2]) ?_
  refine xsr fun Q' hQ=>?_
  simp [hus2]
  subst hQ
  refine xsr fun Q' hQ=>?_
  simp [hus2,hkl,hvb1,hel,hol]
  refine xcall (ov_none (by decide)) (rnumber_ok (b:=4294967295) hwl (by omega)) ?_ (fun ch m' h=>h.elim)
  rintro r m2 ⟨rfl,z,ok,rfl,hz,h1,h2⟩
  simp [hus2]
  subst hQ
  obtain⟨aw,vi,vt,aw1,m3,g1,g2,g3,hI3⟩:=hI.nat1 (z:Int)
  refine xregQ fun Q' hQ=>?_
  simp [hus2,g1,fits_true _ f.nats.length f.nats.length 1 8 (by omega),g2,g3,stOk,oneC]
  subst hQ
  refine⟨rfl,_,ok,hI3,by simp;omega,by simp;omega,(fun h=>by simp [rdOne,maskOf,h1 h]),(fun h=>by simp [rdOne,maskOf,h2 h]),Sl.mk rfl (by simp [hus2])⟩
 have c109':¬ (c.toNat:Int)=109:=fun e=>c109 ((u8i (n:=109) (by omega)).1 e)
 simp [hus2,c109']
 subst hQ
 refine xno (by simp [hus2]) ?_
 refine xsr fun Q' hQ=>?_
 by_cases c119:c=119
 ·subst c119
  simp [hus2]
  subst hQ
  refine xyes (by simp [hus2]) ?_
  have hneq:([101,120,112,114,101,115,115]:List UInt8)≠[102,114,101,105,103,104,116]:=by decide
  obtain⟨⟨vi,vn,vt,g1⟩,hI3⟩:=hI.way1 1
  obtain⟨⟨vi2,vn2,vt2,g2⟩,hI4⟩:=hI3.way1 2
  by_cases hf:w=[102,114,101,105,103,104,116]
  ·have he:¬ w=[101,120,112,114,101,115,115]:=fun e=>hneq (e.symm.trans hf)
   have hfe:¬ ([102,114,101,105,103,104,116]:List UInt8)=[101,120,112,114,101,115,115]:=fun e=>hneq e.symm
   have hwy:wayOf w=some 2:=by unfold wayOf;rw [if_neg (show ¬ w=expressB from he),if_pos (show w=freightB from hf)]
   subst hf
   refine xsr fun Q' hQ=>?_
   simp [hus2,hkl,hvb1,hel,hol]
   subst hQ
   refine xsr fun Q' hQ=>?_
   simp [hus2,g1,stOk,oneC]
   subst hQ
   have hvb2:vw (stM m1 (m.next+1) 2 [.int .i64 1]) b=some ⟨true,9,true,strsV all⟩:=by rw [hI3.old.vw hb];exact hvb
   refine xsr fun Q' hQ=>?_
   simp [hus2,hkl,hvb2,hel,hol]
   subst hQ
   refine xyes (by simp [hus2]) ?_
   refine xregQ fun Q' hQ=>?_
   simp [hus2,g2,stOk,oneC]
   subst hQ
   refine⟨rfl,_,true,hI4,by simp;omega,by simp;omega,(fun h=>by simp [rdOne,hwy]),(fun h=>by cases h),Sl.mk rfl (by simp [hus2])⟩
  ·by_cases he:w=[101,120,112,114,101,115,115]
   ·have hwy:wayOf w=some 1:=by unfold wayOf;rw [if_pos (show w=expressB from he)]
    subst he
    refine xsr fun Q' hQ=>?_
    simp [hus2,hkl,hvb1,hel,hol]
    subst hQ
    refine xsr fun Q' hQ=>?_
    simp [hus2,g1,stOk,oneC]
    subst hQ
    have hvb2:vw (stM m1 (m.next+1) 2 [.int .i64 1]) b=some ⟨true,9,true,strsV all⟩:=by rw [hI3.old.vw hb];exact hvb
    refine xsr fun Q' hQ=>?_
    simp [hus2,hkl,hvb2,hel,hol]
    subst hQ
    refine xno (by simp [hus2]) (xskip ?_)
    refine⟨rfl,_,true,hI3,by simp;omega,by simp;omega,(fun h=>by simp [rdOne,hwy]),(fun h=>by cases h),Sl.mk rfl (by simp [hus2])⟩
   ·have hwy:wayOf w=none:=by unfold wayOf;rw [if_neg (show ¬ w=expressB from he),if_neg (show ¬ w=freightB from hf)]
    refine xsr fun Q' hQ=>?_
    simp [hus2,hkl,hvb1,hel,hol,he,hf]
    subst hQ
    refine xsr fun Q' hQ=>?_
    simp [hus2,g1,stOk,oneC]
    subst hQ
    have hvb2:vw (stM m1 (m.next+1) 2 [.int .i64 1]) b=some ⟨true,9,true,strsV all⟩:=by rw [hI3.old.vw hb];exact hvb
    refine xsr fun Q' hQ=>?_
    simp [hus2,hkl,hvb2,hel,hol,hf]
    subst hQ
    refine xno (by simp [hus2]) (xskip ?_)
    refine⟨rfl,_,false,hI3,by simp;omega,by simp;omega,(fun h=>by cases h),(fun h=>by simp [rdOne,hwy]),Sl.mk rfl (by simp [hus2])⟩
 have c119':¬ (c.toNat:Int)=119:=fun e=>c119 ((u8i (n:=119) (by omega)).1 e)
 simp [hus2,c119']
 subst hQ
 refine xno (by simp [hus2]) ?_
 refine xsr fun Q' hQ=>?_
 by_cases c116:c=116
 ·subst c116
  simp [hus2]
  subst hQ
  refine xyes (by simp [hus2]) ?_
  refine xsr fun Q' hQ=>?_
  simp [hus2,hkl,hvb1,hel,hol]
  refine xcall (ov_none (by decide)) (runquote_ok hwl) ?_ (fun ch m' h=>h.elim)
  rintro r m2 ⟨v',ok,rfl,hO2,h1,h2⟩
  simp [hus2]
  subst hQ
  cases ok with
  |true =>
   obtain⟨s,hs,hown,hsl⟩:=h1 rfl
   obtain⟨a',rfl⟩:=hown.shape
   obtain⟨⟨vi,vn,vt,g1⟩,hI3⟩:=hI.text1 hO2 (hown.le hI.old.1)
   refine xsr fun Q' hQ=>?_
   simp [hus2,g1,stOk,oneC]
   subst hQ
   refine xregQ fun Q' hQ=>?_
   simp [hus2]
   subst hQ
   exact⟨rfl,_,true,hI3,by simp;omega,by simp;omega,(fun h=>by simp [rdOne,hs]),(fun h=>by cases h),Sl.mk rfl (by simp [hus2])⟩
  |false =>
   obtain⟨hno,rfl⟩:=h2 rfl
   obtain⟨⟨vi,vn,vt,g1⟩,hI3⟩:=hI.text1 (s:=[]) hO2 (.inl ⟨rfl,rfl,rfl⟩)
   refine xsr fun Q' hQ=>?_
   simp [hus2,g1,stOk,oneC]
   subst hQ
   refine xregQ fun Q' hQ=>?_
   simp [hus2]
   subst hQ
   exact⟨rfl,_,false,hI3,by simp;omega,by simp;omega,(fun h=>by cases h),(fun h=>by simp [rdOne,hno]),Sl.mk rfl (by simp [hus2])⟩
 have c116':¬ (c.toNat:Int)=116:=fun e=>c116 ((u8i (n:=116) (by omega)).1 e)
 simp [hus2,c116']
 subst hQ
 refine xno (by simp [hus2]) (xskip ?_)
 exact⟨rfl,no rfl (by simp only [rdOne,if_neg c105,if_neg c110,if_neg c109,if_neg c119,if_neg c116]) (Sl.mk rfl (by simp [hus2]))⟩
end Go.Proofs.YtgmkbdmgifdfeaaGreatDoor

set_option maxRecDepth 8000
namespace Go.Proofs.YtgmkbdmgifdfeaaGreatDoor
open Go Go.Ev
theorem stp_len (s:Stp) (d c:Value):(stpCells s d c).length=17:=rfl
def StepsOld (n0:Nat) (m:Mem) (v:Value) (ss:List Stp):Prop :=
 ∃ cells,SlOld n0 m v ss.length cells∧cells.length=ss.length*17∧∀ k s,ss[k]? = some s→s.R∧∃ d c,takeN cells (k*17) 17=stpCells s d c∧SlOld n0 m d s.data.length (u8s s.data)∧SlOld n0 m c s.choices.length (i64s s.choices)
theorem StepsOld.old {n0:Nat} {m m':Mem} {v:Value} {ss:List Stp} (h:StepsOld n0 m v ss) (k:Old n0 m m'):StepsOld n0 m' v ss:=by
 obtain⟨cells,h1,h2,h3⟩:=h
 refine⟨cells,h1.old k,h2,fun j s hj=>?_⟩
 obtain⟨h4,d,c,h5,h6,h7⟩:=h3 j s hj
 exact⟨h4,d,c,h5,h6.old k,h7.old k⟩
theorem StepsOld.shape {n0:Nat} {m:Mem} {v:Value} {ss:List Stp} (h:StepsOld n0 m v ss):∃ a c,v=.slice a ss.length c:=by
 obtain⟨cells,h1,_⟩:=h
 rcases h1 with ⟨rfl,h1,_⟩|⟨b,o,c,rfl,_⟩
 ·exact⟨none,0,by rw [h1]⟩
 ·exact⟨_,_,rfl⟩
theorem StepsOld.load {n0:Nat} {m:Mem} {v:Value} {ss:List Stp} (h:StepsOld n0 m v ss) (hn:n0≤m.next) {k:Nat} {s:Stp} (hk:ss[k]? = some s) :
  ∃ b o c,v=.slice (some ⟨b,o,none⟩) ss.length c∧s.R∧∃ ad dc ac cc,opLoad tb 36 m (.pointer (some ⟨b,o+k*17,none⟩))=.r (.agg ⟨stpCells s (.slice ad s.data.length dc) (.slice ac s.choices.length cc)⟩) ∧
    SlOld n0 m (.slice ad s.data.length dc) s.data.length (u8s s.data)∧SlOld n0 m (.slice ac s.choices.length cc) s.choices.length (i64s s.choices)∧(stpCells s (.slice ad s.data.length dc) (.slice ac s.choices.length cc)).all oneC=true∧n0≤m.next∧k<ss.length:=by
 obtain⟨cells,h1,h2,h3⟩:=h
 obtain⟨h4,d,c,h5,h6,h7⟩:=h3 k s hk
 have hk1:=(List.getElem?_eq_some_iff.1 hk).1
 obtain⟨b,o,c',h8,h9,h10,h11,h12⟩:=(h1.at hn).loadA (k:=k*17) (sz:=17) (by omega) (by omega)
 obtain⟨ad,dc,rfl⟩:=(h6.at hn).shape
 obtain⟨ac,cc,rfl⟩:=(h7.at hn).shape
 refine⟨b,o,c',h8,h4,ad,dc,ac,cc,?_,h6,h7,rfl,hn,hk1⟩
 rw [h12 Ty.ti36 Ty.g36 Ty.s36,h5]
end Go.Proofs.YtgmkbdmgifdfeaaGreatDoor

set_option maxRecDepth 8000
namespace Go.Proofs.YtgmkbdmgifdfeaaGreatDoor
open Go Go.Ev
theorem c29_9 {m:Mem} {v:Value} {bs:List UInt8} (h:SlAt m v bs.length (u8s bs)):opConv tb m 29 9 v=.r (.string ⟨⟨bs⟩⟩):=by
 rcases h with ⟨rfl,h1,h2⟩|⟨b,o,c,rfl,h1,h2|⟨h2,h3⟩⟩
 ·obtain rfl:bs=[]:=List.length_eq_zero_iff.1 h1
  simp [opConv,convNilSl]
 ·obtain rfl:bs=[]:=by have:=congrArg List.length h2;simpa using this
  simp [opConv,convSl]
 ·simp only [opConv,Ty.ti29,Ty.ti9,convSl,Ty.d29,Ty.d9,Ty.ti5,Ty.d5]
  cases hl:bs with
  |nil=>rfl
  |cons x l =>
   simp only [List.length_cons]
   obtain⟨e1,e2⟩:=rd_some h2
   obtain⟨r,g1,g2,g3⟩:=e2 (by rw [u8s_length,hl];simp)
   rw [u8s_length,hl] at g2
   simp only [List.length_cons] at g2
   have:bytesAt m b o (l.length+1)=some ⟨⟨x::l⟩⟩:=by
    unfold bytesAt
    rw [g1];simp only [oB]
    rw [g2];simp only
    rw [bytesL_u8s]
   simp only [this]
theorem len_succ {α : Type} {l:List α} {n:Nat} (h:l.length=n+1):∃ x t,l=x::t∧t.length=n:=by
 cases l with
 |nil=>cases h
 |cons x t=>exact⟨x,t,rfl,by simpa using h⟩
end Go.Proofs.YtgmkbdmgifdfeaaGreatDoor

set_option maxRecDepth 8000
namespace Go.Proofs.YtgmkbdmgifdfeaaGreatDoor
open Go Go.Ev
def formOf:Nat→List UInt8
 |1=>[110]|2=>[105,105,105]|3=>[105]|4=>[105]|5=>[105]|6=>[105,110,110,116]|7=>[105,110]|8=>[]
 |9=>[119,105]|10=>[119,105]|11=>[119,105]|12=>[119,105,105,109]|13=>[105]|14=>[99]|15=>[]
 |16=>[105]|17=>[105]|18=>[105,110]|19=>[105]|20=>[105]|21=>[105]|22=>[105,110,110]
 |_=>[]
def rowCells (k:Nat):List Value:=[.string ⟨⟨wordOf k⟩⟩,.bool (!decide (k=1)),.int .i64 (k:Int),.string ⟨⟨formOf k⟩⟩]
def rcs:List Value:=match rrowsRows with|r::_=>r.cells | []=>[]
theorem rcs_len:rcs.length=88:=rfl
theorem rcs_row:∀ i,i<22→takeN rcs (i*4) 4=rowCells (i+1)
 |0,_=>rfl|1,_=>rfl|2,_=>rfl|3,_=>rfl|4,_=>rfl|5,_=>rfl|6,_=>rfl|7,_=>rfl|8,_=>rfl|9,_=>rfl|10,_=>rfl
 |11,_=>rfl|12,_=>rfl|13,_=>rfl|14,_=>rfl|15,_=>rfl|16,_=>rfl|17,_=>rfl|18,_=>rfl|19,_=>rfl|20,_=>rfl|21,_=>rfl
 |i+22,h=>absurd h (by omega)
theorem rows_vw {m:Mem} {k0:Nat} (h:RowsAt rrowsRows m k0):vw m k0=some ⟨true,88,false,rcs⟩:=by
 have:=h 0 _ rfl
 rw [Nat.add_zero] at this
 rw [this];rfl
end Go.Proofs.YtgmkbdmgifdfeaaGreatDoor

