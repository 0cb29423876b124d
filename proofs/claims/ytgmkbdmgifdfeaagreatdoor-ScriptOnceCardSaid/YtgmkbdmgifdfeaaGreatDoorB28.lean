/- A part of a proof: ScriptOnce. -/
import Derived.ChangeArms
import Derived.DataReads
import Derived.Deep.Slices
import Derived.LaidLaws
import Derived.Lib.AtoiErrMem
import Derived.OpenShut
import Derived.ProofKit
import Derived.Stop.LaidErr
import Derived.Test.YtgmkbdmgifdfeaaGreatDoorRows
import Derived.Test.YtgmkbdmgifdfeaaGreatDoorB27
set_option linter.unusedVariables false
set_option linter.unusedSimpArgs false
namespace Go.Proofs.YtgmkbdmgifdfeaaGreatDoor
open Go Go.Ev Go.RowKit
theorem mr_below {P:Program} {N:Nat} {w0 w w':World} {E:Env} {m:Mem} (HM:MR P N w0 E m w) (hb:Below w.heap.size w w'):MR P N w0 E m w' :=
 ⟨fun b i o hb1 ho hl=>by rw [hb.block _ (HM.ub b i hb1)];exact HM.objs b i o hb1 ho hl,fun b i h=>Nat.lt_of_lt_of_le (HM.ub b i h) hb.size,HM.dom,HM.inj,HM.own,HM.base.trans (hb.mono HM.size),Nat.le_trans HM.size hb.size⟩
theorem pow_gName:Tryz.prog.globalNamed "internal/strconv.uint64pow10" = some 0:=by kernel_rfl
theorem tab_of {N:Nat} {w0 w:World} {E:Env} {m:Mem} (HM:MR Tryz.prog N w0 E m w) (HG:GlobE 8 E) (hp:PowAt m):Lib.TabIs Tryz.prog w "internal/strconv.uint64pow10" .u64 Lib.pow10Tab:=by
 obtain⟨_,e,hv⟩:=hp
 obtain⟨r,h1,h2,h3,h4,h5,h6,_⟩:=vw_spec hv
 have hE:=HG 0 (by omega)
 have hrow:∃ cells elem fr,w.heap[0]? = some (.cells cells elem fr)∧RowR (Tryz.prog.cellsOf r.elem) E r ⟨0,0,0⟩ cells elem fr:=by
  rcases rowOf_some h1 with ho|ho
  ·obtain⟨ob,g1,g2⟩:=HM.objs 0 _ _ hE ho rfl
   cases g2 with
   |row h=>exact⟨_,_,_,g1,h⟩
  ·obtain⟨ob,g1,g2⟩:=HM.objs 0 _ _ hE ho rfl
   cases g2 with
   |glob h hx=>exact⟨_,_,_,g1,h⟩
 obtain⟨cells,elem,fr,g1,g2⟩:=hrow
 have hsz:cells.size=20:=by
  rw [g2.size,h2];simp [pow10Cells]
 have hc:cells=(Lib.pow10Tab.map fun z=>Value.int .u64 z).toArray:=by
  apply Array.ext'
  apply List.ext_getElem?
  intro j
  by_cases hj:j<20
  ·have hcell:=h6 j
   have hl:j<pow10Cells.length:=by simpa [pow10Cells] using hj
   rw [List.getElem?_eq_getElem hl] at hcell
   obtain⟨v',k1,k2⟩:=g2.cell j _ hcell
   simp only [Nat.zero_add] at k1
   have k3:pow10Cells[j]=.int .u64 ((10 ^ j:Nat):Int):=by simp [pow10Cells]
   rw [k3] at k2
   cases k2
   rw [Array.getElem?_toList,k1]
   simp [Lib.pow10Tab,hj]
  ·rw [List.getElem?_eq_none (by simp [hsz];omega),List.getElem?_eq_none (by simp [Lib.pow10Tab];omega)]
 unfold Lib.TabIs World.var?
 rw [pow_gName,Option.bind_some,g1,hc]
theorem arr_eq (l:List UInt8):(⟨l.toArray⟩:ByteArray)=⟨⟨l⟩⟩:=rfl
theorem ov_cases {f:Nat} {g:List Value→Mem→Option (Value × Mem)} (h:ovs.get f=some g):(f=31∧g=itoaOv)∨(f=48∧g=fmtOv)∨(f=30∧g=closedOv formsV formsRows)∨(f=67∧g=closedOv rrowsV rrowsRows)∨(f=130∧g=puOv)∨(f=108∧g=idxOv)∨(f=118∧g=cutOv)∨(f=131∧g=ibOv):=by
 rw [ovs,setAll_get,Option.map_eq_some_iff] at h
 obtain⟨⟨k,g'⟩,h1,rfl⟩:=h
 have h2:=List.find?_some h1
 have h3:=List.mem_of_find?_eq_some h1
 simp only [decide_eq_true_eq] at h2
 subst h2
 simp only [ovL,List.mem_cons,Prod.mk.injEq,List.not_mem_nil,or_false] at h3
 exact h3
theorem mr_dead {P:Program} {N:Nat} {w0 w:World} {E:Env} {m:Mem} (HM:MR P N w0 E m w) {k:Nat} (hk:k<w.heap.size):MR P N w0 (E.add m.next ⟨k,0,0⟩) (newObjA m .dead) w:=by
 have hn:=(HM.dom m.next (Nat.le_refl _)).2
 refine⟨fun b i o hb ho hl=>?_,fun b i hb=>?_,fun b hb=>?_,fun b b' i i' o o' hne hb hb' ho ho' hl hl'=>?_,fun b i o hb ho hown=>?_,HM.base,HM.size⟩
 ·rw [get_newObjA] at ho
  by_cases e:b=m.next
  ·rw [if_pos e] at ho;cases ho;cases hl
  ·rw [if_neg e] at ho
   simp only [Env.add,if_neg e] at hb
   obtain⟨ob,h1,h2⟩:=HM.objs b i o hb ho hl
   exact⟨ob,h1,h2.mono (Env.add_le hn)⟩
 ·by_cases e:b=m.next
  ·subst e;obtain rfl:=Option.some.inj (Env.add_at.symm.trans hb);exact hk
  ·simp only [Env.add,if_neg e] at hb;exact HM.ub b i hb
 ·rw [next_newObjA] at hb
  obtain⟨h1,h2⟩:=HM.dom b (by omega)
  exact⟨by rw [get_newObjA,if_neg (by omega)];exact h1,by simp only [Env.add];rw [if_neg (by omega)];exact h2⟩
 ·rw [get_newObjA] at ho ho'
  by_cases e:b=m.next
  ·rw [if_pos e] at ho;cases ho;cases hl
  by_cases e':b'=m.next
  ·rw [if_pos e'] at ho';cases ho';cases hl'
  rw [if_neg e] at ho;rw [if_neg e'] at ho'
  simp only [Env.add,if_neg e] at hb
  simp only [Env.add,if_neg e'] at hb'
  exact HM.inj b b' i i' o o' hne hb hb' ho ho' hl hl'
 ·rw [get_newObjA] at ho
  by_cases e:b=m.next
  ·rw [if_pos e] at ho;cases ho;cases hown
  ·rw [if_neg e] at ho
   simp only [Env.add,if_neg e] at hb
   exact HM.own b i o hb ho hown
theorem err_cell {N:Nat} {w0 w:World} {E:Env} {m:Mem} (HM:MR Tryz.prog N w0 E m w) (HG:GlobE 8 E) {b:Nat} (hb:b<8) (h:∃ e t a,vw m b=some ⟨false,e,false,[.iface t (.pointer (some a))]⟩) :
  ∃ ev,w.cell? ⟨b,0,none⟩=some ev∧(ev=.nilIface∨∃ te pe,ev=.iface te pe):=by
 obtain⟨e,t,a,hv⟩:=h
 obtain⟨r,h1,h2,h3,h4,h5,h6,_⟩:=vw_spec hv
 have hE:=HG b hb
 obtain⟨cells,elem,fr,g1,g2⟩:=HM.row hE h1
 obtain⟨v',k1,k2⟩:=g2.cell 0 _ (h6 0)
 simp only [Nat.zero_add] at k1 g1
 refine⟨v',?_,?_⟩
 ·unfold World.cell?
  simp only [g1]
  exact k1
 ·cases k2 with
  |iface t h=>exact .inr ⟨_,_,rfl⟩
theorem closedOv_some {V:Value} {rows:List CRow} {args:List Value} {m m':Mem} {v:Value} (h:closedOv V rows args m=some (v,m')):args=[]∧8≤m.next∧v=renV 8 m.next V∧m'=layRows m (rows.map (CRow.ren 8 m.next)):=by
 unfold closedOv at h
 split at h
 ·split at h
  ·rename_i hb
   simp only [Option.some.injEq,Prod.mk.injEq] at h
   exact⟨rfl,by simpa using hb,h.1.symm,h.2.symm⟩
  ·cases h
 ·cases h
theorem itoaOv_some {args:List Value} {m m':Mem} {v:Value} (h:itoaOv args m=some (v,m')):∃ n,args=[.int .i64 n]∧(-9223372036854775808≤n∧n≤9223372036854775807∧PowAt m)∧v=.string ⟨⟨Lib.itoa n⟩⟩∧m'=m:=by
 unfold itoaOv at h
 split at h
 ·split at h
  ·simp only [Option.some.injEq,Prod.mk.injEq] at h
   exact⟨_,rfl,‹_›,h.1.symm,h.2.symm⟩
  ·cases h
 ·cases h
theorem fmtOv_some {args:List Value} {m m':Mem} {v:Value} (h:fmtOv args m=some (v,m')):∃ n z,args=[.int .u64 n,.int .i64 z]∧(0≤n∧n≤18446744073709551615∧z=10∧PowAt m)∧v=.string ⟨⟨Lib.decDigits n.toNat⟩⟩∧m'=m:=by
 unfold fmtOv at h
 split at h
 ·split at h
  ·simp only [Option.some.injEq,Prod.mk.injEq] at h
   exact⟨_,_,rfl,‹_›,h.1.symm,h.2.symm⟩
  ·cases h
 ·cases h
theorem puOv_some {args:List Value} {m m':Mem} {v:Value} (h:puOv args m=some (v,m')):∃ s,args=[.string s,.int .i64 10,.int .i64 64]∧s.data.toList.length≤281474976710656∧ErrAt m ∧
  ((∃ u,Lib.parseUintB 64 s.data.toList=.ok u∧v=.tuple ⟨[.int .u64 (u:Int),.nilIface]⟩∧m'=m)∨(Lib.parseUintB 64 s.data.toList=Lib.parseUintB 64 []∧v=.tuple ⟨[.int .u64 0,.iface 195 (.pointer (some ⟨m.next,0,none⟩))]⟩∧m'=newObjA m .dead) ∨
    (Lib.parseUintB 64 s.data.toList=.range∧v=.tuple ⟨[.int .u64 18446744073709551615,.iface 195 (.pointer (some ⟨m.next,0,none⟩))]⟩∧m'=newObjA m .dead)):=by
 unfold puOv at h
 split at h
 ·rename_i s b z
  split at h
  ·rename_i hc
   obtain⟨rfl,rfl,h1,h2⟩:=hc
   refine⟨s,rfl,h1,h2,?_⟩
   split at h
   ·rename_i u hu
    simp only [Option.some.injEq,Prod.mk.injEq] at h
    exact .inl ⟨u,hu,h.1.symm,h.2.symm⟩
   ·rename_i hu
    simp only [Option.some.injEq,Prod.mk.injEq] at h
    exact .inr (.inr ⟨hu,h.1.symm,h.2.symm⟩)
   ·rename_i hu1 hu2
    simp only [Option.some.injEq,Prod.mk.injEq] at h
    refine .inr (.inl ⟨?_,h.1.symm,h.2.symm⟩)
    cases hx:Lib.parseUintB 64 s.data.toList
    ·exact absurd hx (hu1 _)
    ·rfl
    ·exact absurd hx hu2
  ·cases h
 ·cases h
theorem pkTb (N:Nat) (w0:World):ProgOk tb N 8 w0:=by
 have pk:∀ N' w0',ProgOk (mkTabs Tryz.prog 8 .lf) N' 8 w0':=fun N' w0'=>progOk_of good
 refine progOk_ov (pk N w0) fun f g hg=>?_
 rcases ov_cases hg with ⟨rfl,rfl⟩|⟨rfl,rfl⟩|⟨rfl,rfl⟩|⟨rfl,rfl⟩|⟨rfl,rfl⟩|⟨rfl,rfl⟩|⟨rfl,rfl⟩|⟨rfl,rfl⟩
 ·refine⟨⟨_,_,Tryz.func31,rfl⟩,fun args m v m' hr E args' w HM HG ha=>?_⟩
  obtain⟨n,rfl,hc,rfl,rfl⟩:=itoaOv_some hr
  cases ha with
  |cons h1 t =>
   cases t;cases h1
   refine (Tryz.strconv_Itoa n hc.1 hc.2.1 w (tab_of HM HG hc.2.2)).mono ?_
   rintro e w' ⟨rfl,k,os,rfl⟩
   exact⟨_,E,rfl,.string _,mr_below HM (Lib.below_grow _ w (Nat.le_refl _) k os),.refl _ _ _⟩
 ·refine⟨⟨_,_,Tryz.func48,rfl⟩,fun args m v m' hr E args' w HM HG ha=>?_⟩
  obtain⟨n,z,rfl,⟨h0,h1,rfl,h3⟩,rfl,rfl⟩:=fmtOv_some hr
  obtain⟨u,rfl⟩:∃ u:Nat,n=u:=⟨n.toNat,by omega⟩
  cases ha with
  |cons h1' t =>
   cases h1'
   cases t with
   |cons h2' t =>
    cases h2';cases t
    refine (Tryz.formatUint48 u (by omega) w (tab_of HM HG h3)).mono ?_
    rintro e w' ⟨rfl,k,os,rfl⟩
    exact⟨_,E,rfl,.string _,mr_below HM (Lib.below_grow _ w (Nat.le_refl _) k os),.refl _ _ _⟩
 ·refine⟨⟨_,_,Tryz.func30,rfl⟩,fun args m v m' hr E args' w HM HG ha=>?_⟩
  obtain⟨rfl,hn,rfl,rfl⟩:=closedOv_some hr
  cases ha
  exact closed_calls pk forms_ran HM HG hn
 ·refine⟨⟨_,_,Tryz.func67,rfl⟩,fun args m v m' hr E args' w HM HG ha=>?_⟩
  obtain⟨rfl,hn,rfl,rfl⟩:=closedOv_some hr
  cases ha
  exact closed_calls pk rrows_ran HM HG hn
 ·refine⟨⟨_,_,Tryz.func130,rfl⟩,fun args m v m' hr E args' w HM HG ha=>?_⟩
  obtain⟨s,rfl,hl,⟨h7,e6,e7⟩,hcase⟩:=puOv_some hr
  have hsz:s.size≤281474976710656:=hl
  cases ha with|cons a1 t=>cases a1;cases t with|cons a2 t=>cases a2;cases t with|cons a3 t =>
  cases a3;cases t
  rcases hcase with ⟨u,hu,rfl,rfl⟩|⟨hu,rfl,rfl⟩|⟨hu,rfl,rfl⟩
  ·refine (Tryz.strconv_ParseUint_10_at64_ok s (by omega) u hu w).mono ?_
   rintro e w' ⟨rfl,hw⟩
   refine⟨_,E,rfl,.tuple (.cons (.int _ _) (.cons .nilIface .nil)),?_,.refl _ _ _⟩
   rcases hw with rfl|rfl
   ·exact HM
   ·exact mr_below HM (Lib.bytesWorld_below w 5 s)
  ·obtain⟨ev,c1,c2⟩:=err_cell HM HG (b:=6) (by omega) e6
   refine (Tryz.strconv_ParseUint_10_at64_syntax s hsz hu ev w c1 c2).mono ?_
   rintro e w' ⟨k,rfl,hk,hcell,hb⟩
   have HM2:=mr_dead (mr_below HM hb) (k:=k) (Array.getElem?_eq_some_iff.1 hcell).1
   have hn:=(HM.dom m.next (Nat.le_refl _)).2
   refine⟨_,_,rfl,.tuple (.cons (.int _ _) (.cons (.iface _ ?_) .nil)),HM2,(MExt.lay HM .dead).trans (MExt.mat hn (Nat.le_refl _))⟩
   exact .ptr (o:=0) (i:=⟨k,0,0⟩) Env.add_at
  ·obtain⟨ev,c1,c2⟩:=err_cell HM HG (b:=7) (by omega) e7
   refine (Tryz.strconv_ParseUint_10_at64_range s hsz hu ev w c1 c2).mono ?_
   rintro e w' ⟨k,rfl,hk,hcell,hb⟩
   have HM2:=mr_dead (mr_below HM hb) (k:=k) (Array.getElem?_eq_some_iff.1 hcell).1
   have hn:=(HM.dom m.next (Nat.le_refl _)).2
   refine⟨_,_,rfl,.tuple (.cons (.int _ _) (.cons (.iface _ ?_) .nil)),HM2,(MExt.lay HM .dead).trans (MExt.mat hn (Nat.le_refl _))⟩
   exact .ptr (o:=0) (i:=⟨k,0,0⟩) Env.add_at
 ·refine⟨⟨_,_,Tryz.func108,rfl⟩,fun args m v m' hr E args' w HM HG ha=>?_⟩
  unfold idxOv at hr
  split at hr<;>first|(cases hr;done)|skip
  rename_i s c
  simp only [Option.some.injEq,Prod.mk.injEq] at hr
  obtain⟨rfl,rfl⟩:=hr
  cases ha with|cons a1 t=>cases a1;cases t with|cons a2 t =>
  cases a2;cases t
  refine (Tryz.strings_Index_one s c w).mono ?_
  rintro e w' ⟨rfl,rfl⟩
  exact⟨_,E,rfl,.int _ _,HM,.refl _ _ _⟩
 ·refine⟨⟨_,_,Tryz.func118,rfl⟩,fun args m v m' hr E args' w HM HG ha=>?_⟩
  unfold cutOv at hr
  split at hr<;>first|(cases hr;done)|skip
  rename_i s p
  simp only [Option.some.injEq,Prod.mk.injEq] at hr
  obtain⟨rfl,rfl⟩:=hr
  cases ha with|cons a1 t=>cases a1;cases t with|cons a2 t =>
  cases a2;cases t
  refine (Tryz.strings_CutPrefix s p w).mono ?_
  rintro e w' ⟨rfl,rfl⟩
  exact⟨_,E,rfl,.tuple (.cons (.string _) (.cons (.bool _) .nil)),HM,.refl _ _ _⟩
 ·refine⟨⟨_,_,Tryz.func131,rfl⟩,fun args m v m' hr E args' w HM HG ha=>?_⟩
  unfold ibOv at hr
  split at hr<;>first|(cases hr;done)|skip
  rename_i s c
  simp only [Option.some.injEq,Prod.mk.injEq] at hr
  obtain⟨rfl,rfl⟩:=hr
  cases ha with|cons a1 t=>cases a1;cases t with|cons a2 t =>
  cases a2;cases t
  refine (Tryz.strings_IndexByte s c w).mono ?_
  rintro e w' ⟨rfl,rfl⟩
  exact⟨_,E,rfl,.int _ _,HM,.refl _ _ _⟩
end Go.Proofs.YtgmkbdmgifdfeaaGreatDoor

set_option maxRecDepth 4000
namespace Go.Proofs.YtgmkbdmgifdfeaaGreatDoor
open Go Go.Ev Go.Deep
def absC (N:Nat):Value→Option Value
 | .int k n=>some (.int k n)
 | .slice none l c=>some (.slice none l c)
 | .slice (some a) l c=>if l=0∧c=0 then some (.slice (some ⟨0,0,none⟩) 0 0) else if a.spot=none∧a.block<N then some (.slice (some a) l c) else none
 | .iface t (.pointer (some a))=>if a.spot=none∧a.block<N then some (.iface t (.pointer (some a))) else none
 |_=>none
theorem globs_at {N b:Nat} (h:b<N):Env.globs N b=some ⟨b,0,0⟩:=by unfold Env.globs;rw [if_pos h]
theorem absC_vr {N:Nat} (hN:0<N) {v v':Value} (h:absC N v=some v'):VR (Env.globs N) v' v:=by
 unfold absC at h
 split at h
 ·cases h;exact .int _ _
 ·cases h;exact .slNil _ _
 ·rename_i a l c
  split at h
  ·rename_i h0
   obtain⟨rfl,rfl⟩:=h0
   cases h
   exact .slD _ (globs_at hN)
  ·split at h
   ·rename_i h1
    obtain⟨b,o,s⟩:=a
    obtain⟨h1,h2⟩:=h1
    simp only at h1 h2;subst h1
    cases h
    have:=VR.sl (E:=Env.globs N) (o:=o) l c (globs_at h2)
    simpa using this
   ·cases h
 ·rename_i t a
  split at h
  ·rename_i h1
   obtain⟨b,o,s⟩:=a
   obtain⟨h1,h2⟩:=h1
   simp only at h1 h2;subst h1
   cases h
   have:=VR.ptr (E:=Env.globs N) (o:=o) (globs_at h2)
   exact .iface t (by simpa using this)
  ·cases h
 ·cases h
noncomputable def absT (N:Nat):List Value→Nat→T Value
 | [],_=>.lf
 |v::l,i=>match absC N v with|some v'=>T.set (absT N l (i+1)) i v'|none=>absT N l (i+1)
theorem absT_lt (N:Nat):∀ (l:List Value) (i j:Nat),j<i→(absT N l i).get j=none
 | [],i,j,h=>rfl
 |v::l,i,j,h=>by
  unfold absT
  split
  ·rw [T.get_set,if_neg (by omega)];exact absT_lt N l (i+1) j (by omega)
  ·exact absT_lt N l (i+1) j (by omega)
theorem absT_get (N:Nat):∀ (l:List Value) (i j:Nat),i≤j→(absT N l i).get j=(l[j-i]?).bind (absC N)
 | [],i,j,h=>rfl
 |v::l,i,j,h=>by
  unfold absT
  by_cases e:j=i
  ·subst e
   simp only [Nat.sub_self,List.getElem?_cons_zero,Option.bind_some]
   split
   ·rename_i v' hv;rw [T.get_set,if_pos rfl,hv]
   ·rename_i hv;rw [absT_lt N l (j+1) j (by omega),hv]
  ·have e2:j-i=(j-(i+1))+1:=by omega
   rw [e2,List.getElem?_cons_succ]
   split
   ·rw [T.get_set,if_neg e];exact absT_get N l (i+1) j (by omega)
   ·exact absT_get N l (i+1) j (by omega)
noncomputable def absRow (N:Nat) (c:Array Value) (t:TypeId) (fr:Nat × Nat):Row:=⟨absT N c.toList 0,c.size,[],t,if fr.1=fr.2 then .none else .rng fr.1 fr.2,false⟩
theorem absRow_cell (N:Nat) (c:Array Value) (t:TypeId) (fr:Nat × Nat) (j:Nat):cellAt (absRow N c t fr) j=(c[j]?).bind (absC N):=by
 unfold cellAt absRow
 simp only
 cases hb:Nat.blt j c.size with
 |false =>
  have:¬ j<c.size:=by rw [← Nat.blt_eq,hb];simp
  rw [Array.getElem?_eq_none (by omega)];rfl
 |true =>
  have:j<c.size:=by rw [← Nat.blt_eq,hb]
  simp only [absT_get N c.toList 0 j (Nat.zero_le _),Nat.sub_zero,Array.getElem?_toList]
  cases h:(c[j]?).bind (absC N)<;>simp
noncomputable def absO (N:Nat):List Obj→Nat→T AObj
 | [],_=>.lf
 | .cells c t fr::l,i=>T.set (absO N l (i+1)) i (.glob (absRow N c t fr))
 |_::l,i=>absO N l (i+1)
theorem absO_lt (N:Nat):∀ (l:List Obj) (i j:Nat),j<i→(absO N l i).get j=none
 | [],i,j,h=>rfl
 |o::l,i,j,h=>by
  cases o<;>unfold absO<;>first|(rw [T.get_set,if_neg (by omega)];exact absO_lt N l (i+1) j (by omega))|exact absO_lt N l (i+1) j (by omega)
noncomputable def rowOfObj (N:Nat):Obj→Option AObj
 | .cells c t fr=>some (.glob (absRow N c t fr))
 |_=>none
theorem absO_get (N:Nat):∀ (l:List Obj) (i j:Nat),i≤j→(absO N l i).get j=(l[j-i]?).bind (rowOfObj N)
 | [],i,j,h=>rfl
 |o::l,i,j,h=>by
  by_cases e:j=i
  ·subst e
   simp only [Nat.sub_self,List.getElem?_cons_zero,Option.bind_some]
   cases o<;>unfold absO rowOfObj<;>first|(rw [T.get_set,if_pos rfl])|exact absO_lt N l (j+1) j (by omega)
  ·have e2:j-i=(j-(i+1))+1:=by omega
   rw [e2,List.getElem?_cons_succ,← absO_get N l (i+1) j (by omega)]
   cases o<;>simp only [absO]<;>rw [T.get_set,if_neg e]
noncomputable def absM (W:World):Mem:=⟨absO W.heap.size W.heap.toList 0,W.heap.size⟩
theorem absM_get (W:World) (b:Nat):(absM W).objs.get b=(W.heap[b]?).bind (rowOfObj W.heap.size):=by
 show (absO W.heap.size W.heap.toList 0).get b=_
 rw [absO_get _ _ 0 b (Nat.zero_le _),Nat.sub_zero,Array.getElem?_toList]
theorem absM_some {W:World} {b:Nat} {o:AObj} (h:(absM W).objs.get b=some o):∃ c t fr,W.heap[b]? = some (.cells c t fr)∧o=.glob (absRow W.heap.size c t fr):=by
 rw [absM_get] at h
 obtain⟨ob,h1,h2⟩:=Option.bind_eq_some_iff.1 h
 cases ob with
 |cells c t fr=>simp only [rowOfObj,Option.some.injEq] at h2;exact⟨_,_,_,h1,h2.symm⟩
 |_=>cases h2
theorem absM_met (W:World) (h0:0<W.heap.size):MR Tryz.prog W.heap.size W (Env.globs W.heap.size) (absM W) W:=by
 have hE:∀ {b i},Env.globs W.heap.size b=some i→b<W.heap.size∧i=⟨b,0,0⟩:=by
  intro b i h
  unfold Env.globs at h
  split at h
  ·rename_i hb;simp only [Option.some.injEq] at h;exact⟨hb,h.symm⟩
  ·simp at h
 refine⟨fun b i o hb ho _=>?_,fun b i hb=>?_,fun b hb=>?_,fun b b' i i' o o' hne hb hb' ho ho' _ _=>?_,fun b i o hb ho hown=>?_,.refl _ _,Nat.le_refl _⟩
 ·obtain⟨c,t,fr,h1,rfl⟩:=absM_some ho
  obtain⟨_,rfl⟩:=hE hb
  refine⟨_,h1,.glob ⟨rfl,fun j v hv=>?_,?_,fun _=>⟨rfl,rfl⟩,?_⟩ rfl⟩
  ·rw [absRow_cell] at hv
   obtain⟨u,k1,k2⟩:=Option.bind_eq_some_iff.1 hv
   exact⟨u,by simpa using k1,absC_vr h0 k2⟩
  ·simp [absRow]
  ·show FzR (if fr.1=fr.2 then Fz.none else Fz.rng fr.1 fr.2) 0 c.size fr
   by_cases e:fr.1=fr.2
   ·rw [if_pos e];exact e
   ·rw [if_neg e];show fr=(0+fr.1,0+fr.2);simp
 ·exact (hE hb).2▸(hE hb).1
 ·refine⟨?_,by unfold Env.globs;rw [if_neg (by exact Nat.not_lt.2 hb)]⟩
  have hb':W.heap.size≤b:=hb
  rw [absM_get,Array.getElem?_eq_none hb'];rfl
 ·obtain⟨_,rfl⟩:=hE hb
  obtain⟨_,rfl⟩:=hE hb'
  exact hne
 ·obtain⟨_,_,_,_,rfl⟩:=absM_some ho
  simp [AObj.own] at hown
end Go.Proofs.YtgmkbdmgifdfeaaGreatDoor

set_option maxRecDepth 100000
namespace Go.Proofs.YtgmkbdmgifdfeaaGreatDoor
open Go Go.Ev Go.ChangeShapes Go.WideShapes Go.ChangeAt Go.RowKit
abbrev laidParses:List (String × DataW Unit):=Rows.scriptParsesRow.laid
theorem gES:Tryz.prog.globalNamed "strconv.ErrSyntax" = some 6:=by kernel_rfl
theorem gER:Tryz.prog.globalNamed "strconv.ErrRange" = some 7:=by kernel_rfl
theorem tES:(Tryz.prog.globals[6]?).map (·.type)=some 69:=by kernel_rfl
theorem tER:(Tryz.prog.globals[7]?).map (·.type)=some 69:=by kernel_rfl
theorem starE : "*" ++ "errors.errorString" = "*errors.errorString" := by decide
theorem rowES (u:TypeId) (h:Tryz.prog.typeName? 3 u=some "*errors.errorString"):u=202 :=
 typeName_ptr_named (nm := "errors.errorString") (by rw [starE];kernel_rfl) (by kernel_rfl) (by decide) u (by rw [starE];exact h)
theorem c204:Tryz.prog.cellsOf 204=1:=by kernel_rfl
theorem c9':Tryz.prog.cellsOf 9=1:=by kernel_rfl
theorem cell_lt {W:World} {a:Addr} {v:Value} (h:W.cell? a=some v):a.spot=none∧a.block<W.heap.size:=by
 obtain⟨b,o,s⟩:=a
 unfold World.cell? at h
 split at h
 ·rename_i c t fr hb
  simp only at hb h
  refine⟨?_,(Array.getElem?_eq_some_iff.1 hb).1⟩
  cases s with
  |none=>rfl
  |some s=>simp at h
 ·cases h
theorem err_row {W:World} {g:Nat} {nm:String} {a:Addr} {v:Value} (hg:Tryz.prog.globalNamed nm=some g) (hv:W.var? Tryz.prog nm=some #[.iface 202 (.pointer (some a))]) (hc:W.cell? a=some v) (hf:∃ c t,W.heap[g]? = some (.cells c t (0,0))) :
  g<W.heap.size∧∃ e t a,vw (absM W) g=some ⟨false,e,false,[.iface t (.pointer (some a))]⟩:=by
 obtain⟨c,t,hc2⟩:=hf
 have hsz:=(Array.getElem?_eq_some_iff.1 hc2).1
 refine⟨hsz,t,202,a,?_⟩
 simp only [World.var?,hg,Option.bind_some,hc2,Option.some.injEq] at hv
 subst hv
 obtain⟨h1,h2⟩:=cell_lt hc
 unfold vw
 rw [absM_get,hc2]
 show vwRow false (absRow W.heap.size _ t (0,0))=_
 refine vwRow_of (cs:=[.iface 202 (.pointer (some a))]) (by rfl) (by simp [absRow]) fun i=>?_
 rw [absRow_cell]
 match i with
 |0=>simp [absC,h1,h2]
 |i+1=>simp
theorem err_abs {W:World} (h:laidMet Tryz.prog laidParses W):8≤W.heap.size∧ErrAt (absM W):=by
 have hR:=h.tail.tail.tail.tail
 have hS:=hR.tail
 obtain⟨a,s,v1,c1,-,-⟩:=laid_sentinel hR gER tER Tryz.underlying69 rowES Tryz.underlying202 Tryz.underlying204 rfl rfl Tryz.underlying9 c204 c9'
 obtain⟨a',s',v2,c2,-,-⟩:=laid_sentinel hS gES tES Tryz.underlying69 rowES Tryz.underlying202 Tryz.underlying204 rfl rfl Tryz.underlying9 c204 c9'
 have fr:∀ {n:String} {d:DataW Unit} {r:List (String × DataW Unit)} {g:Nat} {x:Value},laidMet Tryz.prog ((n,d)::r) W→Tryz.prog.globalNamed n=some g→W.var? Tryz.prog n=some #[x]→∃ c t,W.heap[g]? = some (.cells c t (0,0)):=by
  rintro n d r g x ⟨ps,⟨g',t',cs,fuel,p,q,k1,k2,k3,k4,_,k5⟩,_,hr⟩ hg hv
  obtain rfl:=Option.some.inj (hg.symm.trans k1)
  obtain rfl:=Option.some.inj (hv.symm.trans k3)
  subst k5
  exact (hr g 0 (by simp [MemPlace.row])).1
 obtain⟨q1,q2⟩:=err_row gER v1 c1 (fr hR gER v1)
 obtain⟨q3,q4⟩:=err_row gES v2 c2 (fr hS gES v2)
 exact⟨by omega,by show 7<W.heap.size;exact q1,q4,q2⟩
end Go.Proofs.YtgmkbdmgifdfeaaGreatDoor

namespace Go.Proofs.YtgmkbdmgifdfeaaGreatDoor
open Go
theorem dig_byte {d:Nat} (h:d<10):(UInt8.ofNat (48+d)).toNat=48+d:=by
 rw [UInt8.toNat_ofNat'];omega
theorem dec_dig (u:Nat):(Lib.decDigits u).all isDig=true:=by
 induction u using Nat.strongRecOn with
 |_ u ih =>
  by_cases h:u<10
  ·rw [Lib.decDigits,dif_pos h]
   simp only [List.all_cons,List.all_nil,Bool.and_true,isDig,dig_byte h,decide_eq_true_eq];omega
  ·rw [Lib.decDigits,dif_neg h,List.all_append,ih (u / 10) (by omega)]
   simp only [List.all_cons,List.all_nil,Bool.and_true,isDig,dig_byte (show u%10<10 by omega),Bool.true_and,decide_eq_true_eq];omega
theorem dec_val (u:Nat):decVal (Lib.decDigits u)=u:=by
 induction u using Nat.strongRecOn with
 |_ u ih =>
  by_cases h:u<10
  ·rw [Lib.decDigits,dif_pos h]
   simp only [decVal,List.foldl_cons,List.foldl_nil,dig_byte h];omega
  ·rw [Lib.decDigits,dif_neg h]
   have:=ih (u / 10) (by omega)
   unfold decVal at this ⊢
   rw [List.foldl_append,this]
   simp only [List.foldl_cons,List.foldl_nil,dig_byte (show u%10<10 by omega)];omega
theorem dec_ne (u:Nat):Lib.decDigits u≠[]:=by
 rw [Lib.decDigits];split<;>simp
theorem dec_head (u:Nat):Lib.decDigits u=[48]∨(Lib.decDigits u).head? ≠ some 48:=by
 induction u using Nat.strongRecOn with
 |_ u ih =>
  by_cases h:u<10
  ·rw [Lib.decDigits,dif_pos h]
   by_cases h0:u=0
   ·subst h0;exact .inl rfl
   ·refine .inr fun e=>h0 ?_
    simp only [List.head?_cons,Option.some.injEq] at e
    have:=congrArg UInt8.toNat e
    rw [dig_byte h] at this
    simp at this;exact this
  ·rw [Lib.decDigits,dif_neg h]
   refine .inr fun e=>?_
   have hn:=dec_ne (u / 10)
   rw [List.head?_append] at e
   have e:(Lib.decDigits (u / 10)).head? = some 48:=by
    cases hd:Lib.decDigits (u / 10) with
    |nil=>exact absurd hd hn
    |cons a r=>rw [hd] at e;simpa using e
   rcases ih (u / 10) (by omega) with h1|h1
   ·have h2:=dec_val (u / 10)
    rw [h1] at h2
    simp [decVal] at h2
    omega
   ·exact h1 e
theorem num_dec {u b:Nat} (h:u≤b):numOf (Lib.decDigits u) b=some u:=by
 unfold numOf
 rw [dec_val,if_pos ⟨dec_ne u,dec_dig u,dec_head u,h⟩]
theorem dig_ne {c:UInt8} (h:isDig c=true):c≠45∧c≠34∧c≠35∧c≠32∧c≠9∧c≠10:=by
 simp only [isDig,decide_eq_true_eq] at h
 refine⟨?_,?_,?_,?_,?_,?_⟩<;>(rintro rfl;revert h;decide)
theorem intOf_dig {w:List UInt8} (h:w.all isDig=true):intOf w=(numOf w 2147483647).map fun v=>(v:Int):=by
 unfold intOf
 split
 ·rename_i r
  simp only [List.all_cons,Bool.and_eq_true] at h
  exact absurd h.1 (by decide)
 ·rfl
theorem int_itoa {z:Int} (h:greatI z=false):intOf (Lib.itoa z)=some z:=by
 simp only [greatI,Bool.or_eq_false_iff,decide_eq_false_iff_not] at h
 unfold Lib.itoa
 split
 ·simp only [intOf]
  rw [num_dec (by omega)]
  simp only
  rw [if_pos (by omega)]
  congr 1;omega
 ·have hn:numOf (Lib.decDigits z.toNat) 2147483647=some z.toNat:=num_dec (by omega)
  rw [intOf_dig (dec_dig _),hn]
  show some ((z.toNat:Nat):Int)=some z
  congr 1;omega
theorem long_dec {z:Int} (h:u64R z):longOf (Lib.decDigits z.toNat)=some z:=by
 obtain⟨h1,h2⟩:=h
 have hn:numOf (Lib.decDigits z.toNat) 18446744073709551615=some z.toNat:=num_dec (by omega)
 unfold longOf
 rw [hn]
 show some ((z.toNat:Nat):Int)=some z
 congr 1;omega
theorem mask_dec {z:Int} (h:u32R z):maskOf (Lib.decDigits z.toNat)=some z:=by
 obtain⟨h1,h2⟩:=h
 have hn:numOf (Lib.decDigits z.toNat) 4294967295=some z.toNat:=num_dec (by omega)
 unfold maskOf
 rw [hn]
 show some ((z.toNat:Nat):Int)=some z
 congr 1;omega
theorem hex_back:∀ n:Fin 16,hexOf (hexD n.val)=some n.val:=by decide
theorem hexD_plain:∀ n:Fin 16,hexD n.val≠34∧hexD n.val≠92∧hexD n.val≠10:=by decide
theorem hex_byte (c:UInt8):UInt8.ofNat (16*(c.toNat / 16)+c.toNat%16)=c:=by
 rw [show 16*(c.toNat / 16)+c.toNat%16=c.toNat by omega]
 exact UInt8.ofNat_toNat
theorem qByte_cases (c:UInt8):((c=34∨c=92)∧qByte c=[92,c])∨(c≠34∧c≠92∧32≤c.toNat∧c.toNat≤126∧qByte c=[c])∨(c=10∧qByte c=[92,110])∨(c=9∧qByte c=[92,116]) ∨
  (∃ a b:Fin 16,qByte c=[92,120,hexD a.val,hexD b.val]∧UInt8.ofNat (16*a.val+b.val)=c):=by
 unfold qByte
 by_cases h1:c=34∨c=92
 ·rw [if_pos h1];exact .inl ⟨h1,rfl⟩
 rw [if_neg h1]
 by_cases h2:32≤c.toNat∧c.toNat≤126
 ·rw [if_pos h2];exact .inr (.inl ⟨fun e=>h1 (.inl e),fun e=>h1 (.inr e),h2.1,h2.2,rfl⟩)
 rw [if_neg h2]
 by_cases h3:c=10
 ·rw [if_pos h3];exact .inr (.inr (.inl ⟨h3,rfl⟩))
 rw [if_neg h3]
 by_cases h4:c=9
 ·rw [if_pos h4];exact .inr (.inr (.inr (.inl ⟨h4,rfl⟩)))
 rw [if_neg h4]
 have:=c.toNat_lt
 exact .inr (.inr (.inr (.inr ⟨⟨c.toNat / 16,by omega⟩,⟨c.toNat%16,by omega⟩,rfl,hex_byte c⟩)))
theorem unq_step (c:UInt8) (r:List UInt8):unqGo (qByte c++r)=(unqGo r).map (c :: ·):=by
 rcases qByte_cases c with ⟨h,e⟩|⟨h1,h2,h3,h4,e⟩|⟨rfl,e⟩|⟨rfl,e⟩|⟨a,b,e,hc⟩<;>rw [e]
 ·rw [List.cons_append,List.cons_append,List.nil_append,unq_esc]
  rcases h with rfl|rfl<;>rfl
 ·rw [List.cons_append,List.nil_append,unq_plain r ⟨h3,h4,h1⟩ h2]
 ·rw [List.cons_append,List.cons_append,List.nil_append,unq_esc,if_pos rfl]
 ·rw [List.cons_append,List.cons_append,List.nil_append,unq_esc,if_neg (by decide),if_pos rfl]
 ·rw [List.cons_append,List.cons_append,List.cons_append,List.cons_append,List.nil_append,unq_esc,if_neg (by decide),if_neg (by decide),if_neg (by decide),if_pos rfl]
  simp only [hex_back,hc]
theorem unq_quote:∀ d:List UInt8,unqGo (d.flatMap qByte)=some d
 | []=>rfl
 |c::d=>by rw [List.flatMap_cons,unq_step,unq_quote d];rfl
theorem text_quote (d:List UInt8):textOf (quoteB d)=some d:=by
 unfold textOf quoteB
 rw [if_pos ⟨by simp,rfl,by simp [List.getLast?_cons]⟩]
 simp only [List.drop_succ_cons,List.drop_zero,List.dropLast_concat]
 exact unq_quote d
theorem qByte_nl (c:UInt8):∀ x∈qByte c,x≠10:=by
 intro x hx
 rcases qByte_cases c with ⟨h,e⟩|⟨h1,h2,h3,h4,e⟩|⟨rfl,e⟩|⟨rfl,e⟩|⟨a,b,e,hc⟩<;>rw [e] at hx<;>simp only [List.mem_cons,List.not_mem_nil,or_false] at hx
 ·rcases hx with rfl|rfl
  ·decide
  ·rcases h with rfl|rfl<;>decide
 ·subst hx;rintro rfl;revert h3;decide
 ·rcases hx with rfl|rfl<;>decide
 ·rcases hx with rfl|rfl<;>decide
 ·rcases hx with rfl|rfl|rfl|rfl
  ·decide
  ·decide
  ·exact (hexD_plain a).2.2
  ·exact (hexD_plain b).2.2
def PlainW (w:List UInt8):Prop:=w≠[]∧(∀ c∈w,isBl c=false)∧w.head? ≠ some 34
def GoodW (w:List UInt8):Prop:=PlainW w∨∃ d,w=quoteB d
theorem split_plain:∀ (w r:List UInt8) (acc:List (List UInt8)) (v:List UInt8),(∀ c∈w,isBl c=false)→splitGo (w++r) acc (some v) false false=splitGo r acc (some (v++w)) false false
 | [],r,acc,v,_=>by simp
 |c::w,r,acc,v,h=>by
  rw [List.cons_append,splitGo]
  simp only [Bool.false_eq_true,if_false,h c (.head _)]
  rw [split_plain w r acc (v++[c]) fun x hx=>h x (.tail _ hx)]
  simp
theorem split_q (c:UInt8) (r:List UInt8) (acc:List (List UInt8)) (v:List UInt8):splitGo (qByte c++r) acc (some v) true false=splitGo r acc (some (v++qByte c)) true false:=by
 have esc:∀ (x:UInt8) (r v:List UInt8),splitGo (92::x::r) acc (some v) true false=splitGo r acc (some (v++[92]++[x])) true false:=by
  intro x r v
  rw [splitGo.eq_def]
  simp only [Bool.false_eq_true,if_false,if_true]
  rw [splitGo.eq_def]
  simp only [if_true,Option.map_some]
 have pl:∀ (x:UInt8) (r v:List UInt8),x≠34→x≠92→splitGo (x::r) acc (some v) true false=splitGo r acc (some (v++[x])) true false:=by
  intro x r v h1 h2
  rw [splitGo]
  simp only [Bool.false_eq_true,if_false,if_true,h1,h2,Option.map_some]
 rcases qByte_cases c with ⟨h,e⟩|⟨h1,h2,h3,h4,e⟩|⟨rfl,e⟩|⟨rfl,e⟩|⟨a,b,e,hc⟩<;>rw [e]
 ·rw [List.cons_append,List.cons_append,List.nil_append,esc];simp
 ·rw [List.cons_append,List.nil_append,pl c r v h1 h2]
 ·rw [List.cons_append,List.cons_append,List.nil_append,esc];simp
 ·rw [List.cons_append,List.cons_append,List.nil_append,esc];simp
 ·rw [List.cons_append,List.cons_append,List.cons_append,List.cons_append,List.nil_append,esc,pl _ _ _ (hexD_plain a).1 (hexD_plain a).2.1,pl _ _ _ (hexD_plain b).1 (hexD_plain b).2.1];simp
theorem split_qs:∀ (d r:List UInt8) (acc:List (List UInt8)) (v:List UInt8),splitGo (d.flatMap qByte++r) acc (some v) true false=splitGo r acc (some (v++d.flatMap qByte)) true false
 | [],r,acc,v=>by simp
 |c::d,r,acc,v=>by
  rw [List.flatMap_cons,List.append_assoc,split_q,split_qs d]
  simp
theorem split_word {w:List UInt8} (h:GoodW w) (r:List UInt8) (acc:List (List UInt8)) (hr:atBl r=true) (h35:acc=[]→w.head? ≠ some 35):splitGo (w++r) acc none false false=splitGo r acc (some w) false false:=by
 rcases h with ⟨h1,h2,h3⟩|⟨d,rfl⟩
 ·cases w with
  |nil=>exact absurd rfl h1
  |cons c w =>
   have hc:c≠34:=fun e=>h3 (by rw [e];rfl)
   have h5:¬ (acc=[]∧c=35):=fun ⟨e,e2⟩=>h35 e (by rw [e2];rfl)
   rw [List.cons_append,splitGo]
   have hq:(c==34)=false:=by simpa using hc
   simp only [Bool.false_eq_true,if_false,h2 c (.head _),h5,hq]
   rw [split_plain w r acc [c] fun x hx=>h2 x (.tail _ hx)]
   simp
 ·unfold quoteB
  have h5:¬ (acc=[]∧(34:UInt8)=35):=fun ⟨_,e⟩=>absurd e (by decide)
  rw [List.cons_append,splitGo]
  have hb:isBl 34=false:=by decide
  simp only [Bool.false_eq_true,if_false,hb,h5,beq_self_eq_true,List.append_assoc]
  rw [split_qs,List.singleton_append,List.singleton_append,splitGo]
  have:(34:UInt8)≠92:=by decide
  simp only [Bool.false_eq_true,if_false,if_true,this,hr,Option.map_some]
  simp
theorem split_words:∀ (ws:List (List UInt8)) (acc:List (List UInt8)) (w:List UInt8),(∀ v∈ws,GoodW v)→splitGo (ws.flatMap fun v=>32::v) acc (some w) false false=some (acc++w::ws)
 | [],acc,w,_=>by simp [splitGo]
 |v::ws,acc,w,h=>by
  rw [List.flatMap_cons,List.cons_append,splitGo]
  have hb:isBl 32=true:=by decide
  simp only [Bool.false_eq_true,if_false,hb,if_true]
  rw [split_word (h v (.head _)) _ _ (by cases ws<;>simp [atBl,isBl]) (by simp),split_words ws (acc++[w]) v fun x hx=>h x (.tail _ hx)]
  simp
theorem split_line {w:List UInt8} {ws:List (List UInt8)} (h:GoodW w) (h35:w.head? ≠ some 35) (hs:∀ v∈ws,GoodW v):splitOf (w++ws.flatMap fun v=>32::v)=some (w::ws):=by
 unfold splitOf
 rw [split_word h _ _ (by cases ws<;>simp [atBl,isBl]) (fun _=>h35),split_words ws [] w hs]
 rfl
theorem cut_line:∀ (l r:List UInt8),(∀ c∈l,c≠10)→cutLines (l++10::r)=l::cutLines r
 | [],r,_=>by simp [cutLines]
 |c::l,r,h=>by
  rw [List.cons_append,cutLines,if_neg (h c (.head _)),cut_line l r fun x hx=>h x (.tail _ hx)]
end Go.Proofs.YtgmkbdmgifdfeaaGreatDoor

namespace Go.Proofs.YtgmkbdmgifdfeaaGreatDoor
open Go
def Fd.words:Fd→Stp→List (List UInt8)
 | .stream,s=>[Lib.itoa s.stream] | .qc,s=>[Lib.itoa s.qc] | .qb,s=>[Lib.itoa s.qb] | .place,s=>[Lib.itoa s.place] | .pos,s=>[Lib.itoa s.pos] | .cursor,s=>[Lib.itoa s.cursor]
 | .time,s=>[Lib.decDigits s.time.toNat] | .life,s=>[Lib.decDigits s.life.toNat] | .seq,s=>[Lib.decDigits s.seq.toNat] | .to,s=>[Lib.decDigits s.to.toNat] | .ticks,s=>[Lib.decDigits s.ticks.toNat] | .mask,s=>[Lib.decDigits s.mask.toNat]
 | .data,s=>[quoteB s.data]
 | .way,s=>[if s.way=1 then expressB else freightB]
 | .choices,s=>s.choices.map Lib.itoa
theorem text_words (f:Fd) (s:Stp):f.text s=(f.words s).flatMap fun v=>32::v:=by
 cases f<;>simp only [Fd.text,Fd.words,List.flatMap_cons,List.flatMap_nil,List.append_nil,decI,decU]
 ·split<;>rfl
 ·rw [List.flatMap_map];rfl
theorem texts_words (fs:List Fd) (s:Stp):(fs.flatMap fun f=>f.text s)=(fs.flatMap fun f=>f.words s).flatMap fun v=>32::v:=by
 rw [List.flatMap_assoc]
 congr 1;funext f;exact text_words f s
def Fd.put:Fd→Stp→Stp→Stp
 | .stream,s,a => { a with stream:=s.stream } | .qc,s,a => { a with qc:=s.qc } | .qb,s,a => { a with qb:=s.qb } | .place,s,a => { a with place:=s.place } | .pos,s,a => { a with pos:=s.pos } | .cursor,s,a => { a with cursor:=s.cursor }
 | .time,s,a => { a with time:=s.time } | .life,s,a => { a with life:=s.life } | .seq,s,a => { a with seq:=s.seq } | .to,s,a => { a with to:=s.to } | .ticks,s,a => { a with ticks:=s.ticks } | .mask,s,a => { a with mask:=s.mask }
 | .data,s,a => { a with data:=s.data } | .way,s,a => { a with way:=s.way } | .choices,s,a => { a with choices:=a.choices++s.choices }
theorem itoa_words:∀ l:List Int,l.any greatI=false→allInts (l.map Lib.itoa)=some l
 | [],_=>rfl
 |z::l,h=>by
  simp only [List.any_cons,Bool.or_eq_false_iff] at h
  simp only [List.map_cons,allInts,int_itoa h.1,itoa_words l h.2,Option.map_some]
theorem read_put {f:Fd} {s:Stp} (a:Stp) (ws:List (List UInt8)) (hR:s.R) (hg:f.great s=false) (hw:f=.way→s.way=1∨s.way=2) (hc:f=.choices→ws=[]):f.read a (f.words s++ws)=some (f.put s a,ws):=by
 cases f<;>simp only [Fd.great] at hg<;>simp only [Fd.words,Fd.read,Fd.put,List.cons_append,List.nil_append]
 case way =>
  rcases hw rfl with h|h<;>rw [h]
  ·rfl
  ·rfl
 case choices =>
  rw [hc rfl,List.append_nil,itoa_words _ hg];rfl
 case data=>rw [text_quote];rfl
 case mask=>rw [mask_dec hR.mask];rfl
 case time=>rw [long_dec hR.time];rfl
 case life=>rw [long_dec hR.life];rfl
 case seq=>rw [long_dec hR.seq];rfl
 case to=>rw [long_dec hR.to];rfl
 case ticks=>rw [long_dec hR.ticks];rfl
 all_goals rw [int_itoa hg];rfl
def lastCh:List Fd→Bool
 | []=>true
 | .choices::r=>r.isEmpty
 |_::r=>lastCh r
theorem reads_put {s:Stp} (hR:s.R) (hw:s.way=1∨s.way=2∨True):∀ (fs:List Fd) (a:Stp),lastCh fs=true→(∀ f∈fs,f.great s=false)→(Fd.way∈fs→s.way=1∨s.way=2) →
  readFds fs a (fs.flatMap fun f=>f.words s)=some (fs.foldl (fun a f=>f.put s a) a,[])
 | [],a,_,_,_=>rfl
 |f::fs,a,hl,hg,hy=>by
  have hc:f=.choices→fs=[]:=by
   rintro rfl
   simp only [lastCh,List.isEmpty_iff] at hl;exact hl
  have hl2:lastCh fs=true:=by
   cases f<;>simp only [lastCh,List.isEmpty_iff] at hl<;>first|exact hl|(subst hl;rfl)
  rw [List.flatMap_cons,readFds,read_put a _ hR (hg f (.head _)) (fun e=>hy (e▸.head _)) (fun e=>by rw [hc e];rfl)]
  simp only
  rw [reads_put hR hw fs _ hl2 (fun g h=>hg g (.tail _ h)) (fun h=>hy (.tail _ h))]
  rfl
def canon (s:Stp):Stp:=(fieldsOf s.kind.toNat).foldl (fun a f=>f.put s a) { stp0 with kind:=s.kind,node:=if s.kind=1 then 0 else s.node }
def stepWords (s:Stp):List (List UInt8):=(if s.kind=1 then [] else [Lib.itoa s.node])++wordOf s.kind.toNat::(fieldsOf s.kind.toNat).flatMap fun f=>f.words s
theorem kind_word:∀ k:Fin 23,1≤k.val→kindOf (wordOf k.val)=some k.val:=by decide
theorem kind_last:∀ k:Fin 23,lastCh (fieldsOf k.val)=true:=by decide
theorem word_not12:∀ k:Fin 23,¬ (wordOf k.val=[49]∨wordOf k.val=[50]):=by decide
theorem word_notworld:∀ k:Fin 23,wordOf k.val≠worldB:=by decide
theorem word_plain:∀ k:Fin 23,1≤k.val→wordOf k.val≠[]∧(∀ c∈wordOf k.val,isBl c=false)∧(wordOf k.val).head? ≠ some 34∧(wordOf k.val).head? ≠ some 35∧∀ c∈wordOf k.val,c≠10:=by decide
theorem way_kinds:∀ k:Fin 23,(fieldsOf k.val).any (fun f=>match f with | .way=>true|_=>false)=true→9≤k.val∧k.val≤12:=by decide
theorem way_mem {k:Nat} (h:Fd.way∈fieldsOf k) (hk:k<23):9≤k∧k≤12 :=
 way_kinds ⟨k,hk⟩ (List.any_eq_true.2 ⟨_,h,rfl⟩)
theorem dig_plain {w:List UInt8} (h:w.all isDig=true) (hne:w≠[]):PlainW w∧w.head? ≠ some 35∧∀ c∈w,c≠10:=by
 have hd:∀ c∈w,isDig c=true:=List.all_eq_true.1 h
 refine⟨⟨hne,fun c hc=>?_,fun e=>?_⟩,fun e=>?_,fun c hc=>(dig_ne (hd c hc)).2.2.2.2.2⟩
 ·obtain⟨_,_,_,h4,h5,_⟩:=dig_ne (hd c hc)
  unfold isBl
  simp [h4,h5]
 ·exact (dig_ne (hd _ (List.mem_of_mem_head? e))).2.1 rfl
 ·exact (dig_ne (hd _ (List.mem_of_mem_head? e))).2.2.1 rfl
theorem itoa_plain (z:Int):PlainW (Lib.itoa z)∧(Lib.itoa z).head? ≠ some 35∧∀ c∈Lib.itoa z,c≠10:=by
 unfold Lib.itoa
 split
 ·obtain⟨⟨h1,h2,h3⟩,h4,h5⟩:=dig_plain (dec_dig z.natAbs) (dec_ne _)
  refine⟨⟨by simp,fun c hc=>?_,by simp⟩,by simp,fun c hc=>?_⟩
  ·rcases List.mem_cons.1 hc with rfl|hc
   ·decide
   ·exact h2 c hc
  ·rcases List.mem_cons.1 hc with rfl|hc
   ·decide
   ·exact h5 c hc
 ·exact dig_plain (dec_dig _) (dec_ne _)
theorem quote_nl (d:List UInt8):∀ c∈quoteB d,c≠10:=by
 intro c hc
 unfold quoteB at hc
 simp only [List.mem_cons,List.mem_append,List.mem_flatMap,List.not_mem_nil,or_false] at hc
 rcases hc with rfl|⟨a,_,h⟩|rfl
 ·decide
 ·exact qByte_nl a c h
 ·decide
theorem field_good (f:Fd) (s:Stp):∀ w∈f.words s,GoodW w∧∀ c∈w,c≠10:=by
 have hi:∀ z:Int,GoodW (Lib.itoa z)∧∀ c∈Lib.itoa z,c≠10:=fun z=>⟨.inl (itoa_plain z).1,(itoa_plain z).2.2⟩
 have hu:∀ n:Nat,GoodW (Lib.decDigits n)∧∀ c∈Lib.decDigits n,c≠10:=fun n=>⟨.inl (dig_plain (dec_dig n) (dec_ne n)).1,(dig_plain (dec_dig n) (dec_ne n)).2.2⟩
 intro w hw
 cases f<;>simp only [Fd.words,List.mem_cons,List.not_mem_nil,or_false,List.mem_map] at hw
 case data=>subst hw;exact⟨.inr ⟨_,rfl⟩,quote_nl _⟩
 case way =>
  subst hw
  split
  ·exact⟨.inl ⟨by decide,by decide,by decide⟩,by decide⟩
  ·exact⟨.inl ⟨by decide,by decide,by decide⟩,by decide⟩
 case choices=>obtain⟨z,_,rfl⟩:=hw;exact hi z
 all_goals subst hw;first|exact hi _|exact hu _
theorem fields_good (fs:List Fd) (s:Stp):∀ w∈fs.flatMap (fun f=>f.words s),GoodW w∧∀ c∈w,c≠10:=by
 intro w hw
 obtain⟨f,_,h⟩:=List.mem_flatMap.1 hw
 exact field_good f s w h
def joinW:List (List UInt8)→List UInt8
 | []=>[]
 |w::ws=>w++ws.flatMap fun v=>32::v
theorem step_line (s:Stp):stepLine s=joinW (stepWords s)++[10]:=by
 unfold stepLine stepWords
 rw [texts_words]
 split<;>simp [joinW]
theorem stepOk_kind {s:Stp} (h:stepOk s=true):∃ k:Nat,s.kind=k∧1≤k∧k<23∧(k=1∨s.node=1∨s.node=2)∧(9≤k∧k≤12→s.way=1∨s.way=2):=by
 simp only [stepOk,Bool.and_eq_true,Bool.or_eq_true,decide_eq_true_eq,Bool.not_eq_true',decide_eq_false_iff_not] at h
 obtain⟨⟨⟨h1,h2⟩,h3⟩,h4⟩:=h
 refine⟨s.kind.toNat,by omega,by omega,by omega,?_,fun hk=>?_⟩
 ·rcases h3 with (h|h)|h
  ·exact .inl (by omega)
  ·exact .inr (.inl h)
  ·exact .inr (.inr h)
 ·rcases h4 with (h|h)|h
  ·omega
  ·exact .inl h
  ·exact .inr h
theorem stepWords_good {s:Stp} (h:stepOk s=true):∃ w ws,stepWords s=w::ws∧GoodW w∧w.head? ≠ some 35∧w≠worldB∧(∀ v∈ws,GoodW v)∧(∀ c∈joinW (w::ws),c≠10):=by
 obtain⟨k,hk,h1,h2,h3,-⟩:=stepOk_kind h
 have hkn:s.kind.toNat=k:=by omega
 obtain⟨p1,p2,p3,p4,p5⟩:=word_plain ⟨k,h2⟩ h1
 have jn:∀ (w:List UInt8) (ws:List (List UInt8)),(∀ c∈w,c≠10)→(∀ v∈ws,∀ c∈v,c≠10)→∀ c∈joinW (w::ws),c≠10:=by
  intro w ws a b c hc
  rcases List.mem_append.1 hc with h|h
  ·exact a c h
  ·obtain⟨v,hv,h⟩:=List.mem_flatMap.1 h
   rcases List.mem_cons.1 h with rfl|h
   ·decide
   ·exact b v hv c h
 have hf:=fields_good (fieldsOf k) s
 unfold stepWords
 rw [hkn]
 by_cases e:s.kind=1
 ·rw [if_pos e]
  exact⟨_,_,rfl,.inl ⟨p1,p2,p3⟩,p4,word_notworld ⟨k,h2⟩,fun v hv=>(hf v hv).1,jn _ _ p5 fun v hv=>(hf v hv).2⟩
 ·rw [if_neg e]
  obtain⟨q1,q2,q3⟩:=itoa_plain s.node
  refine⟨_,_,rfl,.inl q1,q2,?_,fun v hv=>?_,jn _ _ q3 fun v hv=>?_⟩
  ·rcases h3 with h|h|h
   ·omega
   ·rw [h];decide +kernel
   ·rw [h];decide +kernel
  ·rcases List.mem_cons.1 hv with rfl|hv
   ·exact .inl ⟨p1,p2,p3⟩
   ·exact (hf v hv).1
  ·rcases List.mem_cons.1 hv with rfl|hv
   ·exact p5
   ·exact (hf v hv).2
theorem itoa1:Lib.itoa 1=[49]:=by
 unfold Lib.itoa;rw [if_neg (by decide)]
 exact Lib.decDigits_one (by decide)
theorem itoa2:Lib.itoa 2=[50]:=by
 unfold Lib.itoa;rw [if_neg (by decide)]
 exact Lib.decDigits_one (by decide)
theorem step_read {s:Stp} (hR:s.R) (h:stepOk s=true) (hg:stepGreat s=false):stepOf (stepWords s)=some (canon s):=by
 obtain⟨k,hk,h1,h2,h3,h4⟩:=stepOk_kind h
 have hkn:s.kind.toNat=k:=by omega
 have hgr:∀ f∈fieldsOf k,f.great s=false:=by
  unfold stepGreat at hg
  rw [hkn] at hg
  intro f hf
  simpa using (List.any_eq_false.1 hg) f hf
 have hrd:=fun a=>reads_put hR (.inr (.inr trivial)) (fieldsOf k) a (kind_last ⟨k,h2⟩) hgr (fun hm=>h4 (way_mem hm h2))
 unfold stepOf stepWords canon
 rw [hkn]
 by_cases e:s.kind=1
 ·have hk1:k=1:=by omega
  subst hk1
  rw [if_pos e,List.nil_append]
  have hn:nodeOf (wordOf 1::(fieldsOf 1).flatMap fun f=>f.words s)=some (0,wordOf 1,(fieldsOf 1).flatMap fun f=>f.words s):=by
   unfold nodeOf
   simp only
   rw [if_neg (word_not12 ⟨1,h2⟩)]
  rw [hn]
  simp only
  rw [kind_word ⟨1,h2⟩ h1]
  simp only
  rw [if_pos (by decide),if_pos e]
  have hcast:((1:Nat):Int)=s.kind:=by omega
  rw [hcast,hrd]
 ·rw [if_neg e,if_neg e]
  have hn:nodeOf ([Lib.itoa s.node]++wordOf k::(fieldsOf k).flatMap fun f=>f.words s)=some (s.node,wordOf k,(fieldsOf k).flatMap fun f=>f.words s):=by
   unfold nodeOf
   rcases h3 with h|h|h
   ·omega
   ·rw [h,itoa1];rfl
   ·rw [h,itoa2];rfl
  rw [hn]
  simp only
  rw [kind_word ⟨k,h2⟩ h1]
  simp only
  have hpos:0<s.node:=by rcases h3 with h|h|h<;>omega
  have hk1:k≠1:=by omega
  rw [if_pos (by simp [hk1,hpos]),← hk,hrd]
theorem joinW_cons (w:List UInt8) (ws:List (List UInt8)):joinW (w::ws)=w++ws.flatMap fun v=>32::v:=rfl
theorem line_read {s:Stp} (hR:s.R) (h:stepOk s=true) (hg:stepGreat s=false):lineOf (joinW (stepWords s))=some (.step (canon s)):=by
 have hr:=step_read hR h hg
 obtain⟨w,ws,e,g1,g2,g3,g4,g5⟩:=stepWords_good h
 rw [e] at hr ⊢
 unfold lineOf
 rw [joinW_cons,split_line g1 g2 g4]
 simp only
 rw [if_neg g3,hr];rfl
def headWords (x:Stu):List (List UInt8):=[Lib.itoa x.sectors,Lib.itoa x.room,Lib.decDigits x.start.toNat,Lib.itoa x.mtu,Lib.decDigits x.ack.toNat,Lib.decDigits x.retry.toNat,Lib.itoa x.retries,Lib.itoa x.window,Lib.itoa x.inbox]
theorem head_line (x:Stu):headLine x=joinW (worldB::headWords x)++[10]:=by
 unfold headLine headWords
 simp [joinW,decI,decU,worldB]
theorem headWords_good (x:Stu):∀ w∈headWords x,GoodW w∧∀ c∈w,c≠10:=by
 have hi:∀ z:Int,GoodW (Lib.itoa z)∧∀ c∈Lib.itoa z,c≠10:=fun z=>⟨.inl (itoa_plain z).1,(itoa_plain z).2.2⟩
 have hu:∀ n:Nat,GoodW (Lib.decDigits n)∧∀ c∈Lib.decDigits n,c≠10:=fun n=>⟨.inl (dig_plain (dec_dig n) (dec_ne n)).1,(dig_plain (dec_dig n) (dec_ne n)).2.2⟩
 intro w hw
 simp only [headWords,List.mem_cons,List.not_mem_nil,or_false] at hw
 rcases hw with rfl|rfl|rfl|rfl|rfl|rfl|rfl|rfl|rfl<;>first|exact hi _|exact hu _
theorem head_read {x:Stu} (hR:x.R) (hg:headGreat x=false):headOf (headWords x)=some x:=by
 simp only [headGreat,Bool.or_eq_false_iff] at hg
 obtain⟨⟨⟨⟨⟨h1,h2⟩,h3⟩,h4⟩,h5⟩,h6⟩:=hg
 simp only [headOf,headWords,int_itoa h1,int_itoa h2,int_itoa h3,int_itoa h4,int_itoa h5,int_itoa h6,long_dec hR.start,long_dec hR.ack,long_dec hR.retry]
theorem hline_read {x:Stu} (hR:x.R) (hg:headGreat x=false):lineOf (joinW (worldB::headWords x))=some (.head x):=by
 unfold lineOf
 rw [joinW_cons,split_line (.inl ⟨by decide,by decide,by decide⟩) (by decide) fun v hv=>(headWords_good x v hv).1]
 simp only [if_true,head_read hR hg,Option.map_some]
theorem hline_nl (x:Stu):∀ c∈joinW (worldB::headWords x),c≠10:=by
 intro c hc
 rcases List.mem_append.1 hc with h|h
 ·have hw:∀ c∈worldB,c≠10:=by decide
  exact hw c h
 ·obtain⟨v,hv,h⟩:=List.mem_flatMap.1 h
  rcases List.mem_cons.1 h with rfl|h
  ·decide
  ·exact (headWords_good x v hv).2 c h
theorem steps_go (x:Stu):∀ (l:List Stp) (done:List Stp) (n:Int),(∀ s∈l,s.R∧stepOk s=true∧stepGreat s=false) →
  parseGo ⟨x,done,true⟩ n (cutLines (l.flatMap stepLine))=(x,done++l.map canon,0,0)
 | [],done,n,_=>by
   have:lineOf []=some .nothing:=rfl
   simp [cutLines,parseGo,takeLn,this]
 |s::l,done,n,h=>by
  obtain⟨h1,h2,h3⟩:=h s (.head _)
  obtain⟨w,ws,e,-,-,-,-,g5⟩:=stepWords_good h2
  rw [List.flatMap_cons,step_line,List.append_assoc,List.singleton_append,cut_line _ _ (by rw [e];exact g5),parseGo]
  have:takeLn ⟨x,done,true⟩ (joinW (stepWords s))=some ⟨x,done++[canon s],true⟩:=by
   unfold takeLn
   rw [line_read h1 h2 h3];rfl
  rw [this]
  simp only
  rw [steps_go x l (done++[canon s]) (n+1) fun t ht=>h t (.tail _ ht)]
  simp
theorem parse_print {x:Stu} {l:List Stp} (hx:x.R) (hl:∀ s∈l,s.R) {t:List UInt8} (h:printOut x l=(t,0)):t=printText x l∧t.length≤1048576∧parseOut t=(x,l.map canon,0,0)∧(∀ s∈l,stepOk s=true∧stepGreat s=false)∧headGreat x=false:=by
 unfold printOut at h
 split at h
 ·rename_i hok
  split at h
  ·cases h
  ·rename_i hgr
   split at h
   ·cases h
   ·rename_i hlen
    obtain rfl:printText x l=t:=(Prod.mk.inj h).1
    simp only [printGreat,Bool.not_eq_true,Bool.or_eq_false_iff] at hgr
    have hs:∀ s∈l,stepOk s=true∧stepGreat s=false:=fun s hs=>⟨List.all_eq_true.1 hok s hs,by simpa using (List.any_eq_false.1 hgr.2) s hs⟩
    refine⟨rfl,by omega,?_,hs,hgr.1⟩
    unfold parseOut
    rw [if_neg hlen]
    unfold printText
    rw [head_line,List.append_assoc,List.singleton_append,cut_line _ _ (hline_nl x),parseGo]
    have:takeLn ⟨stu0,[],false⟩ (joinW (worldB::headWords x))=some ⟨x,[],true⟩:=by
     unfold takeLn
     rw [hline_read hx hgr.1];rfl
    rw [this]
    simp only
    rw [steps_go x l [] _ fun s h=>⟨hl s h,hs s h⟩]
    rfl
 ·cases h
end Go.Proofs.YtgmkbdmgifdfeaaGreatDoor

