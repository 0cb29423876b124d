/- A part of a proof: ScriptOwn. -/
import Derived.BigCall
import Derived.BigGuard
import Derived.ChangeArms
import Derived.DataReads
import Derived.Deep.Slices
import Derived.LaidLaws
import Derived.Lib.AppendIntMem
import Derived.Lib.AtoiErrMem
import Derived.Lib.ItoaMem
import Derived.Lib.Walk
import Derived.OpenShut
import Derived.ProofKit
import Derived.Shelf.LaysM
import Derived.Shelf.Strconv.Itoa0
import Derived.Shelf.Strconv.Itoa1
import Derived.Shelf.Strconv.Itoa2
import Derived.Shelf.Strconv.Itoa3
import Derived.Stop.LaidErr
import Derived.WalkKit
import Derived.Test.YtgmkbdmgifdfeaaGreatDoorRows
import Derived.Test.YtgmkbdmgifdfeaaGreatDoorF25
set_option linter.unusedVariables false
set_option linter.unusedSimpArgs false
namespace Go.Proofs.YtgmkbdmgifdfeaaGreatDoor
open Go Go.Ev Go.RowKit
theorem mr_below {P:Program} {N:Nat} {w0 w w':World} {E:Env} {m:Mem} (HM:MR P N w0 E m w) (hb:Below w.heap.size w w'):MR P N w0 E m w' :=
 ⟨fun b i o hb1 ho hl=>by rw [hb.block _ (HM.ub b i hb1)];exact HM.objs b i o hb1 ho hl,fun b i h=>Nat.lt_of_lt_of_le (HM.ub b i h) hb.size,HM.dom,HM.inj,HM.own,HM.base.trans (hb.mono HM.size),Nat.le_trans HM.size hb.size⟩
theorem pow_gName:Tryz.prog.globalNamed "internal/strconv.uint64pow10" = some 0:=by kernel_rfl
theorem arr_eq (l:List UInt8):(⟨l.toArray⟩:ByteArray)=⟨⟨l⟩⟩:=rfl
theorem ov_cases {f:Nat} {g:List Value→Mem→Option (Value × Mem)} (h:ovs.get f=some g):(f=30∧g=closedOv formsV formsRows)∨(f=67∧g=closedOv rrowsV rrowsRows)∨(f=130∧g=puOv)∨(f=108∧g=idxOv)∨(f=118∧g=cutOv)∨(f=131∧g=ibOv)∨(f=22∧g=lsOv 29 5 1)∨(f=23∧g=lsOv 34 3 1)∨(f=24∧g=lsOv 27 36 17)∨(f=21∧g=knOv):=by
 rw [ovs,setAll_get,Option.map_eq_some_iff] at h
 obtain⟨⟨k,g'⟩,h1,rfl⟩:=h
 have h2:=List.find?_some h1
 have h3:=List.mem_of_find?_eq_some h1
 simp only [decide_eq_true_eq] at h2
 subst h2
 simp only [ovL,List.mem_cons,Prod.mk.injEq,List.not_mem_nil,or_false] at h3
 exact h3
theorem mr_dead {P:Program} {N:Nat} {w0 w:World} {E:Env} {m:Mem} (HM:MR P N w0 E m w) {k:Nat} (hk:k<w.heap.size):MR P N w0 (E.add m.next ⟨k,0,0⟩) (newObjA m .dead) w:=by
 have hn:=(HM.dom m.next (Nat.le_refl _)).2
 refine⟨fun b i o hb ho hl=>?_,fun b i hb=>?_,fun b hb=>?_,fun b b' i i' o o' hne hb hb' ho ho' hl hl'=>?_,fun b i o hb ho hown=>?_,HM.base,HM.size⟩
 ·rw [get_newObjA] at ho
  by_cases e:b=m.next
  ·rw [if_pos e] at ho;cases ho;cases hl
  ·rw [if_neg e] at ho
   simp only [Env.add,if_neg e] at hb
   obtain⟨ob,h1,h2⟩:=HM.objs b i o hb ho hl
   exact⟨ob,h1,h2.mono (Env.add_le hn)⟩
 ·by_cases e:b=m.next
  ·subst e;obtain rfl:=Option.some.inj (Env.add_at.symm.trans hb);exact hk
  ·simp only [Env.add,if_neg e] at hb;exact HM.ub b i hb
 ·rw [next_newObjA] at hb
  obtain⟨h1,h2⟩:=HM.dom b (by omega)
  exact⟨by rw [get_newObjA,if_neg (by omega)];exact h1,by simp only [Env.add];rw [if_neg (by omega)];exact h2⟩
 ·rw [get_newObjA] at ho ho'
  by_cases e:b=m.next
  ·rw [if_pos e] at ho;cases ho;cases hl
  by_cases e':b'=m.next
  ·rw [if_pos e'] at ho';cases ho';cases hl'
  rw [if_neg e] at ho;rw [if_neg e'] at ho'
  simp only [Env.add,if_neg e] at hb
  simp only [Env.add,if_neg e'] at hb'
  exact HM.inj b b' i i' o o' hne hb hb' ho ho' hl hl'
 ·rw [get_newObjA] at ho
  by_cases e:b=m.next
  ·rw [if_pos e] at ho;cases ho;cases hown
  ·rw [if_neg e] at ho
   simp only [Env.add,if_neg e] at hb
   exact HM.own b i o hb ho hown
theorem err_cell [E0C] {N:Nat} {w0 w:World} {E:Env} {m:Mem} (HM:MR Tryz.prog N w0 E m w) (HG:GlobE 8 E) {b:Nat} (hb:b<8) (h:∃ e t a,vw m b=some ⟨false,e,false,[.iface t (.pointer (some a))]⟩) :
  ∃ ev,w.cell? ⟨b,0,none⟩=some ev∧(ev=.nilIface∨∃ te pe,ev=.iface te pe):=by
 obtain⟨e,t,a,hv⟩:=h
 obtain⟨r,h1,h2,h3,h4,h5,h6,_⟩:=vw_spec hv
 have hE:=HG.g b hb
 obtain⟨cells,elem,fr,g1,g2⟩:=HM.row hE h1
 obtain⟨v',k1,k2⟩:=g2.cell 0 _ (h6 0)
 simp only [Nat.zero_add] at k1 g1
 refine⟨v',?_,?_⟩
 ·unfold World.cell?
  simp only [g1]
  exact k1
 ·cases k2 with
  |iface t h=>exact .inr ⟨_,_,rfl⟩
theorem closedOv_some {V:Value} {rows:List CRow} {args:List Value} {m m':Mem} {v:Value} (h:closedOv V rows args m=some (v,m')):args=[]∧8≤m.next∧v=renV 8 m.next V∧m'=layRows m (rows.map (CRow.ren 8 m.next)):=by
 unfold closedOv at h
 split at h
 ·split at h
  ·rename_i hb
   simp only [Option.some.injEq,Prod.mk.injEq] at h
   exact⟨rfl,by simpa using hb,h.1.symm,h.2.symm⟩
  ·cases h
 ·cases h
theorem puOv_some {args:List Value} {m m':Mem} {v:Value} (h:puOv args m=some (v,m')):∃ s,args=[.string s,.int .i64 10,.int .i64 64]∧s.data.toList.length≤281474976710656∧ErrAt m ∧
  ((∃ u,Lib.parseUintB 64 s.data.toList=.ok u∧v=.tuple ⟨[.int .u64 (u:Int),.nilIface]⟩∧m'=m)∨(Lib.parseUintB 64 s.data.toList=Lib.parseUintB 64 []∧v=.tuple ⟨[.int .u64 0,.iface 195 (.pointer (some ⟨m.next,0,none⟩))]⟩∧m'=newObjA m .dead) ∨
    (Lib.parseUintB 64 s.data.toList=.range∧v=.tuple ⟨[.int .u64 18446744073709551615,.iface 195 (.pointer (some ⟨m.next,0,none⟩))]⟩∧m'=newObjA m .dead)):=by
 unfold puOv at h
 split at h
 ·rename_i s b z
  split at h
  ·rename_i hc
   obtain⟨rfl,rfl,h1,h2⟩:=hc
   refine⟨s,rfl,h1,h2,?_⟩
   split at h
   ·rename_i u hu
    simp only [Option.some.injEq,Prod.mk.injEq] at h
    exact .inl ⟨u,hu,h.1.symm,h.2.symm⟩
   ·rename_i hu
    simp only [Option.some.injEq,Prod.mk.injEq] at h
    exact .inr (.inr ⟨hu,h.1.symm,h.2.symm⟩)
   ·rename_i hu1 hu2
    simp only [Option.some.injEq,Prod.mk.injEq] at h
    refine .inr (.inl ⟨?_,h.1.symm,h.2.symm⟩)
    cases hx:Lib.parseUintB 64 s.data.toList
    ·exact absurd hx (hu1 _)
    ·rfl
    ·exact absurd hx hu2
  ·cases h
 ·cases h
theorem knOv_some {args:List Value} {m m':Mem} {v:Value} (h:knOv args m=some (v,m')):args=[]∧8≤m.next∧PowAt m∧v=.bool true∧m'=m:=by
 unfold knOv at h
 split at h
 ·split at h
  ·rename_i hc
   simp only [Option.some.injEq,Prod.mk.injEq] at h
   exact⟨rfl,hc.1,hc.2,h.1.symm,h.2.symm⟩
  ·cases h
 ·cases h
theorem lsOv_some {te e:TypeId} {sz:Nat} {args:List Value} {m m':Mem} {v:Value} (h:lsOv te e sz args m=some (v,m')):v=.bool true∧((args=[.slice none 0 0]∧m'=m)∨∃ (lb:Nat) (l:List Ent),args=[.slice (some ⟨lb,0,none⟩) l.length l.length]∧LsIn m te e sz lb l∧m'=killM m (lb::l.flatMap Ent.blk)):=by
 unfold lsOv at h
 split at h
 ·simp only [Option.some.injEq,Prod.mk.injEq] at h
  exact⟨h.1.symm,.inl ⟨rfl,h.2.symm⟩⟩
 ·rename_i lb n c
  split at h
  ·rename_i hl
   simp only [Option.some.injEq,Prod.mk.injEq] at h
   obtain⟨h1,h2,h3⟩:=Classical.choose_spec hl
   refine⟨h.1.symm,.inr ⟨lb,Classical.choose hl,?_,h3,h.2.symm⟩⟩
   rw [← h1,h2,← h1]
  ·cases h
 ·cases h
theorem ls_case [E0C] {N:Nat} {w0:World} (pk:∀ (I:E0C),@ProgOk I tbz N 8 w0) {f:FuncId} {te e:TypeId} {sz:Nat} (hsz:Tryz.prog.cellsOf e=sz)
  (hrun:∀ (m:Mem) (arg:Value) (l:List Enf),LsAt m te e sz arg l→CallsA tbz f [arg] m (retR fun r m'=>r=.bool true∧∀ x,x<m.next→x∉l.flatMap Enf.blk→m'.objs.get x=m.objs.get x))
  {args args':List Value} {m m':Mem} {v:Value} {E:Env} {w:World} (hr:lsOv te e sz args m=some (v,m')) (HM:MR Tryz.prog N w0 E m w) (HG:GlobE 8 E) (ha:VRs E args args') :
  Calls Tryz.prog f ⟨args'⟩ w fun ex w'=>∃ v' E',ex=.returned v'∧VR E' v v'∧MR Tryz.prog N w0 E' m' w'∧MExt m.next E m E' m':=by
 obtain⟨rfl,⟨rfl,rfl⟩|⟨lb,l,rfl,hl,rfl⟩⟩:=lsOv_some hr
 ·exact lists_calls0 pk hrun HM HG.g ha
 ·exact lists_calls pk hsz hrun HM HG.g hl ha
theorem pkTb [I0:E0C] (N:Nat) (w0:World):ProgOk tb N 8 w0:=by
 have pk:∀ (I:E0C) (N':Nat) (w0':World),@ProgOk I (mkTabs Tryz.prog 8 .lf) N' 8 w0':=fun I N' w0' => @progOk_of I _ _ _ _ good
 refine progOk_ov (pk I0 N w0) fun f g hg=>?_
 rcases ov_cases hg with ⟨rfl,rfl⟩|⟨rfl,rfl⟩|⟨rfl,rfl⟩|⟨rfl,rfl⟩|⟨rfl,rfl⟩|⟨rfl,rfl⟩|⟨rfl,rfl⟩|⟨rfl,rfl⟩|⟨rfl,rfl⟩|⟨rfl,rfl⟩
 ·refine⟨⟨_,_,Tryz.func30,rfl⟩,fun args m v m' hr E args' w HM HG ha=>?_⟩
  obtain⟨rfl,hn,rfl,rfl⟩:=closedOv_some hr
  cases ha
  exact closed_calls pk forms_ran HM HG hn
 ·refine⟨⟨_,_,Tryz.func67,rfl⟩,fun args m v m' hr E args' w HM HG ha=>?_⟩
  obtain⟨rfl,hn,rfl,rfl⟩:=closedOv_some hr
  cases ha
  exact closed_calls pk rrows_ran HM HG hn
 ·refine⟨⟨_,_,Tryz.func130,rfl⟩,fun args m v m' hr E args' w HM HG ha=>?_⟩
  obtain⟨s,rfl,hl,⟨h7,e6,e7⟩,hcase⟩:=puOv_some hr
  have hsz:s.size≤281474976710656:=hl
  cases ha with|cons a1 t=>cases a1;cases t with|cons a2 t=>cases a2;cases t with|cons a3 t =>
  cases a3;cases t
  rcases hcase with ⟨u,hu,rfl,rfl⟩|⟨hu,rfl,rfl⟩|⟨hu,rfl,rfl⟩
  ·refine (Tryz.strconv_ParseUint_10_at64_ok s (by omega) u hu w).mono ?_
   rintro e w' ⟨rfl,hw⟩
   refine⟨_,E,rfl,.tuple (.cons (.int _ _) (.cons .nilIface .nil)),?_,.refl _ _ _⟩
   rcases hw with rfl|rfl
   ·exact HM
   ·exact mr_below HM (Lib.bytesWorld_below w 5 s)
  ·obtain⟨ev,c1,c2⟩:=err_cell HM HG (b:=6) (by omega) e6
   refine (Tryz.strconv_ParseUint_10_at64_syntax s hsz hu ev w c1 c2).mono ?_
   rintro e w' ⟨k,rfl,hk,hcell,hb⟩
   have HM2:=mr_dead (mr_below HM hb) (k:=k) (Array.getElem?_eq_some_iff.1 hcell).1
   have hn:=(HM.dom m.next (Nat.le_refl _)).2
   refine⟨_,_,rfl,.tuple (.cons (.int _ _) (.cons (.iface _ ?_) .nil)),HM2,(MExt.lay HM .dead).trans (MExt.mat hn (Nat.le_refl _))⟩
   exact .ptr (o:=0) (i:=⟨k,0,0⟩) Env.add_at
  ·obtain⟨ev,c1,c2⟩:=err_cell HM HG (b:=7) (by omega) e7
   refine (Tryz.strconv_ParseUint_10_at64_range s hsz hu ev w c1 c2).mono ?_
   rintro e w' ⟨k,rfl,hk,hcell,hb⟩
   have HM2:=mr_dead (mr_below HM hb) (k:=k) (Array.getElem?_eq_some_iff.1 hcell).1
   have hn:=(HM.dom m.next (Nat.le_refl _)).2
   refine⟨_,_,rfl,.tuple (.cons (.int _ _) (.cons (.iface _ ?_) .nil)),HM2,(MExt.lay HM .dead).trans (MExt.mat hn (Nat.le_refl _))⟩
   exact .ptr (o:=0) (i:=⟨k,0,0⟩) Env.add_at
 ·refine⟨⟨_,_,Tryz.func108,rfl⟩,fun args m v m' hr E args' w HM HG ha=>?_⟩
  unfold idxOv at hr
  split at hr<;>first|(cases hr;done)|skip
  rename_i s c
  simp only [Option.some.injEq,Prod.mk.injEq] at hr
  obtain⟨rfl,rfl⟩:=hr
  cases ha with|cons a1 t=>cases a1;cases t with|cons a2 t =>
  cases a2;cases t
  refine (Tryz.strings_Index_one s c w).mono ?_
  rintro e w' ⟨rfl,rfl⟩
  exact⟨_,E,rfl,.int _ _,HM,.refl _ _ _⟩
 ·refine⟨⟨_,_,Tryz.func118,rfl⟩,fun args m v m' hr E args' w HM HG ha=>?_⟩
  unfold cutOv at hr
  split at hr<;>first|(cases hr;done)|skip
  rename_i s p
  simp only [Option.some.injEq,Prod.mk.injEq] at hr
  obtain⟨rfl,rfl⟩:=hr
  cases ha with|cons a1 t=>cases a1;cases t with|cons a2 t =>
  cases a2;cases t
  refine (Tryz.strings_CutPrefix s p w).mono ?_
  rintro e w' ⟨rfl,rfl⟩
  exact⟨_,E,rfl,.tuple (.cons (.string _) (.cons (.bool _) .nil)),HM,.refl _ _ _⟩
 ·refine⟨⟨_,_,Tryz.func131,rfl⟩,fun args m v m' hr E args' w HM HG ha=>?_⟩
  unfold ibOv at hr
  split at hr<;>first|(cases hr;done)|skip
  rename_i s c
  simp only [Option.some.injEq,Prod.mk.injEq] at hr
  obtain⟨rfl,rfl⟩:=hr
  cases ha with|cons a1 t=>cases a1;cases t with|cons a2 t =>
  cases a2;cases t
  refine (Tryz.strings_IndexByte s c w).mono ?_
  rintro e w' ⟨rfl,rfl⟩
  exact⟨_,E,rfl,.int _ _,HM,.refl _ _ _⟩
 ·exact⟨⟨_,_,Tryz.func22,rfl⟩,fun args m v m' hr E args' w HM HG ha=>ls_case (fun I=>pk I N w0) (by kernel_rfl) (fun _ _ _=>apart22) hr HM HG ha⟩
 ·exact⟨⟨_,_,Tryz.func23,rfl⟩,fun args m v m' hr E args' w HM HG ha=>ls_case (fun I=>pk I N w0) (by kernel_rfl) (fun _ _ _=>apart23) hr HM HG ha⟩
 ·exact⟨⟨_,_,Tryz.func24,rfl⟩,fun args m v m' hr E args' w HM HG ha=>ls_case (fun I=>pk I N w0) (by kernel_rfl) (fun _ _ _=>apart24) hr HM HG ha⟩
 ·refine⟨⟨_,_,Tryz.func21,rfl⟩,fun args m v m' hr E args' w HM HG ha=>?_⟩
  obtain⟨rfl,h8,hp,rfl,rfl⟩:=knOv_some hr
  cases ha
  refine (knows_calls HM HG hp h8).mono ?_
  rintro e w' ⟨rfl,hb⟩
  exact⟨_,E,rfl,.bool _,mr_below HM hb,.refl _ _ _⟩
end Go.Proofs.YtgmkbdmgifdfeaaGreatDoor

set_option maxRecDepth 4000
namespace Go.Proofs.YtgmkbdmgifdfeaaGreatDoor
open Go Go.Ev Go.Deep
def absC (N:Nat):Value→Option Value
 | .int k n=>some (.int k n)
 | .slice none l c=>some (.slice none l c)
 | .slice (some a) l c=>if l=0∧c=0 then some (.slice (some ⟨0,0,none⟩) 0 0) else if a.spot=none∧a.block<N then some (.slice (some a) l c) else none
 | .iface t (.pointer (some a))=>if a.spot=none∧a.block<N then some (.iface t (.pointer (some a))) else none
 |_=>none
theorem globs_at {N b:Nat} (h:b<N):Env.globs N b=some ⟨b,0,0⟩:=by unfold Env.globs;rw [if_pos h]
theorem absC_vr {N:Nat} (hN:0<N) {v v':Value} (h:absC N v=some v'):VR (Env.globs N) v' v:=by
 unfold absC at h
 split at h
 ·cases h;exact .int _ _
 ·cases h;exact .slNil _ _
 ·rename_i a l c
  split at h
  ·rename_i h0
   obtain⟨rfl,rfl⟩:=h0
   cases h
   exact .slD _ (globs_at hN)
  ·split at h
   ·rename_i h1
    obtain⟨b,o,s⟩:=a
    obtain⟨h1,h2⟩:=h1
    simp only at h1 h2;subst h1
    cases h
    have:=VR.sl (E:=Env.globs N) (o:=o) l c (globs_at h2)
    simpa using this
   ·cases h
 ·rename_i t a
  split at h
  ·rename_i h1
   obtain⟨b,o,s⟩:=a
   obtain⟨h1,h2⟩:=h1
   simp only at h1 h2;subst h1
   cases h
   have:=VR.ptr (E:=Env.globs N) (o:=o) (globs_at h2)
   exact .iface t (by simpa using this)
  ·cases h
 ·cases h
noncomputable def absT (N:Nat):List Value→Nat→T Value
 | [],_=>.lf
 |v::l,i=>match absC N v with|some v'=>T.set (absT N l (i+1)) i v'|none=>absT N l (i+1)
theorem absT_lt (N:Nat):∀ (l:List Value) (i j:Nat),j<i→(absT N l i).get j=none
 | [],i,j,h=>rfl
 |v::l,i,j,h=>by
  unfold absT
  split
  ·rw [T.get_set,if_neg (by omega)];exact absT_lt N l (i+1) j (by omega)
  ·exact absT_lt N l (i+1) j (by omega)
theorem absT_get (N:Nat):∀ (l:List Value) (i j:Nat),i≤j→(absT N l i).get j=(l[j-i]?).bind (absC N)
 | [],i,j,h=>rfl
 |v::l,i,j,h=>by
  unfold absT
  by_cases e:j=i
  ·subst e
   simp only [Nat.sub_self,List.getElem?_cons_zero,Option.bind_some]
   split
   ·rename_i v' hv;rw [T.get_set,if_pos rfl,hv]
   ·rename_i hv;rw [absT_lt N l (j+1) j (by omega),hv]
  ·have e2:j-i=(j-(i+1))+1:=by omega
   rw [e2,List.getElem?_cons_succ]
   split
   ·rw [T.get_set,if_neg e];exact absT_get N l (i+1) j (by omega)
   ·exact absT_get N l (i+1) j (by omega)
noncomputable def absRow (N:Nat) (c:Array Value) (t:TypeId) (fr:Nat × Nat):Row:=⟨absT N c.toList 0,c.size,[],t,if fr.1=fr.2 then .none else .rng fr.1 fr.2,false⟩
theorem absRow_cell (N:Nat) (c:Array Value) (t:TypeId) (fr:Nat × Nat) (j:Nat):cellAt (absRow N c t fr) j=(c[j]?).bind (absC N):=by
 unfold cellAt absRow
 simp only
 cases hb:Nat.blt j c.size with
 |false =>
  have:¬ j<c.size:=by rw [← Nat.blt_eq,hb];simp
  rw [Array.getElem?_eq_none (by omega)];rfl
 |true =>
  have:j<c.size:=by rw [← Nat.blt_eq,hb]
  simp only [absT_get N c.toList 0 j (Nat.zero_le _),Nat.sub_zero,Array.getElem?_toList]
  cases h:(c[j]?).bind (absC N)<;>simp
noncomputable def absO (N:Nat):List Obj→Nat→T AObj
 | [],_=>.lf
 | .cells c t fr::l,i=>T.set (absO N l (i+1)) i (.glob (absRow N c t fr))
 |_::l,i=>absO N l (i+1)
theorem absO_lt (N:Nat):∀ (l:List Obj) (i j:Nat),j<i→(absO N l i).get j=none
 | [],i,j,h=>rfl
 |o::l,i,j,h=>by
  cases o<;>unfold absO<;>first|(rw [T.get_set,if_neg (by omega)];exact absO_lt N l (i+1) j (by omega))|exact absO_lt N l (i+1) j (by omega)
noncomputable def rowOfObj (N:Nat):Obj→Option AObj
 | .cells c t fr=>some (.glob (absRow N c t fr))
 |_=>none
theorem absO_get (N:Nat):∀ (l:List Obj) (i j:Nat),i≤j→(absO N l i).get j=(l[j-i]?).bind (rowOfObj N)
 | [],i,j,h=>rfl
 |o::l,i,j,h=>by
  by_cases e:j=i
  ·subst e
   simp only [Nat.sub_self,List.getElem?_cons_zero,Option.bind_some]
   cases o<;>unfold absO rowOfObj<;>first|(rw [T.get_set,if_pos rfl])|exact absO_lt N l (j+1) j (by omega)
  ·have e2:j-i=(j-(i+1))+1:=by omega
   rw [e2,List.getElem?_cons_succ,← absO_get N l (i+1) j (by omega)]
   cases o<;>simp only [absO]<;>rw [T.get_set,if_neg e]
noncomputable def absM (W:World):Mem:=⟨absO W.heap.size W.heap.toList 0,W.heap.size⟩
theorem absM_get (W:World) (b:Nat):(absM W).objs.get b=(W.heap[b]?).bind (rowOfObj W.heap.size):=by
 show (absO W.heap.size W.heap.toList 0).get b=_
 rw [absO_get _ _ 0 b (Nat.zero_le _),Nat.sub_zero,Array.getElem?_toList]
theorem absM_some {W:World} {b:Nat} {o:AObj} (h:(absM W).objs.get b=some o):∃ c t fr,W.heap[b]? = some (.cells c t fr)∧o=.glob (absRow W.heap.size c t fr):=by
 rw [absM_get] at h
 obtain⟨ob,h1,h2⟩:=Option.bind_eq_some_iff.1 h
 cases ob with
 |cells c t fr=>simp only [rowOfObj,Option.some.injEq] at h2;exact⟨_,_,_,h1,h2.symm⟩
 |_=>cases h2
theorem absM_met (W:World) (h0:0<W.heap.size):MR Tryz.prog W.heap.size W (Env.globs W.heap.size) (absM W) W:=by
 have hE:∀ {b i},Env.globs W.heap.size b=some i→b<W.heap.size∧i=⟨b,0,0⟩:=by
  intro b i h
  unfold Env.globs at h
  split at h
  ·rename_i hb;simp only [Option.some.injEq] at h;exact⟨hb,h.symm⟩
  ·simp at h
 refine⟨fun b i o hb ho _=>?_,fun b i hb=>?_,fun b hb=>?_,fun b b' i i' o o' hne hb hb' ho ho' _ _=>?_,fun b i o hb ho hown=>?_,.refl _ _,Nat.le_refl _⟩
 ·obtain⟨c,t,fr,h1,rfl⟩:=absM_some ho
  obtain⟨_,rfl⟩:=hE hb
  refine⟨_,h1,.glob ⟨rfl,fun j v hv=>?_,?_,fun _=>⟨rfl,rfl⟩,?_⟩ rfl⟩
  ·rw [absRow_cell] at hv
   obtain⟨u,k1,k2⟩:=Option.bind_eq_some_iff.1 hv
   exact⟨u,by simpa using k1,absC_vr h0 k2⟩
  ·simp [absRow]
  ·show FzR (if fr.1=fr.2 then Fz.none else Fz.rng fr.1 fr.2) 0 c.size fr
   by_cases e:fr.1=fr.2
   ·rw [if_pos e];exact e
   ·rw [if_neg e];show fr=(0+fr.1,0+fr.2);simp
 ·exact (hE hb).2▸(hE hb).1
 ·refine⟨?_,by unfold Env.globs;rw [if_neg (by exact Nat.not_lt.2 hb)]⟩
  have hb':W.heap.size≤b:=hb
  rw [absM_get,Array.getElem?_eq_none hb'];rfl
 ·obtain⟨_,rfl⟩:=hE hb
  obtain⟨_,rfl⟩:=hE hb'
  exact hne
 ·obtain⟨_,_,_,_,rfl⟩:=absM_some ho
  simp [AObj.own] at hown
end Go.Proofs.YtgmkbdmgifdfeaaGreatDoor

set_option maxRecDepth 100000
namespace Go.Proofs.YtgmkbdmgifdfeaaGreatDoor
open Go Go.Ev Go.ChangeShapes Go.WideShapes Go.ChangeAt Go.RowKit
abbrev laidParses:List (String × DataW Unit):=Rows.scriptParsesRow.laid
theorem gES:Tryz.prog.globalNamed "strconv.ErrSyntax" = some 6:=by kernel_rfl
theorem gER:Tryz.prog.globalNamed "strconv.ErrRange" = some 7:=by kernel_rfl
theorem tES:(Tryz.prog.globals[6]?).map (·.type)=some 69:=by kernel_rfl
theorem tER:(Tryz.prog.globals[7]?).map (·.type)=some 69:=by kernel_rfl
theorem starE : "*" ++ "errors.errorString" = "*errors.errorString" := by decide
theorem rowES (u:TypeId) (h:Tryz.prog.typeName? 3 u=some "*errors.errorString"):u=202 :=
 typeName_ptr_named (nm := "errors.errorString") (by rw [starE];kernel_rfl) (by kernel_rfl) (by decide) u (by rw [starE];exact h)
theorem c204:Tryz.prog.cellsOf 204=1:=by kernel_rfl
theorem c9':Tryz.prog.cellsOf 9=1:=by kernel_rfl
theorem cell_lt {W:World} {a:Addr} {v:Value} (h:W.cell? a=some v):a.spot=none∧a.block<W.heap.size:=by
 obtain⟨b,o,s⟩:=a
 unfold World.cell? at h
 split at h
 ·rename_i c t fr hb
  simp only at hb h
  refine⟨?_,(Array.getElem?_eq_some_iff.1 hb).1⟩
  cases s with
  |none=>rfl
  |some s=>simp at h
 ·cases h
theorem err_row {W:World} {g:Nat} {nm:String} {a:Addr} {v:Value} (hg:Tryz.prog.globalNamed nm=some g) (hv:W.var? Tryz.prog nm=some #[.iface 202 (.pointer (some a))]) (hc:W.cell? a=some v) (hf:∃ c t,W.heap[g]? = some (.cells c t (0,0))) :
  g<W.heap.size∧∃ e t a,vw (absM W) g=some ⟨false,e,false,[.iface t (.pointer (some a))]⟩:=by
 obtain⟨c,t,hc2⟩:=hf
 have hsz:=(Array.getElem?_eq_some_iff.1 hc2).1
 refine⟨hsz,t,202,a,?_⟩
 simp only [World.var?,hg,Option.bind_some,hc2,Option.some.injEq] at hv
 subst hv
 obtain⟨h1,h2⟩:=cell_lt hc
 unfold vw
 rw [absM_get,hc2]
 show vwRow false (absRow W.heap.size _ t (0,0))=_
 refine vwRow_of (cs:=[.iface 202 (.pointer (some a))]) (by rfl) (by simp [absRow]) fun i=>?_
 rw [absRow_cell]
 match i with
 |0=>simp [absC,h1,h2]
 |i+1=>simp
theorem err_abs {W:World} (h:laidMet Tryz.prog laidParses W):8≤W.heap.size∧ErrAt (absM W):=by
 have hR:=h.tail.tail.tail.tail
 have hS:=hR.tail
 obtain⟨a,s,v1,c1,-,-⟩:=laid_sentinel hR gER tER Tryz.underlying69 rowES Tryz.underlying202 Tryz.underlying204 rfl rfl Tryz.underlying9 c204 c9'
 obtain⟨a',s',v2,c2,-,-⟩:=laid_sentinel hS gES tES Tryz.underlying69 rowES Tryz.underlying202 Tryz.underlying204 rfl rfl Tryz.underlying9 c204 c9'
 have fr:∀ {n:String} {d:DataW Unit} {r:List (String × DataW Unit)} {g:Nat} {x:Value},laidMet Tryz.prog ((n,d)::r) W→Tryz.prog.globalNamed n=some g→W.var? Tryz.prog n=some #[x]→∃ c t,W.heap[g]? = some (.cells c t (0,0)):=by
  rintro n d r g x ⟨ps,⟨g',t',cs,fuel,p,q,k1,k2,k3,k4,_,k5⟩,_,hr⟩ hg hv
  obtain rfl:=Option.some.inj (hg.symm.trans k1)
  obtain rfl:=Option.some.inj (hv.symm.trans k3)
  subst k5
  exact (hr g 0 (by simp [MemPlace.row])).1
 obtain⟨q1,q2⟩:=err_row gER v1 c1 (fr hR gER v1)
 obtain⟨q3,q4⟩:=err_row gES v2 c2 (fr hS gES v2)
 exact⟨by omega,by show 7<W.heap.size;exact q1,q4,q2⟩
end Go.Proofs.YtgmkbdmgifdfeaaGreatDoor

namespace Go.Proofs.YtgmkbdmgifdfeaaGreatDoor
open Go
theorem map_cases {α β : Type} {x:Option α} {f : α → β} {b : β} (h:x.map f=some b):∃ a,x=some a∧f a=b:=Option.map_eq_some_iff.1 h
end Go.Proofs.YtgmkbdmgifdfeaaGreatDoor

namespace Go.Proofs.YtgmkbdmgifdfeaaGreatDoor
open Go
theorem headOf_R {ws:List (List UInt8)} {x:Stu} (h:headOf ws=some x):x.R:=by
 unfold headOf at h
 split at h
 ·split at h
  ·cases h
   rename_i h1 h2 h3 h4 h5 h6 h7 h8 h9
   exact⟨intOf_R h4,longOf_R h5,longOf_R h6,intOf_R h7,intOf_R h8,intOf_R h9,intOf_R h1,intOf_R h2,longOf_R h3⟩
  ·cases h
 ·cases h
theorem stu0_R:stu0.R:=by constructor<;>(constructor<;>decide)
theorem map_le {o:Option (List UInt8)} {f:List UInt8→List UInt8} {v:List UInt8} {a b:Nat} (h:o.map f=some v) (ho:∀ u,o=some u→u.length≤a) (hf:∀ u,(f u).length≤u.length+b):v.length≤a+b:=by
 obtain⟨u,h1,rfl⟩:=map_cases h
 have:=ho u h1
 have:=hf u
 omega
theorem unq_le:∀ (n:Nat) (l v:List UInt8),l.length≤n→unqGo l=some v→v.length≤l.length
 |_,[],v,_,h=>by cases h;simp
 |0,c::r,v,hn,h=>by simp at hn
 |n+1,c::r,v,hn,h=>by
  simp only [List.length_cons] at hn ⊢
  by_cases h1:32≤c.toNat∧c.toNat≤126∧c≠34
  ·by_cases h2:c=92
   ·subst h2
    cases r with
    |nil=>rw [unq_esc0] at h;cases h
    |cons d r2 =>
     simp only [List.length_cons] at hn ⊢
     rw [unq_esc] at h
     have hr:=fun u (hu:unqGo r2=some u)=>unq_le n r2 u (by omega) hu
     split at h
     ·have:=map_le (b:=1) h hr (by simp);omega
     split at h
     ·have:=map_le (b:=1) h hr (by simp);omega
     split at h
     ·have:=map_le (b:=1) h hr (by simp);omega
     split at h
     ·split at h
      ·rename_i a b r3
       simp only [List.length_cons] at hn ⊢
       split at h
       ·have:=map_le (b:=1) h (fun u hu=>unq_le n r3 u (by omega) hu) (by simp);omega
       ·cases h
      ·cases h
     ·cases h
   ·rw [unq_plain r h1 h2] at h
    have:=map_le (b:=1) h (fun u hu=>unq_le n r u (by omega) hu) (by simp);omega
  ·rw [unq_bad r h1] at h;cases h
theorem text_le {w v:List UInt8} (h:textOf w=some v):v.length≤w.length:=by
 unfold textOf at h
 split at h
 ·have:=unq_le _ _ _ (Nat.le_refl _) h
  simp at this;omega
 ·cases h
theorem read_D {B:Nat} {f:Fd} {a b:Stp} {ws ws':List (List UInt8)} (h:f.read a ws=some (b,ws')) (ha:a.data.length≤B) (hw:∀ w∈ws,w.length≤B):b.data.length≤B∧∀ w∈ws',w.length≤B:=by
 cases f
 case choices =>
  obtain⟨l,h1,h2⟩:=map_cases h
  cases h2
  exact⟨ha,by simp⟩
 case data =>
  cases ws with
  |nil=>cases h
  |cons w ws =>
   obtain⟨v,h1,h2⟩:=map_cases h
   cases h2
   exact⟨Nat.le_trans (text_le h1) (hw w (.head _)),fun x hx=>hw x (.tail _ hx)⟩
 all_goals
  cases ws with
  |nil=>cases h
  |cons w ws =>
   obtain⟨v,h1,h2⟩:=map_cases h
   cases h2
   exact⟨ha,fun x hx=>hw x (.tail _ hx)⟩
theorem reads_D {B:Nat}:∀ {fs:List Fd} {a b:Stp} {ws ws':List (List UInt8)},readFds fs a ws=some (b,ws')→a.data.length≤B→(∀ w∈ws,w.length≤B)→b.data.length≤B
 | [],a,b,ws,ws',h,ha,_=>by cases h;exact ha
 |f::fs,a,b,ws,ws',h,ha,hw=>by
  rw [readFds] at h
  cases hr:f.read a ws with
  |none=>rw [hr] at h;cases h
  |some y =>
   rw [hr] at h
   obtain⟨h1,h2⟩:=read_D hr ha hw
   exact reads_D h h1 h2
theorem stepOf_D {B:Nat} {ws:List (List UInt8)} {s:Stp} (h:stepOf ws=some s) (hw:∀ w∈ws,w.length≤B):s.data.length≤B:=by
 unfold stepOf at h
 cases hn:nodeOf ws with
 |none=>rw [hn] at h;cases h
 |some y =>
  obtain⟨n,w,vs⟩:=y
  rw [hn] at h
  simp only at h
  have hv:∀ v∈vs,v∈ws:=by
   unfold nodeOf at hn
   split at hn
   ·cases hn
   ·split at hn
    ·split at hn
     ·cases hn
     ·cases hn;exact fun v hv=>.tail _ (.tail _ hv)
    ·cases hn;exact fun v hv=>.tail _ hv
  split at h
  ·cases h
  ·split at h
   ·split at h
    ·rename_i hr
     cases h
     exact reads_D hr (Nat.zero_le _) fun v h=>hw v (hv v h)
    ·cases h
   ·cases h
theorem line_W {l:List UInt8}:(∀ s,lineOf l=some (.step s)→weight s≤310*(l.length+1))∧∀ x,lineOf l=some (.head x)→x.R:=by
 constructor
 ·intro s h
  obtain⟨h1,h2⟩:=line_R h
  have hne:l≠[]:=by rintro rfl;cases h
  have hd:s.data.length≤l.length:=by
   unfold lineOf at h
   cases hs:splitOf l with
   |none=>rw [hs] at h;cases h
   |some ws =>
    have hl:=(split_len l [] none false false ws l.length hs (by simp) (by simp) (Nat.le_refl _)).2
    rw [hs] at h
    cases ws with
    |nil=>cases h
    |cons w ws =>
     simp only at h
     split at h
     ·obtain⟨y,k1,k2⟩:=map_cases h;cases k2
     ·obtain⟨y,k1,k2⟩:=map_cases h
      cases k2
      exact stepOf_D k1 hl
  have:0<l.length:=by cases l<;>simp at hne ⊢
  unfold weight
  omega
 ·intro x h
  unfold lineOf at h
  split at h
  ·cases h
  ·cases h
  ·split at h
   ·obtain⟨y,k1,k2⟩:=map_cases h
    cases k2
    exact headOf_R k1
   ·obtain⟨y,k1,k2⟩:=map_cases h;cases k2
def lens (ls:List (List UInt8)):Nat:=(ls.map fun l=>l.length+1).sum
theorem cut_lens:∀ t:List UInt8,lens (cutLines t)=t.length+1
 | []=>rfl
 |c::t=>by
  have ih:=cut_lens t
  unfold cutLines
  split
  ·simp only [lens,List.map_cons,List.sum_cons,List.length_nil,List.length_cons] at ih ⊢;omega
  ·split
   ·rename_i x r hc
    rw [hc] at ih
    simp only [lens,List.map_cons,List.sum_cons,List.length_cons] at ih ⊢;omega
   ·rename_i hc;exact absurd hc (cutLines_ne t)
theorem weights_snoc (l:List Stp) (s:Stp):weights (l++[s])=weights l+weight s:=by simp [weights]
theorem go_W:∀ (ls:List (List UInt8)) (s:Scr) (n:Int) (c:Nat),s.setup.R→weights s.steps≤310*c→(parseGo s n ls).1.R∧weights (parseGo s n ls).2.1≤310*(c+lens ls)
 | [],s,n,c,h1,h2=>by
   unfold parseGo
   split
   ·exact⟨h1,by simp only [lens,List.map_nil,List.sum_nil];omega⟩
   ·exact⟨stu0_R,by simp [weights]⟩
 |l::ls,s,n,c,h1,h2=>by
  rw [parseGo]
  obtain⟨w1,w2⟩:=line_W (l:=l)
  cases ht:takeLn s l with
  |none=>exact⟨stu0_R,by simp [weights]⟩
  |some s' =>
   simp only
   have h':s'.setup.R∧weights s'.steps≤310*(c+(l.length+1)):=by
    unfold takeLn at ht
    cases hl:lineOf l with
    |none=>rw [hl] at ht;cases ht
    |some y =>
     rw [hl] at ht
     cases y with
     |nothing=>cases ht;exact⟨h1,by omega⟩
     |head x =>
      simp only at ht
      split at ht
      ·cases ht
      ·cases ht;exact⟨w2 x hl,by show weights s.steps≤_;omega⟩
     |step t =>
      simp only at ht
      split at ht
      ·cases ht
       have:=w1 t hl
       exact⟨h1,by show weights (s.steps++[t])≤_;rw [weights_snoc];omega⟩
      ·cases ht
   obtain⟨g1,g2⟩:=go_W ls s' (n+1) _ h'.1 h'.2
   refine⟨g1,Nat.le_trans g2 ?_⟩
   simp only [lens,List.map_cons,List.sum_cons];omega
theorem parse_W (t:List UInt8):(parseOut t).1.R∧weights (parseOut t).2.1≤330000000:=by
 unfold parseOut
 split
 ·exact⟨stu0_R,by simp [weights]⟩
 ·obtain⟨h1,h2⟩:=go_W (cutLines t) ⟨stu0,[],false⟩ 0 0 stu0_R (by simp [weights])
  rw [cut_lens] at h2
  exact⟨h1,by omega⟩
end Go.Proofs.YtgmkbdmgifdfeaaGreatDoor

set_option maxRecDepth 8000
namespace Go.Proofs.YtgmkbdmgifdfeaaGreatDoor
open Go Go.Ev
theorem box_stu (m1:Mem) (x:Stu):∃ m2,m2=stM (newObjA m1 (zeroObj 26 9 [Value.int IntKind.i64 0,Value.int IntKind.u64 0,Value.int IntKind.u64 0,Value.int IntKind.i64 0,Value.int IntKind.i64 0,Value.int IntKind.i64 0,Value.int IntKind.i64 0,Value.int IntKind.i64 0,Value.int IntKind.u64 0])) m1.next 0 [Value.int IntKind.i64 x.mtu,Value.int IntKind.u64 x.ack,Value.int IntKind.u64 x.retry,Value.int IntKind.i64 x.retries,Value.int IntKind.i64 x.window,Value.int IntKind.i64 x.inbox,Value.int IntKind.i64 x.sectors,Value.int IntKind.i64 x.room,Value.int IntKind.u64 x.start] ∧
  m2.next=m1.next+1∧vw m2 m1.next=some ⟨true,26,false,[Value.int IntKind.i64 x.mtu,Value.int IntKind.u64 x.ack,Value.int IntKind.u64 x.retry,Value.int IntKind.i64 x.retries,Value.int IntKind.i64 x.window,Value.int IntKind.i64 x.inbox,Value.int IntKind.i64 x.sectors,Value.int IntKind.i64 x.room,Value.int IntKind.u64 x.start]⟩∧(∀ y,y<m1.next→m2.objs.get y=m1.objs.get y)∧Old m1.next m1 m2:=by
 obtain⟨m2,h1,h2,h3,h4⟩:=alloc_st' m1 26 9 [Value.int IntKind.i64 0,Value.int IntKind.u64 0,Value.int IntKind.u64 0,Value.int IntKind.i64 0,Value.int IntKind.i64 0,Value.int IntKind.i64 0,Value.int IntKind.i64 0,Value.int IntKind.i64 0,Value.int IntKind.u64 0] [Value.int IntKind.i64 x.mtu,Value.int IntKind.u64 x.ack,Value.int IntKind.u64 x.retry,Value.int IntKind.i64 x.retries,Value.int IntKind.i64 x.window,Value.int IntKind.i64 x.inbox,Value.int IntKind.i64 x.sectors,Value.int IntKind.i64 x.room,Value.int IntKind.u64 x.start] rfl rfl rfl
 exact⟨m2,h1,h2,h3,h4,by omega,h4⟩
end Go.Proofs.YtgmkbdmgifdfeaaGreatDoor

set_option maxRecDepth 8000
namespace Go.Proofs.YtgmkbdmgifdfeaaGreatDoor
open Go Go.Ev
structure Got (lo hi:Nat) (m:Mem) (v:Value) (ss:List Stp) (dd cc:Nat→Value):Prop where
 own:∃ cells,Own lo m v 36 ss.length cells∧cells.length=ss.length*17∧∀ k s,ss[k]? = some s→takeN cells (k*17) 17=stpCells s (dd k) (cc k)
 each:∀ k s,ss[k]? = some s→Own lo m (dd k) 5 s.data.length (u8s s.data)∧Own lo m (cc k) 3 s.choices.length (i64s s.choices)
 top:∀ k x,k<ss.length→blkV (dd k)=some x∨blkV (cc k)=some x→lo≤x∧x<hi
 hiv:∀ x,blkV v=some x→lo≤x∧x<hi
 riseD:∀ j k x y,j<k→k<ss.length→blkV (dd j)=some x→blkV (dd k)=some y→x<y
 riseC:∀ j k x y,j<k→k<ss.length→blkV (cc j)=some x→blkV (cc k)=some y→x<y
theorem got_of {lo:Nat} {m:Mem} {v:Value} {ss:List Stp} (h:StepsR lo m v ss):∃ dd cc,Got lo m.next m v ss dd cc:=by
 obtain⟨⟨cells,h1,h2,h3⟩,hri⟩:=h
 obtain⟨r1,r2⟩:=rise_of h1 hri
 have hk:∀ k,k<ss.length→∃ s,ss[k]? = some s:=fun k hk=>⟨_,List.getElem?_eq_getElem hk⟩
 have g5:∀ k s,ss[k]? = some s→∃ d c,takeN cells (k*17) 17=stpCells s d c∧Own lo m d 5 s.data.length (u8s s.data)∧Own lo m c 3 s.choices.length (i64s s.choices)∧(cells[k*17+5]?).getD undef=d∧(cells[k*17+14]?).getD undef=c∧cells[k*17+5]? = some d∧cells[k*17+14]? = some c:=fun k s hs=>by
  obtain⟨d,c,q1,q2,q3⟩:=h3 k s hs
  have e5:cells[k*17+5]? = some d:=by rw [takeN_at q1 (by decide)];rfl
  have e14:cells[k*17+14]? = some c:=by rw [takeN_at q1 (by decide)];rfl
  exact⟨d,c,q1,q2,q3,by rw [e5];rfl,by rw [e14];rfl,e5,e14⟩
 refine⟨fun k=>(cells[k*17+5]?).getD undef,fun k=>(cells[k*17+14]?).getD undef,⟨cells,h1,h2,fun k s hs=>?_⟩,fun k s hs=>?_,fun k x hkl hx=>?_,fun x hx=>?_,fun j k x y hjk hkl hx hy=>?_,fun j k x y hjk hkl hx hy=>?_⟩
 ·obtain⟨d,c,q1,-,-,q4,q5,-⟩:=g5 k s hs
  simp only [q4,q5];exact q1
 ·obtain⟨d,c,-,q2,q3,q4,q5,-⟩:=g5 k s hs
  simp only [q4,q5];exact⟨q2,q3⟩
 ·obtain⟨s,hs⟩:=hk k hkl
  obtain⟨d,c,-,q2,q3,q4,q5,-⟩:=g5 k s hs
  simp only [q4,q5] at hx
  rcases hx with hx|hx
  ·exact⟨(own_blk q2 hx).1,(own_blk q2 hx).2.1⟩
  ·exact⟨(own_blk q3 hx).1,(own_blk q3 hx).2.1⟩
 ·exact⟨(own_blk h1 hx).1,(own_blk h1 hx).2.1⟩
 ·obtain⟨s,hs⟩:=hk k hkl
  obtain⟨s',hs'⟩:=hk j (by omega)
  obtain⟨d,c,-,-,-,q4,-,q6,-⟩:=g5 k s hs
  obtain⟨d',c',-,-,-,q4',-,q6',-⟩:=g5 j s' hs'
  simp only [q4] at hy
  simp only [q4'] at hx
  exact r1 j k d' d x y hjk q6' q6 hx hy
 ·obtain⟨s,hs⟩:=hk k hkl
  obtain⟨s',hs'⟩:=hk j (by omega)
  obtain⟨d,c,-,-,-,-,q5,-,q7⟩:=g5 k s hs
  obtain⟨d',c',-,-,-,-,q5',-,q7'⟩:=g5 j s' hs'
  simp only [q5] at hy
  simp only [q5'] at hx
  exact r2 j k c' c x y hjk q7' q7 hx hy
section
variable {lo hi:Nat} {m:Mem} {v:Value} {ss:List Stp} {dd cc:Nat→Value}
theorem Got.ex (h:Got lo hi m v ss dd cc) {m':Mem} (hn:m.next≤m'.next) (k:∀ x V,x<m.next→lo≤x→vw m x=some V→V.ext=true→m'.objs.get x=m.objs.get x):Got lo hi m' v ss dd cc:=by
 obtain⟨⟨cells,h1,h2,h3⟩,h4,h5⟩:=h
 refine⟨⟨cells,h1.ex hn fun x a b c=>k x _ a b c rfl,h2,h3⟩,fun j s hs=>?_,h5,by assumption,by assumption,by assumption⟩
 exact⟨(h4 j s hs).1.ex hn fun x a b c=>k x _ a b c rfl,(h4 j s hs).2.ex hn fun x a b c=>k x _ a b c rfl⟩
theorem Got.old (h:Got lo hi m v ss dd cc) {m':Mem} (k:Old m.next m m'):Got lo hi m' v ss dd cc:=h.ex k.1 fun x _ hx _ _ _=>k.2 x hx
theorem Got.steps (h:Got lo hi m v ss dd cc):StepsAt lo m v ss:=by
 obtain⟨⟨cells,h1,h2,h3⟩,h4,h5⟩:=h
 exact⟨cells,h1,h2,fun k s hs=>⟨dd k,cc k,h3 k s hs,(h4 k s hs).1,(h4 k s hs).2⟩⟩
theorem Got.load (h:Got lo hi m v ss dd cc) {k:Nat} (hk:k<ss.length) :
  ∃ b,v=.slice (some ⟨b,0,none⟩) ss.length ss.length∧(∀ s,opLoad tb 29 m (.pointer (some ⟨b,k*17+5,s⟩))=.r (dd k))∧∀ s,opLoad tb 34 m (.pointer (some ⟨b,k*17+14,s⟩))=.r (cc k):=by
 obtain⟨⟨cells,h1,h2,h3⟩,-⟩:=h
 have hs:ss[k]? = some ss[k]:=List.getElem?_eq_getElem hk
 have h6:=h3 k _ hs
 rcases h1 with ⟨_,h,_⟩|⟨b,rfl,hb0,hb,hv⟩
 ·omega
 obtain⟨r,g1,g2,g3,g4,g5,g6,-⟩:=vw_spec hv
 refine⟨b,rfl,fun s=>?_,fun s=>?_⟩
 ·have:cellAt r (k*17+5)=some (dd k):=by rw [g6];simp only;rw [takeN_at h6 (by decide)];rfl
  simp only [opLoad,loadA,Ty.ti29,oB,g1,Ty.g29,this,oR]
 ·have:cellAt r (k*17+14)=some (cc k):=by rw [g6];simp only;rw [takeN_at h6 (by decide)];rfl
  simp only [opLoad,loadA,Ty.ti34,oB,g1,Ty.g34,this,oR]
theorem Got.one (h:Got lo hi m v ss dd cc) {k:Nat} (hk:k<ss.length):oneC (dd k)=true∧oneC (cc k)=true:=by
 have hs:ss[k]? = some ss[k]:=List.getElem?_eq_getElem hk
 obtain⟨h1,h2⟩:=h.each k _ hs
 obtain⟨a,e1⟩:=h1.shape
 obtain⟨b,e2⟩:=h2.shape
 rw [e1,e2];exact⟨rfl,rfl⟩
theorem Got.bytes (h:Got lo hi m v ss dd cc) (hw:∀ s∈ss,s.data.length≤1000000000∧s.choices.length≤1000000000) (k:Nat) (hk:k<ss.length):Own lo m (dd k) 5 ((ss[k]?.map (·.data.length)).getD 0) ((ss[k]?.map (u8s ·.data)).getD [])∧((ss[k]?.map (u8s ·.data)).getD []).length=(ss[k]?.map (·.data.length)).getD 0∧(ss[k]?.map (·.data.length)).getD 0≤1000000000:=by
 have hs:ss[k]? = some ss[k]:=List.getElem?_eq_getElem hk
 have h1:=(h.each k _ hs).1
 rw [hs]
 exact⟨h1,by simp [u8s_map],(hw _ (List.mem_of_getElem? hs)).1⟩
theorem Got.ints (h:Got lo hi m v ss dd cc) (hw:∀ s∈ss,s.data.length≤1000000000∧s.choices.length≤1000000000) (k:Nat) (hk:k<ss.length):Own lo m (cc k) 3 ((ss[k]?.map (·.choices.length)).getD 0) ((ss[k]?.map (i64s ·.choices)).getD [])∧((ss[k]?.map (i64s ·.choices)).getD []).length=(ss[k]?.map (·.choices.length)).getD 0∧(ss[k]?.map (·.choices.length)).getD 0≤1000000000:=by
 have hs:ss[k]? = some ss[k]:=List.getElem?_eq_getElem hk
 have h1:=(h.each k _ hs).2
 rw [hs]
 exact⟨h1,by simp [i64s],(hw _ (List.mem_of_getElem? hs)).2⟩
end
def entOf:Value→Ent
 | .slice (some a) n _=>.own a.block n
 |_=>.nil
theorem entOf_v {n0 n:Nat} {m:Mem} {v:Value} {e:TypeId} {cs:List Value} (h:Own n0 m v e n cs):(entOf v).v=v:=by
 rcases h with ⟨rfl,_⟩|⟨b,rfl,_⟩<;>rfl
theorem entOf_blk {n0 n:Nat} {m:Mem} {v:Value} {e:TypeId} {cs:List Value} (h:Own n0 m v e n cs) (x:Nat):x∈(entOf v).blk↔blkV v=some x:=by
 rcases h with ⟨rfl,_⟩|⟨b,rfl,_⟩
 ·simp [entOf,Ent.blk,blkV]
 ·simp [entOf,Ent.blk,blkV,eq_comm]
theorem entOf_ok {n0 n sz:Nat} {m:Mem} {v:Value} {e:TypeId} {cs:List Value} (h:Own n0 m v e n cs) (hc:cs.length=n*sz) (hn:n≤1000000000):EntOk m e sz (entOf v):=by
 rcases h with ⟨rfl,_⟩|⟨b,rfl,h1,h2,h3⟩
 ·trivial
 ·exact⟨h2,hn,cs,hc,h3⟩
theorem nodup_range {f:Nat→List Nat}:∀ (n:Nat),(∀ k,k<n→(f k).Nodup)→(∀ j k,j<k→k<n→∀ x∈f j,∀ y∈f k,x≠y)→((List.range n).flatMap f).Nodup
 |0,_,_=>by simp
 |n+1,h1,h2=>by
  rw [List.range_succ,List.flatMap_append]
  simp only [List.flatMap_cons,List.flatMap_nil,List.append_nil]
  refine List.nodup_append.2 ⟨nodup_range n (fun k hk=>h1 k (by omega)) (fun j k hjk hk=>h2 j k hjk (by omega)),h1 n (by omega),fun x hx y hy=>?_⟩
  obtain⟨j,hj,hxj⟩:=List.mem_flatMap.1 hx
  exact h2 j n (List.mem_range.1 hj) (by omega) x hxj y hy
def prs {α : Type} (f g:Nat → α) (n:Nat):List α := (List.range n).flatMap fun k=>[f k,g k]
theorem prs_succ {α : Type} (f g:Nat → α) (n:Nat):prs f g (n+1)=prs f g n++[f n,g n]:=by
 unfold prs;rw [List.range_succ,List.flatMap_append];simp
theorem prs_len {α : Type} (f g:Nat → α) (n:Nat):(prs f g n).length=2*n:=by
 induction n with
 |zero=>rfl
 |succ n ih=>rw [prs_succ];simp [ih];omega
theorem prs_map {α β : Type} {f g:Nat → α} {f' g':Nat → β} {h : α → β}:∀ {n:Nat},(∀ k,k<n→h (f k)=f' k∧h (g k)=g' k)→(prs f g n).map h=prs f' g' n
 |0,_=>rfl
 |n+1,k=>by
  rw [prs_succ,prs_succ,List.map_append,prs_map fun j hj=>k j (by omega)]
  simp [k n (by omega)]
theorem prs_in {m:Mem} {te e:TypeId} {lb n lo1 hi1 lo2 hi2:Nat} {f g:Nat→Value} {nf ng:Nat→Nat} {cf cg:Nat→List Value} (hn:n≤10000000) (hlb:lb<m.next) (hv:vw m lb=some ⟨true,te,true,prs f g n⟩)
  (hf:∀ k,k<n→Own lo1 m (f k) e (nf k) (cf k)∧(cf k).length=nf k∧nf k≤1000000000) (hg:∀ k,k<n→Own lo2 m (g k) e (ng k) (cg k)∧(cg k).length=ng k∧ng k≤1000000000)
  (hif:∀ k x,k<n→blkV (f k)=some x→x<hi1) (hig:∀ k x,k<n→blkV (g k)=some x→x<hi2) (h12:hi1≤lo2) (hl:hi2≤lb) (h1l:hi1≤lb)
  (rf:∀ j k x y,j<k→k<n→blkV (f j)=some x→blkV (f k)=some y→x<y) (rg:∀ j k x y,j<k→k<n→blkV (g j)=some x→blkV (g k)=some y→x<y) :
  ∃ l:List Ent,l.length=2*n∧LsIn m te e 1 lb l∧∀ x∈l.flatMap Ent.blk,(lo1≤x∧x<hi1∨lo2≤x∧x<hi2)∧∃ k,k<n∧(blkV (f k)=some x∨blkV (g k)=some x):=by
 have hfm:(prs (fun k=>entOf (f k)) (fun k=>entOf (g k)) n).flatMap Ent.blk=(List.range n).flatMap fun k=>(entOf (f k)).blk++(entOf (g k)).blk:=by
  unfold prs;rw [List.flatMap_assoc];simp
 have hmem:∀ k,k<n→∀ x,x∈(entOf (f k)).blk++(entOf (g k)).blk↔(blkV (f k)=some x∨blkV (g k)=some x):=fun k hk x=>by
  rw [List.mem_append,entOf_blk (hf k hk).1,entOf_blk (hg k hk).1]
 have hlt:∀ k,k<n→∀ x,blkV (f k)=some x→lo1≤x∧x<hi1:=fun k hk x hx=>⟨(own_blk (hf k hk).1 hx).1,hif k x hk hx⟩
 have hlt2:∀ k,k<n→∀ x,blkV (g k)=some x→lo2≤x∧x<hi2:=fun k hk x hx=>⟨(own_blk (hg k hk).1 hx).1,hig k x hk hx⟩
 have hlen:=prs_len (fun k=>entOf (f k)) (fun k=>entOf (g k)) n
 refine⟨prs (fun k=>entOf (f k)) (fun k=>entOf (g k)) n,hlen,⟨by rw [hlen];omega,hlb,⟨true,?_⟩,fun a ha=>?_,?_⟩,fun x hx=>?_⟩
 ·rw [hv]
  congr 2
  exact (prs_map fun k hk=>⟨entOf_v (hf k hk).1,entOf_v (hg k hk).1⟩).symm
 ·obtain⟨k,hk,ha⟩:=List.mem_flatMap.1 ha
  have hk:=List.mem_range.1 hk
  simp only [List.mem_cons,List.not_mem_nil,or_false] at ha
  rcases ha with rfl|rfl
  ·exact entOf_ok (hf k hk).1 (by rw [(hf k hk).2.1];omega) (hf k hk).2.2
  ·exact entOf_ok (hg k hk).1 (by rw [(hg k hk).2.1];omega) (hg k hk).2.2
 ·rw [hfm]
  refine List.nodup_cons.2 ⟨fun h=>?_,nodup_range n (fun k hk=>?_) fun j k hjk hk x hx y hy=>?_⟩
  ·obtain⟨k,hk,hx⟩:=List.mem_flatMap.1 h
   have hk:=List.mem_range.1 hk
   rcases (hmem k hk _).1 hx with h|h
   ·have:=hlt k hk _ h;omega
   ·have:=hlt2 k hk _ h;omega
  ·refine List.nodup_append.2 ⟨?_,?_,fun x hx y hy=>?_⟩
   ·generalize entOf (f k)=a;cases a<;>simp [Ent.blk]
   ·generalize entOf (g k)=a;cases a<;>simp [Ent.blk]
   ·have:=hlt k hk x ((entOf_blk (hf k hk).1 x).1 hx)
    have:=hlt2 k hk y ((entOf_blk (hg k hk).1 y).1 hy)
    omega
  ·rcases (hmem j (by omega) _).1 hx with hx|hx<;>rcases (hmem k hk _).1 hy with hy|hy
   ·have:=rf j k x y hjk hk hx hy;omega
   ·have:=hlt j (by omega) _ hx;have:=hlt2 k hk _ hy;omega
   ·have:=hlt2 j (by omega) _ hx;have:=hlt k hk _ hy;omega
   ·have:=rg j k x y hjk hk hx hy;omega
 ·rw [hfm] at hx
  obtain⟨k,hk,hx⟩:=List.mem_flatMap.1 hx
  have hk:=List.mem_range.1 hk
  have hx':=(hmem k hk _).1 hx
  refine⟨?_,k,hk,hx'⟩
  rcases hx' with h|h
  ·exact .inl (hlt k hk _ h)
  ·exact .inr (hlt2 k hk _ h)
theorem ent_inj {a b:Ent} (h:a.v=b.v):a=b:=by
 cases a<;>cases b<;>simp_all [Ent.v]
theorem lsOv_at {te e:TypeId} {sz lb:Nat} {m:Mem} {l:List Ent} (h:LsIn m te e sz lb l) {n:Nat} (hn:n=l.length):lsOv te e sz [.slice (some ⟨lb,0,none⟩) n n] m=some (.bool true,killM m (lb::l.flatMap Ent.blk)):=by
 subst hn
 have hex:∃ l':List Ent,l.length=l'.length∧l.length=l'.length∧LsIn m te e sz lb l':=⟨l,rfl,rfl,h⟩
 have e0:lsOv te e sz [.slice (some ⟨lb,0,none⟩) l.length l.length] m = @dite _ (∃ l':List Ent,l.length=l'.length∧l.length=l'.length∧LsIn m te e sz lb l') (Classical.propDecidable _) (fun h=>some (Value.bool true,killM m (lb::List.flatMap Ent.blk (Classical.choose h)))) (fun _=>none):=rfl
 rw [e0,dif_pos hex]
 obtain⟨h1,-,h3⟩:=Classical.choose_spec hex
 have:Classical.choose hex=l:=by
  obtain⟨-,-,⟨x,e1⟩,-,-⟩:=h
  obtain⟨-,-,⟨y,e2⟩,-,-⟩:=h3
  rw [e1] at e2
  simp only [Option.some.injEq,Vw.mk.injEq,true_and] at e2
  exact ((List.map_inj_right fun x y h=>ent_inj h).1 e2.2).symm
 rw [this]
theorem kill_get {m:Mem} {l:List Nat} {x:Nat} (h:x∉l):(killM m l).objs.get x=m.objs.get x:=by rw [killM_get,if_neg h]
end Go.Proofs.YtgmkbdmgifdfeaaGreatDoor

set_option maxRecDepth 8000
namespace Go.Proofs.YtgmkbdmgifdfeaaGreatDoor
open Go Go.Ev
theorem weight_mem {ss:List Stp} {s:Stp} (h:s∈ss):weight s≤weights ss:=by
 unfold weights
 induction ss with
 |nil=>simp at h
 |cons a ss ih =>
  simp only [List.map_cons,List.sum_cons]
  rcases List.mem_cons.1 h with rfl|h
  ·omega
  ·have:=ih h;omega
theorem ls_call {m:Mem} {te e:TypeId} {vb:Value} {n0 n lo1 hi1 lo2 hi2:Nat} {f g:Nat→Value} {nf ng:Nat→Nat} {cf cg:Nat→List Value} (hB:Own n0 m vb te (2*n) (prs f g n)) (hn:n≤10000000)
  (hf:∀ k,k<n→Own lo1 m (f k) e (nf k) (cf k)∧(cf k).length=nf k∧nf k≤1000000000) (hg:∀ k,k<n→Own lo2 m (g k) e (ng k) (cg k)∧(cg k).length=ng k∧ng k≤1000000000)
  (hif:∀ k x,k<n→blkV (f k)=some x→x<hi1) (hig:∀ k x,k<n→blkV (g k)=some x→x<hi2) (h12:hi1≤lo2) (hl:hi2≤n0) (h1l:hi1≤n0)
  (rf:∀ j k x y,j<k→k<n→blkV (f j)=some x→blkV (f k)=some y→x<y) (rg:∀ j k x y,j<k→k<n→blkV (g j)=some x→blkV (g k)=some y→x<y) :
  ∃ m',lsOv te e 1 [vb] m=some (.bool true,m')∧m'.next=m.next∧∀ x,(lo1≤x→x<hi1→∀ k,k<n→blkV (f k)≠some x)→(lo2≤x→x<hi2→∀ k,k<n→blkV (g k)≠some x)→blkV vb≠some x→m'.objs.get x=m.objs.get x:=by
 rcases hB with ⟨rfl,_⟩|⟨b,rfl,h1,h2,h3⟩
 ·exact⟨m,rfl,rfl,fun _ _ _ _=>rfl⟩
 ·obtain⟨l,k1,k2,k3⟩:=prs_in (lo1:=lo1) (hi1:=hi1) (lo2:=lo2) (hi2:=hi2) hn h2 h3 hf hg hif hig h12 (by omega) (by omega) rf rg
  refine⟨_,lsOv_at k2 k1.symm,killM_next _ _,fun x h4 h5 h6=>kill_get fun hx=>?_⟩
  rcases List.mem_cons.1 hx with rfl|hx
  ·exact h6 rfl
  ·obtain⟨-,k,hk,h7⟩:=k3 x hx
   rcases h7 with h7|h7
   ·exact h4 (own_blk (hf k hk).1 h7).1 (hif k x hk h7) k hk h7
   ·exact h5 (own_blk (hg k hk).1 h7).1 (hig k x hk h7) k hk h7
theorem own_ok {m:Mem} {tx:List UInt8} (hE:ErrAt m) (hP:PowAt m) (hm8:8≤m.next) (hlen:tx.length≤9223372036854775807):CallsA tb 9 [.string ⟨⟨tx⟩⟩] m (retR fun r m'=>r=.bool true):=by
 refine callsS Tryz.func9 e9 rfl rfl ?_
 simp only [s9,List.replicate,List.length_cons,List.length_nil,List.cons_append,List.nil_append,Nat.reduceAdd,Nat.reduceSub]
 obtain⟨hR,hln⟩:=parse_R tx
 obtain⟨hxR,hW⟩:=parse_W tx
 obtain⟨x,ss,n,e,hpo⟩:∃ x ss n e,parseOut tx=(x,ss,n,e):=⟨_,_,_,_,rfl⟩
 rw [hpo] at hR hln hxR hW
 simp only at hR hln hxR hW
 have hRR:∀ s∈ss,s.R:=fun s hs=>(hR s hs).1
 refine xsr fun Q' hQ=>?_
 simp
 subst hQ
 refine xsr fun Q' hQ=>?_
 simp
 refine xcall (ov_none (by decide)) (parseO_ok hE hlen) ?_ (fun ch m' h=>h.elim)
 rintro r m1 ⟨v1,rfl,hs1,hO1⟩
 rw [hpo] at hs1 ⊢
 simp only at hs1 ⊢
 simp only [stuCells']
 simp [stOk,oneC]
 subst hQ
 obtain⟨m2,hm2,hn2,hv2,hg2,hO2⟩:=box_stu m1 x
 obtain⟨q1,hq1⟩:∃ q1,q1=m1.next:=⟨_,rfl⟩
 rw [← hm2,← hq1]
 clear hm2 hg2
 obtain⟨d1,c1,G1⟩:=got_of hs1
 replace G1:=G1.old hO2
 have hO12:Old m.next m m2:=hO1.trans (hO2.le hO1.1)
 have hE2:ErrAt m2:=hE.old hO12 (by omega)
 have hP2:PowAt m2:=hP.old hO12 (by omega)
 have hn12:m.next≤m1.next:=hO1.1
 refine xsr fun Q' hQ=>?_
 simp
 refine xcall (ov_none (by decide)) (parseO_ok hE2 hlen) ?_ (fun ch m' h=>h.elim)
 rintro r m3 ⟨v2,rfl,hs3,hO3⟩
 rw [hpo] at hs3 ⊢
 simp only at hs3 ⊢
 simp only [stuCells']
 simp [stOk,oneC]
 subst hQ
 obtain⟨m4,hm4,hn4,hv4,hg4,hO4⟩:=box_stu m3 x
 obtain⟨q2,hq2⟩:∃ q2,q2=m3.next:=⟨_,rfl⟩
 rw [← hm4,← hq2]
 clear hm4 hg4
 obtain⟨d2,c2,G2⟩:=got_of hs3
 replace G2:=G2.old hO4
 have hO24:Old m2.next m2 m4:=hO3.trans (hO4.le hO3.1)
 replace G1:=G1.old hO24
 have hn23:m2.next≤m3.next:=hO3.1
 refine xsr fun Q' hQ=>?_
 simp
 refine xcall (ov_none (by decide)) (rparse_ok (m:=m4) (by omega) hlen) ?_ (fun ch m' h=>h.elim)
 rintro r m5 ⟨v3,rfl,hs5,hO5⟩
 rw [hpo] at hs5 ⊢
 simp only at hs5 ⊢
 simp only [stuCells']
 simp [stOk,oneC]
 subst hQ
 obtain⟨m6,hm6,hn6,hv6,hg6,hO6⟩:=box_stu m5 x
 obtain⟨q3,hq3⟩:∃ q3,q3=m5.next:=⟨_,rfl⟩
 rw [← hm6,← hq3]
 clear hm6 hg6
 have hO46:Old m4.next m4 m6:=hO5.trans (hO6.le hO5.1)
 replace G1:=G1.old hO46
 replace G2:=G2.old hO46
 have hs6:StepsAt m4.next m6 v3 ss:=hs5.ex (by omega) fun y V hy _ _ _=>hO6.2 y hy
 have hO06:Old m.next m m6:=(hO12.trans (hO24.le (by omega))).trans (hO46.le (by omega))
 have hn45:m4.next≤m5.next:=hO5.1
 obtain⟨a1,e1⟩:=G1.steps.shape
 obtain⟨a2,e2⟩:=G2.steps.shape
 obtain⟨a3,e3⟩:=hs6.shape
 refine xseq (xseq (xregQ fun Q' hQ=>?_))
 simp
 refine xcall (ov_none (by decide)) (num_ok m6 e) ?_ (fun ch m' h=>h.elim)
 rintro r m7 ⟨rfl,rfl⟩
 simp
 refine xcall (ov_none (by decide)) (sameSteps2 (steps_old G1.steps hRR) (steps_old hs6 hRR) hln (fun s hs=>(hR s hs).2)) ?_ (fun ch m' h=>h.elim)
 rintro r m8 ⟨rfl,hO8⟩
 simp
 have G28:=G2.old hO8
 have hs8:StepsAt m4.next m8 v3 ss:=hs6.ex hO8.1 fun y V hy _ _ _=>hO8.2 y hy
 refine xcall (ov_none (by decide)) (sameSteps2 (steps_old G28.steps hRR) (steps_old hs8 hRR) hln (fun s hs=>(hR s hs).2)) ?_ (fun ch m' h=>h.elim)
 rintro r m9 ⟨rfl,hO9⟩
 simp
 have hO79:Old m7.next m7 m9:=hO8.trans (hO9.le hO8.1)
 have hO09:Old m.next m m9:=hO06.trans (hO79.le hO06.1)
 have hkn:knOv [] m9=some (.bool true,m9):=if_pos ⟨by have:=hO09.1;omega,hP.old hO09 (by omega)⟩
 refine xover ov_21 hkn ?_
 obtain⟨mB,hmB⟩:∃ mB,mB=m9:=⟨_,rfl⟩
 rw [← hmB]
 have hOk:Old m9.next m9 mB:=by rw [hmB];exact .refl _ _
 simp
 subst hQ
 have hO7B:Old m7.next m7 mB:=hO79.trans (hOk.le hO79.1)
 have hO0B:Old m.next m mB:=hO06.trans (hO7B.le hO06.1)
 replace G1:=G1.old hO7B
 replace G2:=G2.old hO7B
 have hsB:StepsAt m4.next mB v3 ss:=hs6.ex hO7B.1 fun y V hy _ _ _=>hO7B.2 y hy
 have hn7B:m7.next≤mB.next:=hO7B.1
 have hnss:ss.length≤1048577:=hln
 clear G28 hs8 hs5 hs3 hs1 hO8 hO9 hOk hO79 hO09
 refine xno rfl (xskip ?_)
 refine xsr fun Q' hQ=>?_
 simp
 subst hQ
 refine xsr fun Q' hQ=>?_
 simp
 subst hQ
 refine xseqM (fun ls ds m'=>ds=[]∧Old mB.next mB m'∧∃ vb vi,Own mB.next m' vb 29 (2*ss.length) (prs d1 d2 ss.length)∧Own mB.next m' vi 34 (2*ss.length) (prs c1 c2 ss.length) ∧
  Sl [.string ⟨⟨tx⟩⟩,undef,.bool false,.pointer (some ⟨q1,0,none⟩),v1,.int .i64 n,.int .i64 e,.pointer (some ⟨q2,0,none⟩),v2,.int .i64 n,.int .i64 e,.pointer (some ⟨q3,0,none⟩),v3,.int .i64 n,.int .i64 e,vb,vi] 101 ls) ?_ ?_
 rotate_left
 ·refine xsr fun Q' hQ=>?_
  simp
  subst hQ
  refine xblock (xwhile (N:=ss.length) (I:=fun k ls ds m'=>∃ i:Nat,k=ss.length-i∧i≤ss.length∧ds=[]∧Old mB.next mB m'∧∃ vb vi,Own mB.next m' vb 29 (2*i) (prs d1 d2 i)∧Own mB.next m' vi 34 (2*i) (prs c1 c2 i) ∧
   Sl [.string ⟨⟨tx⟩⟩,undef,.bool false,.pointer (some ⟨q1,0,none⟩),v1,.int .i64 n,.int .i64 e,.pointer (some ⟨q2,0,none⟩),v2,.int .i64 n,.int .i64 e,.pointer (some ⟨q3,0,none⟩),v3,.int .i64 n,.int .i64 e,vb,vi,.int .i64 (i:Nat)] 100 ls) ?_ ?_)
  ·exact⟨0,rfl,by omega,rfl,.refl _ _,_,_,.inl ⟨rfl,rfl,rfl⟩,.inl ⟨rfl,rfl,rfl⟩,Sl.mk rfl rfl⟩
  rintro k ls ds m8 ⟨i,rfl,hi,rfl,hO8,vb,vi,hb,hc,us,hus,rfl⟩
  refine xseq (xseq (xregQ fun Q' hQ=>?_))
  rw [e1]
  simp [hus]
  subst hQ
  refine xif (v:=decide ((i:Int)<(ss.length:Int))) (by simp [hus]) (fun hlt=>xskip ?_) (fun hlt=>xexit ?_)
  ·simp only [decide_eq_true_eq] at hlt
   have hil:i<ss.length:=by omega
   have G18:=G1.old hO8
   have G28:=G2.old hO8
   obtain⟨b1,g1,ld1,-⟩:=G18.load hil
   obtain⟨b2,g2,ld2,-⟩:=G28.load hil
   obtain⟨od1,oc1⟩:=G18.one hil
   obtain⟨od2,oc2⟩:=G28.one hil
   obtain⟨ab,hvb⟩:=hb.shape
   obtain⟨ai,hvi⟩:=hc.shape
   refine xseq (xblock (xseq (xdrw 4 fun Q' hQ=>?_)))
   rw [g1] at e1
   rw [e1] at g1
   simp only [Value.slice.injEq] at e1
   subst hvb
   subst hvi
   rw [g2]
   obtain⟨rfl,-⟩:=e1
   have hsi:ss[i]? = some ss[i]:=List.getElem?_eq_getElem hil
   generalize ss[i]=s at hsi
   obtain⟨w1,hw1⟩:=(G18.each i s hsi).1.shape
   obtain⟨w2,hw2⟩:=(G28.each i s hsi).1.shape
   obtain⟨w3,hw3⟩:=(G18.each i s hsi).2.shape
   obtain⟨w4,hw4⟩:=(G28.each i s hsi).2.shape
   obtain⟨vb',m9,k1,k2,k3,k4,-⟩:=hb.append (k:=1) (sz:=1) (new:=[d1 i,d2 i]) ((Old.refl m8.next m8).new (Nat.le_refl _) (.row ⟨T.setL [d2 i] 1 (T.setL [d1 i] 0 T.lf),2,[.slice none 0 0],29,.none,false⟩)) hO8.1 (by rw [prs_len];omega) rfl (by simp only [List.all_cons,List.all_nil,od1,od2,Bool.and_self])
   have hO9:Old mB.next mB m9:=(hO8.new hO8.1 _).trans k4
   have n89:m8.next≤m9.next:=by have:=k4.1;rw [next_newObjA] at this;omega
   obtain⟨ab',rfl⟩:=k2.shape
   obtain⟨b1',g1',ld1',lc1'⟩:=(G1.old hO9).load hil
   obtain⟨b2',g2',ld2',lc2'⟩:=(G2.old hO9).load hil
   rw [g1] at g1'
   rw [g2] at g2'
   cases g1'
   cases g2'
   have hc9:Own mB.next m9 (.slice ai (2*i) (2*i)) 34 (2*i) (prs c1 c2 i):=hc.ex n89 fun x hx h0 hV=>by
    have hne:blkV (.slice ab (2*i) (2*i))≠some x:=fun e=>by
     have:=(own_blk hb e).2.2
     rw [hV] at this;cases this
    rw [k3.2 x (by rw [next_newObjA];omega) hne,get_newObjA,if_neg (by omega)]
   rw [hw1,hw2] at k1
   simp [-at_W,hus,hil,hlt,ld1,ld2,ld1',ld2',hw1,hw2,fits_true _ (2*i) (2*i) 2 24 (by omega),k1]
   subst hQ
   obtain⟨vi',m10,j1,j2,j3,j4,-⟩:=hc9.append (k:=1) (sz:=1) (new:=[c1 i,c2 i]) ((Old.refl m9.next m9).new (Nat.le_refl _) (.row ⟨T.setL [c2 i] 1 (T.setL [c1 i] 0 T.lf),2,[.slice none 0 0],34,.none,false⟩)) hO9.1 (by rw [prs_len];omega) rfl (by simp only [List.all_cons,List.all_nil,oc1,oc2,Bool.and_self])
   have hO10:Old mB.next mB m10:=(hO9.new hO9.1 _).trans j4
   have n910:m9.next≤m10.next:=by have:=j4.1;rw [next_newObjA] at this;omega
   obtain⟨ai',rfl⟩:=j2.shape
   obtain⟨b1',g1',-,lc1''⟩:=(G1.old hO10).load hil
   obtain⟨b2',g2',-,lc2''⟩:=(G2.old hO10).load hil
   rw [g1] at g1'
   rw [g2] at g2'
   cases g1'
   cases g2'
   have hb10:Own mB.next m10 (.slice ab' (2*i+(1+1)) (2*i+(1+1))) 29 (2*i+(1+1)) (prs d1 d2 i++[d1 i,d2 i]):=k2.ex n910 fun x hx h0 hV=>by
    have hne:blkV (.slice ai (2*i) (2*i))≠some x:=fun e=>by
     have:=(own_blk hc9 e).2.2
     rw [hV] at this;cases this
    rw [j3.2 x (by rw [next_newObjA];omega) hne,get_newObjA,if_neg (by omega)]
   rw [hw3,hw4] at j1
   refine xdrw 4 fun Q' hQ=>?_
   simp [-at_W,hus,hil,hlt,lc1',lc2',lc1'',lc2'',hw3,hw4,fits_true _ (2*i) (2*i) 2 24 (by omega),j1]
   subst hQ
   refine xregQ fun Q' hQ=>?_
   simp [hus]
   rw [wr64 _ (by omega) (by omega)]
   subst hQ
   refine⟨ss.length-(i+1),by omega,i+1,rfl,by omega,rfl,hO10,_,_,by rw [prs_succ];exact hb10,by rw [prs_succ];exact j2,Sl.mk (by rw [g1,g2];rfl) (by simp [hus])⟩
  ·simp only [decide_eq_false_iff_not] at hlt
   obtain rfl:i=ss.length:=by omega
   exact⟨rfl,hO8,vb,vi,hb,hc,Sl.mk (by rw [e1];rfl) (by simp [hus])⟩
 rintro ls ds m8 ⟨rfl,hO8,vb,vi,hb,hc,us,hus,rfl⟩
 have hwb:∀ s∈ss,s.data.length≤1000000000∧s.choices.length≤1000000000:=fun s hs=>by
  have:=weight_mem hs
  unfold weight at this
  omega
 have G18:=G1.old hO8
 have G28:=G2.old hO8
 have hs8:StepsAt m4.next m8 v3 ss:=hsB.ex hO8.1 fun y V hy _ _ _=>hO8.2 y hy
 have hmB8:mB.next≤m8.next:=hO8.1
 have hO08:Old m.next m m8:=hO0B.trans (hO8.le (by omega))
 obtain⟨m9,r9,n9,k9⟩:=ls_call (te:=29) (e:=5) (lo1:=m.next) (hi1:=m1.next) (lo2:=m2.next) (hi2:=m3.next) hb (by omega) (G18.bytes hwb) (G28.bytes hwb) (fun k x hk h=>(G18.top k x hk (.inl h)).2) (fun k x hk h=>(G28.top k x hk (.inl h)).2) (by omega) (by omega) (by omega) G18.riseD G28.riseD
 have hn0:∀ {v:Value} {te k:Nat} {cs:List Value} {mm:Mem},Own mB.next mm v te k cs→∀ x,x<mB.next→blkV v≠some x:=fun h x hx e=>by have:=(own_blk h e).1;omega
 have st9:∀ x V,vw m8 x=some V→V.elem≠5→V.elem≠29→m9.objs.get x=m8.objs.get x:=fun x V hV h5 h29=>by
  refine k9 x (fun _ _ k hk e=>?_) (fun _ _ k hk e=>?_) fun e=>?_
  ·rw [(own_blk (G18.bytes hwb k hk).1 e).2.2] at hV;cases hV;exact h5 rfl
  ·rw [(own_blk (G28.bytes hwb k hk).1 e).2.2] at hV;cases hV;exact h5 rfl
  ·rw [(own_blk hb e).2.2] at hV;cases hV;exact h29 rfl
 have lo9:∀ x,x<m.next∨m4.next≤x∧x<mB.next→m9.objs.get x=m8.objs.get x:=fun x hx=>k9 x (fun _ _=>by omega) (fun _ _=>by omega) (hn0 hb x (by omega))
 have ci9:∀ {lo hi:Nat} {v:Value} {dd cc:Nat→Value},Got lo hi m8 v ss dd cc→∀ k,k<ss.length→Own lo m9 (cc k) 3 ((ss[k]?.map (·.choices.length)).getD 0) ((ss[k]?.map (i64s ·.choices)).getD [])∧((ss[k]?.map (i64s ·.choices)).getD []).length=(ss[k]?.map (·.choices.length)).getD 0∧(ss[k]?.map (·.choices.length)).getD 0≤1000000000:=fun G k hk=>by
  obtain⟨g1,g2⟩:=G.ints hwb k hk
  exact⟨g1.ex (by omega) fun x _ _ hV=>st9 x _ hV (by simp) (by simp),g2⟩
 have hc9:Own mB.next m9 vi 34 (2*ss.length) (prs c1 c2 ss.length):=hc.ex (by omega) fun x _ _ hV=>st9 x _ hV (by simp) (by simp)
 obtain⟨m10,r10,n10,k10⟩:=ls_call (te:=34) (e:=3) (lo1:=m.next) (hi1:=m1.next) (lo2:=m2.next) (hi2:=m3.next) hc9 (by omega) (ci9 G18) (ci9 G28) (fun k x hk h=>(G18.top k x hk (.inr h)).2) (fun k x hk h=>(G28.top k x hk (.inr h)).2) (by omega) (by omega) (by omega) G18.riseC G28.riseC
 have st10:∀ x V,vw m9 x=some V→V.elem≠3→V.elem≠34→m10.objs.get x=m9.objs.get x:=fun x V hV h5 h29=>by
  refine k10 x (fun _ _ k hk e=>?_) (fun _ _ k hk e=>?_) fun e=>?_
  ·rw [(own_blk (ci9 G18 k hk).1 e).2.2] at hV;cases hV;exact h5 rfl
  ·rw [(own_blk (ci9 G28 k hk).1 e).2.2] at hV;cases hV;exact h5 rfl
  ·rw [(own_blk hc9 e).2.2] at hV;cases hV;exact h29 rfl
 have lo10:∀ x,x<m.next∨m4.next≤x∧x<mB.next→m10.objs.get x=m8.objs.get x:=fun x hx=>by
  rw [k10 x (fun _ _=>by omega) (fun _ _=>by omega) (hn0 hc9 x (by omega)),lo9 x hx]
 refine xseq (xseq (xregQ fun Q' hQ=>?_))
 simp [hus]
 refine xover ov_22 r9 ?_
 simp [hus]
 refine xover ov_23 r10 ?_
 simp [hus]
 subst hQ
 refine xno (by simp [hus]) (xskip ?_)
 obtain⟨cs1,o1,l1,-⟩:=G18.own
 obtain⟨cs2,o2,l2,-⟩:=G28.own
 have up:∀ {lo:Nat} {v:Value} {cs:List Value},Own lo m8 v 36 ss.length cs→Own lo m10 v 36 ss.length cs:=fun h=>(h.ex (m':=m9) (by omega) fun x _ _ hV=>st9 x _ hV (by simp) (by simp)).ex (by omega) fun x _ _ hV=>st10 x _ hV (by simp) (by simp)
 have o1':=up o1
 have o2':=up o2
 refine xseq (xseq (xregQ fun Q' hQ=>?_))
 rw [e1,e2]
 simp [hus]
 obtain⟨m11,hm11⟩:∃ m11,m11=newObjA m10 (.row ⟨T.setL [Value.slice a2 ss.length ss.length] 1 (T.setL [Value.slice a1 ss.length ss.length] 0 T.lf),2,[.slice none 0 0],27,.none,false⟩):=⟨_,rfl⟩
 have n11:m11.next=m10.next+1:=by rw [hm11];rfl
 have g11:∀ x,x<m10.next→m11.objs.get x=m10.objs.get x:=fun x hx=>by rw [hm11,get_newObjA,if_neg (by omega)]
 have w11:vw m11 m10.next=some ⟨true,27,false,[.slice a1 ss.length ss.length,.slice a2 ss.length ss.length]⟩:=by rw [hm11];simp
 rw [e1] at o1'
 rw [e2] at o2'
 have o11:=o1'.ex (m':=m11) (by omega) fun x hx _ _=>g11 x hx
 have o21:=o2'.ex (m':=m11) (by omega) fun x hx _ _=>g11 x hx
 have t1:=G1.hiv
 have t2:=G2.hiv
 rw [e1] at t1
 rw [e2] at t2
 have hin:LsIn m11 27 36 17 m10.next [entOf (.slice a1 ss.length ss.length),entOf (.slice a2 ss.length ss.length)]:=by
  refine⟨by simp,by omega,⟨false,?_⟩,?_,?_⟩
  ·rw [w11];simp only [List.map_cons,List.map_nil,entOf_v o11,entOf_v o21]
  ·simp only [List.mem_cons,List.not_mem_nil,or_false]
   rintro a (rfl|rfl)
   ·exact entOf_ok o11 l1 (by omega)
   ·exact entOf_ok o21 l2 (by omega)
  ·have b1:=entOf_blk o11
   have b2:=entOf_blk o21
   have u1:(entOf (.slice a1 ss.length ss.length)).blk.Nodup:=by generalize entOf (.slice a1 ss.length ss.length)=a;cases a<;>simp [Ent.blk]
   have u2:(entOf (.slice a2 ss.length ss.length)).blk.Nodup:=by generalize entOf (.slice a2 ss.length ss.length)=a;cases a<;>simp [Ent.blk]
   simp only [List.flatMap_cons,List.flatMap_nil,List.append_nil]
   refine List.nodup_cons.2 ⟨fun h=>?_,List.nodup_append.2 ⟨u1,u2,fun x hx y hy=>?_⟩⟩
   ·rcases List.mem_append.1 h with h|h
    ·have:=t1 _ ((b1 _).1 h);omega
    ·have:=t2 _ ((b2 _).1 h);omega
   ·have:=t1 _ ((b1 _).1 hx)
    have:=t2 _ ((b2 _).1 hy)
    omega
 have hkeep:∀ x,x<m.next∨m4.next≤x∧x<mB.next→(killM m11 (m10.next::([entOf (.slice a1 ss.length ss.length),entOf (.slice a2 ss.length ss.length)]:List Ent).flatMap Ent.blk)).objs.get x=m8.objs.get x:=fun x hx=>by
  rw [kill_get,g11 x (by omega),lo10 x hx]
  intro h
  simp only [List.flatMap_cons,List.flatMap_nil,List.append_nil] at h
  rcases List.mem_cons.1 h with h|h
  ·omega
  ·rcases List.mem_append.1 h with h|h
   ·have:=t1 _ ((entOf_blk o11 _).1 h);omega
   ·have:=t2 _ ((entOf_blk o21 _).1 h);omega
 have n12:=killM_next m11 (m10.next::([entOf (.slice a1 ss.length ss.length),entOf (.slice a2 ss.length ss.length)]:List Ent).flatMap Ent.blk)
 have r12:=lsOv_at hin (n:=2) rfl
 generalize killM m11 (m10.next::([entOf (.slice a1 ss.length ss.length),entOf (.slice a2 ss.length ss.length)]:List Ent).flatMap Ent.blk)=m12 at hkeep n12 r12
 rw [← hm11]
 refine xover ov_24 r12 ?_
 simp [hus]
 subst hQ
 refine xno (by simp [hus]) (xskip ?_)
 have hO12':Old m.next m m12:=⟨by have:=hO08.1;omega,fun x hx=>by rw [hkeep x (.inl hx)];exact hO08.2 x hx⟩
 have hs12:StepsAt m4.next m12 v3 ss:=by
  refine hsB.ex (by omega) fun y V hy h0 _ _=>?_
  rw [hkeep y (.inr ⟨h0,hy⟩)];exact hO8.2 y hy
 refine xsr fun Q' hQ=>?_
 simp [hus]
 refine xcall (ov_none (by decide)) (parse_ok (hE.old hO12' (by omega)) hlen) ?_ (fun ch m' h=>h.elim)
 rintro r m13 ⟨v4,rfl,hs13,hO13⟩
 rw [hpo] at hs13 ⊢
 simp only at hs13 ⊢
 simp only [stuCells']
 simp [hus,stOk,oneC]
 subst hQ
 obtain⟨m14,hm14,hn14,hv14,hg14,hO14⟩:=box_stu m13 x
 rw [← hm14]
 clear hm14
 have hs14:StepsAt m12.next m14 v4 ss:=hs13.ex (by omega) fun y V hy _ _ _=>hg14 y (by omega)
 have hO24':Old m12.next m12 m14:=hO13.trans (hO14.le hO13.1)
 have hs34:StepsAt m4.next m14 v3 ss:=hs12.ex hO24'.1 fun y V hy _ _ _=>hO24'.2 y hy
 refine xsr fun Q' hQ=>?_
 simp [hus]
 refine xcall (ov_none (by decide)) (sameSteps2 (steps_old hs14 hRR) (steps_old hs34 hRR) hln (fun s hs=>(hR s hs).2)) ?_ (fun ch m' h=>h.elim)
 rintro r m15 ⟨rfl,hO15⟩
 subst hQ
 exact xret ⟨rfl,_,resX_one _,rfl⟩
end Go.Proofs.YtgmkbdmgifdfeaaGreatDoor

