/- 'halyardlaw21.ScriptBack' returns true, and its arguments read as they did: of every setup and every steps that are together of bulk at most 1048576 (the second form), in every world that holds the listed variables of Go's library. The card. -/
import Derived.Deep.DeepHandedRow
import Derived.ReadAgain
import Derived.SevenTiedAt
import Derived.Test.YtgmkbdmgifdfeaaGreatDoorCards
import Derived.Test.YtgmkbdmgifdfeaaGreatDoorTie
import Derived.Test.YtgmkbdmgifdfeaaGreatDoorD25
set_option linter.unusedVariables false
set_option linter.unusedSimpArgs false
set_option maxRecDepth 8000
namespace Go.Proofs.YtgmkbdmgifdfeaaGreatDoor
open Go Go.Ev Go.Deep
def stpZ:Stp:=⟨0,0,0,0,0,[],0,0,0,0,0,0,0,0,[],0,0⟩
instance:Inhabited Stp:=⟨stpZ⟩
section
variable {H:Type} {enc:TypeId × Value→H} {W:World} {held:Bool}
theorem absC_stp {N:Nat} {s:Stp} {d c d' c':Value} (hd:absC N d=some d') (hc:absC N c=some c') {r:Nat} {v':Value} (h:(Qaa s d' c')[r]? = some v'):∃ v,(Qaa s d c)[r]? = some v∧absC N v=some v':=by
 have hr:r<17:=(Kgs.1 h).1
 match r,hr with
 |0,_=>cases h;exact⟨_,rfl,rfl⟩
 |1,_=>cases h;exact⟨_,rfl,rfl⟩
 |2,_=>cases h;exact⟨_,rfl,rfl⟩
 |3,_=>cases h;exact⟨_,rfl,rfl⟩
 |4,_=>cases h;exact⟨_,rfl,rfl⟩
 |5,_=>cases h;exact⟨_,rfl,hd⟩
 |6,_=>cases h;exact⟨_,rfl,rfl⟩
 |7,_=>cases h;exact⟨_,rfl,rfl⟩
 |8,_=>cases h;exact⟨_,rfl,rfl⟩
 |9,_=>cases h;exact⟨_,rfl,rfl⟩
 |10,_=>cases h;exact⟨_,rfl,rfl⟩
 |11,_=>cases h;exact⟨_,rfl,rfl⟩
 |12,_=>cases h;exact⟨_,rfl,rfl⟩
 |13,_=>cases h;exact⟨_,rfl,rfl⟩
 |14,_=>cases h;exact⟨_,rfl,hc⟩
 |15,_=>cases h;exact⟨_,rfl,rfl⟩
 |16,_=>cases h;exact⟨_,rfl,rfl⟩
theorem Qc2 {f:Nat→List Value} (hf:∀ i,(f i).length=17):∀ n,((List.range n).flatMap f).length=n*17
 |0=>rfl
 |n+1=>by rw [List.range_succ,List.flatMap_append,Kla,Qc2 hf n];simp [hf];omega
theorem Qlc {f:Nat→List Value} (hf:∀ i,(f i).length=17):∀ n k r,k<n→r<17→((List.range n).flatMap f)[k*17+r]? = (f k)[r]?
 |0,k,r,h,_=>by omega
 |n+1,k,r,h,hr=>by
  rw [List.range_succ,List.flatMap_append]
  by_cases e:k<n
  ·rw [List.getElem?_append_left (by rw [Qc2 hf];omega)];exact Qlc hf n k r e hr
  ·obtain rfl:k=n:=by omega
   rw [List.getElem?_append_right (by rw [Qc2 hf];omega),Qc2 hf]
   simp
theorem Qtq (a b:List Stp):Qbg (a++b)=Qbg a+Qbg b:=by simp [Qbg]
theorem Qxe {fuel:Nat} {v:Value} {x:DataW H × List MemPlace} (h:DataW.trod enc Tryz.prog W 0 (fun _=>true) held fuel 27 [v]=some x) :
  ∃ ss v',absC W.heap.size v=some v'∧Qbx W.heap.size (absM W) v' ss∧Qbg ss≤100*Rows.uptoBulk x.1:=by
 rcases open_slice Tryz.underlying27 h with ⟨e1,rfl⟩|⟨a,len,cap,m,n,D,Pl,e1,hb,hl,hm,hmm,rfl,hx⟩
 ·cases e1
  exact⟨[],_,rfl,⟨[],.inl ⟨rfl,rfl,rfl⟩,rfl,by simp⟩,by simp [Qbg]⟩
 ·cases e1
  simp only [if_true] at hmm
  subst hmm
  rw [cl36] at hx
  obtain⟨F,hF⟩:=choose_lt (α := Stp × (Value × Value) × (Value × Value)) (n:=m) (p:=fun i q=>q.1.R∧W.cells? 0 (a.add (i*17)) 17=some (Qaa q.1 q.2.1.1 q.2.1.2)∧absC W.heap.size q.2.1.1=some q.2.2.1∧absC W.heap.size q.2.1.2=some q.2.2.2 ∧
    SlOld W.heap.size (absM W) q.2.2.1 q.1.data.length (u8s q.1.data)∧SlOld W.heap.size (absM W) q.2.2.2 q.1.choices.length (i64s q.1.choices)∧q.1.data.length+q.1.choices.length+16≤Rows.uptoBulk (D i)) (fun i hi=>by
   obtain⟨cs',h1,h2⟩:=hx i hi
   obtain⟨s,d,c,d',c',k1,rfl,k3,k4,k5,k6,k7⟩:=Qzy h2
   exact⟨⟨s,(d,c),(d',c')⟩,k1,h1,k3,k4,k5,k6,k7⟩)
  have hw:∀ k,k≤m→Qbg ((List.range k).map fun i=>(F i).1)≤100*Rows.uptoBulkAll ((List.range k).map D):=by
   intro k
   induction k with
   |zero=>intro _;simp [Qbg]
   |succ k ih =>
    intro hk
    have h1:=ih (by omega)
    have h2:=(hF k (by omega)).2.2.2.2.2.2
    rw [List.range_succ,List.map_append,Qtq,List.map_append,bulk_app]
    simp only [List.map_cons,List.map_nil,Rows.uptoBulkAll]
    have h3:Qbg [(F k).1]=Qfe (F k).1:=by simp [Qbg]
    rw [h3]
    unfold Qfe
    omega
  have hw2:=hw len hl
  by_cases h0:m=0
  ·subst h0
   obtain rfl:len=0:=by omega
   refine⟨[],.slice (some ⟨0,0,none⟩) 0 0,by unfold absC;simp,⟨[],.inr ⟨0,0,0,rfl,Knr _,.inl rfl⟩,rfl,by simp⟩,by simp [Qbg]⟩
  ·obtain⟨_,k0,_⟩:=hF 0 (by omega)
   obtain⟨_,_,g0⟩:=World.cells?_some k0
   have g1:=g0 0 (by omega)
   have hs:=Qru (g1.trans rfl)
   obtain⟨b,o,s⟩:=a
   have hsb:s=none∧b<W.heap.size:=by
    simpa [Addr.add] using hs
   obtain⟨rfl,hb2⟩:=hsb
   have hlen:∀ i,(Qaa (F i).1 (F i).2.2.1 (F i).2.2.2).length=17:=fun i=>rfl
   refine⟨(List.range len).map fun i=>(F i).1,.slice (some ⟨b,o,none⟩) len m,?_,⟨(List.range len).flatMap fun i=>Qaa (F i).1 (F i).2.2.1 (F i).2.2.2,?_,?_,?_⟩,?_⟩
   ·unfold absC;simp [h0,hb2]
   ·simp only [List.length_map,List.length_range]
    by_cases h1:len=0
    ·subst h1
     exact .inr ⟨b,o,m,rfl,by omega,.inl rfl⟩
    ·refine .inr ⟨b,o,m,rfl,hl,.inr ?_⟩
     have hL:=Qc2 hlen len
     refine Jca (by intro e;rw [e] at hL;simp at hL;omega) fun j v' hj=>?_
     have hlt:=(Kgs.1 hj).1
     rw [hL] at hlt
     have hk:j / 17<len:=by omega
     have hjr:j=j / 17*17+j%17:=by omega
     rw [hjr,Qlc hlen len (j / 17) (j%17) hk (by omega)] at hj
     obtain⟨_,k2,k3,k4,_⟩:=hF (j / 17) (by omega)
     obtain⟨u,p1,p2⟩:=absC_stp (d:=(F (j / 17)).2.1.1) (c:=(F (j / 17)).2.1.2) k3 k4 hj
     obtain⟨_,_,g2⟩:=World.cells?_some k2
     have g3:=g2 (j%17) (by omega)
     rw [p1,Jb8,Jb8] at g3
     refine⟨u,?_,p2⟩
     rw [← g3]
     congr 2
     omega
   ·simp [Qc2 hlen len]
   ·intro k t hk
    have hlt:=(Kgs.1 hk).1
    simp only [List.length_map,List.length_range] at hlt
    simp only [List.getElem?_map,List.getElem?_range hlt,Option.map_some,Kaj] at hk
    subst hk
    obtain⟨k1,k2,k3,k4,k5,k6,_⟩:=hF k (by omega)
    refine⟨k1,_,_,?_,k5,k6⟩
    have hL:=Qc2 hlen len
    apply List.ext_getElem?
    intro r
    by_cases hr:r<17
    ·rw [Qfs hr,Qlc hlen len k r hlt hr]
    ·rw [List.getElem?_eq_none (by rw [Qh1 (by omega)];omega),List.getElem?_eq_none (by rw [Qd5];omega)]
   ·refine Knt hw2 (Nat.mul_le_mul_left _ ?_)
    simp only [Rows.uptoBulk]
    omega
theorem read_stu {fuel:Nat} {cs:List Value} {x:DataW H × List MemPlace} (h:DataW.trod enc Tryz.prog W 0 (fun _=>true) held fuel 26 cs=some x):∃ y:Stu,y.R∧cs=Qai y:=by
 obtain⟨xs,n,rfl,rfl,hcl,hxl,hf⟩:=DataW.trod_struct Tryz.underlying26 h
 rw [cl26] at hcl
 match cs,hcl with
 | [c0,c1,c2,c3,c4,c5,c6,c7,c8],_ =>
 match xs,hxl with
 | [x0,x1,x2,x3],_ =>
 have h0:=hf 0 _ rfl
 have h1:=hf 1 _ rfl
 have h2:=hf 2 _ rfl
 have h3:=hf 3 _ rfl
 clear hf h
 simp only [cl3,cl22,cl24,List.drop_succ_cons,List.drop_zero,List.take_succ_cons,List.take_zero,List.getElem?_cons_succ,List.getElem?_cons_zero] at h0 h1 h2 h3
 obtain⟨ys,n2,_,_,_,hyl,hq⟩:=DataW.trod_struct Tryz.underlying24 h0
 match ys,hyl with
 | [y0,y1,y2,y3,y4,y5],_ =>
 have q0:=hq 0 _ rfl
 have q1:=hq 1 _ rfl
 have q2:=hq 2 _ rfl
 have q3:=hq 3 _ rfl
 have q4:=hq 4 _ rfl
 have q5:=hq 5 _ rfl
 simp only [cl3,cl22,List.drop_succ_cons,List.drop_zero,List.take_succ_cons,List.take_zero,List.getElem?_cons_succ,List.getElem?_cons_zero] at q0 q1 q2 q3 q4 q5
 obtain⟨mtu,rfl,w0⟩:=Qbz Tryz.underlying3 q0
 obtain⟨ack,rfl,w1⟩:=Qbz Tryz.underlying22 q1
 obtain⟨retry,rfl,w2⟩:=Qbz Tryz.underlying22 q2
 obtain⟨retries,rfl,w3⟩:=Qbz Tryz.underlying3 q3
 obtain⟨window,rfl,w4⟩:=Qbz Tryz.underlying3 q4
 obtain⟨inbox,rfl,w5⟩:=Qbz Tryz.underlying3 q5
 obtain⟨sectors,rfl,w6⟩:=Qbz Tryz.underlying3 h1
 obtain⟨room,rfl,w7⟩:=Qbz Tryz.underlying3 h2
 obtain⟨start,rfl,w8⟩:=Qbz Tryz.underlying22 h3
 exact⟨⟨mtu,ack,retry,retries,window,inbox,sectors,room,start⟩,⟨wf64 w0,Qrk w1,Qrk w2,wf64 w3,wf64 w4,wf64 w5,wf64 w6,wf64 w7,Qrk w8⟩,rfl⟩
end
end Go.Proofs.YtgmkbdmgifdfeaaGreatDoor

set_option maxRecDepth 100000
namespace Go.Proofs.YtgmkbdmgifdfeaaGreatDoor
open Go Go.Ev Go.ChangeShapes Go.WideShapes Go.ChangeAt Go.RowKit
theorem stu_vrs (E:Env) (y:Stu):VRs E (Qai y) (Qai y) :=
 .cons (.int _ _) (.cons (.int _ _) (.cons (.int _ _) (.cons (.int _ _) (.cons (.int _ _) (.cons (.int _ _) (.cons (.int _ _) (.cons (.int _ _) (.cons (.int _ _) .nil))))))))
theorem Qyd {W:World} {y:Stu} {ss:List Stp} {v v':Value} (h8:8≤W.heap.size) (hE:Qcv (absM W)) (hp:Qb4 (absM W)) (hy:y.R) (hv:absC W.heap.size v=some v') (hs:Qbx W.heap.size (absM W) v' ss) (hw:Qbg ss≤400000000) :
  Calls Tryz.prog 6 #[.agg ⟨Qai y⟩,v] W fun e w'=>e=.returned (.bool true)∧Below W.heap.size W w':=by
 have hm:=absM_met W (by omega)
 have hc:=Qra (m:=absM W) (v:=v') (x:=y) (ss:=ss) hE hp h8 hy hs hw
 have hc2:=hc.mono (R':=fun out m'=>∃ r,out=.ret r∧r=.bool true) (fun o m' h=>by
  cases o with
  |ret r=>exact⟨r,rfl,h⟩
  |pan ch=>exact h.elim)
 have ha:VRs (Env.globs W.heap.size) [.agg ⟨Qai y⟩,v'] [.agg ⟨Qai y⟩,v]:=.cons (.agg (stu_vrs _ y)) (.cons (Jcb (by omega) hv) .nil)
 refine (Qoc (pkTb W.heap.size W) hm (fun g hg=>Qmj (by omega)) ha hc2).mono ?_
 rintro e w' ⟨r,r',E',m',rfl,rfl,hr,hM⟩
 cases hr
 exact⟨rfl,hM.base⟩
theorem own:ownKnob Tryz.prog.godebug=none:=by kernel_rfl
theorem kidsT:Kids Tryz.prog (· < Tryz.prog.types.size):=kids_rows (by kernel_rfl) (by kernel_rfl)
theorem fullT:∀ t e,t<Tryz.prog.types.size→Tryz.prog.underlying t=some (.slice e)→0<Tryz.prog.cellsOf e:=slices_full_of _ (by kernel_rfl)
theorem lt26:26<Tryz.prog.types.size:=by
 have h:Nat.blt 26 Tryz.prog.types.size=true:=by kernel_rfl
 rwa [Nat.blt_eq] at h
theorem lt27:27<Tryz.prog.types.size:=by
 have h:Nat.blt 27 Tryz.prog.types.size=true:=by kernel_rfl
 rwa [Nat.blt_eq] at h
theorem Qoy {H:Type} {enc:TypeId × Value→H} {W W':World} (hb:Below W.heap.size W W') {t:TypeId} (ht:t<Tryz.prog.types.size) {v:Value} {d:DataW H} {p:List MemPlace} (h:DataW.Trod enc Tryz.prog W 0 (fun _=>true) true t v d p) :
  DataW.Trod enc Tryz.prog W' 0 (fun b=>decide (b<W.heap.size)) true t v d p:=by
 have hlt:∀ x∈p,x.block<W.heap.size:=by
  obtain⟨n,hn⟩:=h
  exact DataW.trod_lt n _ _ _ hn
 obtain⟨n,hn⟩:=h.respare (spare':=fun b=>decide (b<W.heap.size)) kidsT fullT ht (fun x hx=>by simpa using hlt x hx)
 exact⟨n,DataW.trod_carry n _ _ _ hn fun x hx=>hb.same (hlt x hx)⟩
abbrev Qxq:List (String × DataW Unit):=Rows.scriptBackUptoRow.laid
theorem contract (H:Type) (enc:TypeId × Value→H) (W:World) (base:Nat) (args:Array Value) (ds gs:List (DataW H)) (before:List MemPlace)
  (hval:∀ (j:Nat) t v,Tryz.f6.params[j]? = some t→args[j]? = some v→Value.okWide Tryz.prog W .any base t v)
  (hW:DataW.Whole enc Tryz.prog Tryz.f6.params.toList Rows.scriptBackSpec.vars false W args.toList ds gs before) (hk:Rows.uptoSmall H (ds++gs)=true) (hL:laidMet Tryz.prog Qxq W) :
  Calls Tryz.prog 6 args W fun e W'=>∃ v,e=.returned v∧Rows.scriptBackSpec.post enc Tryz.prog Tryz.f6 false true false false W args v W':=by
 have hW':=hW
 obtain⟨p,q,hA0,hV,rfl,hfz,hnd⟩:=hW
 have hA:DataW.TrodAll enc Tryz.prog W 0 (fun _=>true) true Tryz.f6.params.toList args.toList ds p:=hA0
 rw [Tryz.params6] at hA hval
 obtain⟨v0,vs0,d0,ds0,p0,q0,hargs,rfl,rfl,h0,r0⟩:=trodAll_cons hA
 obtain⟨v1,vs1,d1,ds1,p1,q1,rfl,rfl,rfl,h1,r1⟩:=trodAll_cons r0
 obtain⟨rfl,rfl,rfl⟩:=trodAll_nil r1
 obtain rfl:args = #[v0,v1]:=by cases args;simp_all
 obtain⟨rfl,rfl⟩:=trodVars_none hV
 clear hA0 hA r0 r1
 simp only [List.append_nil] at hW' hk
 have e0:∃ cs,v0=.agg cs:=by
  have:=hval 0 26 v0 (by simp) (by simp)
  simp only [Value.okWide,Tryz.underlying26] at this
  obtain⟨cs,h,_⟩:=this
  exact⟨cs,h⟩
 obtain⟨cs,rfl⟩:=e0
 obtain⟨a1,l1,c1,rfl⟩:=okWide_slice Tryz.underlying27 (hval 1 27 v1 (by simp) (by simp))
 obtain⟨f0,hf0⟩:=h0
 obtain⟨f1,hf1⟩:=h1
 obtain⟨y,hy,hcs⟩:=read_stu hf0
 obtain rfl:cs=⟨Qai y⟩:=by cases cs;exact congrArg _ hcs
 obtain⟨ss,v',hv,hs,hw⟩:=Qxe (v:=.slice a1 l1 c1) hf1
 have hb:Rows.uptoBulk d1≤1048576:=by
  have:Rows.uptoBulkAll [d0,d1]≤1048576:=by simpa [Rows.uptoSmall] using hk
  simp only [Rows.uptoBulkAll] at this;omega
 obtain⟨h8,hE⟩:=err_abs hL
 obtain⟨-,t,ht⟩:=of_laid hL (by simp [Qxq,Rows.scriptBackUptoRow]) (by simp [Qxq,Rows.scriptBackUptoRow])
 refine (Qyd h8 hE (pow_abs h8 ht) hy hv hs (by simp only at hw;omega)).mono fun e W' ⟨he,hb⟩=>?_
 subst he
 refine⟨_,rfl,_,_,_,[],p0++(p1++[]),[],hW',trodAll_mk1 (shut_bool Tryz.underlying4 _),?_,rfl,hb.frame _,fun h=>by cases h⟩
 rw [Tryz.params6]
 exact⟨p0,p1++[],Qoy hb lt26 ⟨f0,hf0⟩,⟨p1,[],Qoy hb lt27 ⟨f1,hf1⟩,rfl,rfl⟩,rfl⟩
abbrev Qmp:Array Value := #[.agg #[.int .i64 0,.int .u64 0,.int .u64 0,.int .i64 0,.int .i64 0,.int .i64 0,.int .i64 0,.int .i64 0,.int .u64 0],.slice none 0 0]
theorem Qgk (os:Os) {H:Type} (enc:TypeId × Value→H):∃ places,DataW.whole enc Tryz.prog ((World.laidAll Tryz.prog os Qxq).forCall (fun _ _=>0) ⟨#[],Qmp,[]⟩).memory Tryz.f6.params.toList Rows.scriptBackSpec.vars false Qmp.toList 8 =
  some ([.agg [.agg [.lit (.int .i64 0),.lit (.int .u64 0),.lit (.int .u64 0),.lit (.int .i64 0),.lit (.int .i64 0),.lit (.int .i64 0)],.lit (.int .i64 0),.lit (.int .i64 0),.lit (.int .u64 0)],.nil],[],places) :=
 ⟨[],by kernel_rfl⟩
theorem witness (os:Os) (H:Type) (enc:TypeId × Value→H) :
  ∃ (w:World) (tape:Tape) (i:Input),w.os=os∧(w.forCall tape i).Shaped Tryz.prog∧i.vars=[]∧Input.okWide Tryz.prog (w.forCall tape i) .any w.heap.size 6 i ∧
    (Rows.OpenSpec.upto Rows.scriptBackSpec).preRow enc Tryz.prog Tryz.f6 Rows.scriptBackUptoRow.domain false Rows.scriptBackUptoRow.laid (w.forCall tape i).memory i.args∧({}:Assume).holds Tryz.prog (lone (Frame.enter Tryz.prog 6 i.args .normal) [] (w.forCall tape i)):=by
 obtain⟨places,hx⟩:=Qgk os enc
 have hok:Input.okWideB Tryz.prog ((World.laidAll Tryz.prog os Qxq).forCall (fun _ _=>0) ⟨#[],Qmp,[]⟩) 6 ⟨#[],Qmp,[]⟩=true:=by kernel_rfl
 refine⟨World.laidAll Tryz.prog os Qxq,fun _ _=>0,⟨#[],Qmp,[]⟩,World.laidAll_os _ _ _,World.shaped_of_ZipB (by kernel_rfl) (by kernel_rfl),(Input.okWide_of_okWideB (base:=0) hok).1,(Input.okWide_of_okWideB hok).2,?_,?_⟩
 ·exact OpenSpec.preRow_of_cond 8 hx (by kernel_rfl) (fun k hk=>by cases hk;kernel_rfl) (by kernel_rfl) (by rw [MakeChecks.laidMetH_plain _ _ _ (by kernel_rfl)];exact laidMet_laidAll _ (by kernel_rfl) (by kernel_rfl))
 ·simp only [Assume.holds]
  exact⟨by simp,by simp,fun _=>Modest.zero,by simp,by simp⟩
theorem Qxm (os:Os) (started:os.Started) (H:Type) (enc:TypeId × Value→H) (F:Stop.Interp) :
  ReturnsInHanded {} Tryz.checked os 6 .any ((Rows.OpenSpec.upto Rows.scriptBackSpec).preRow enc Tryz.prog Tryz.f6 Rows.scriptBackUptoRow.domain false Rows.scriptBackUptoRow.laid) (((Rows.OpenSpec.upto Rows.scriptBackSpec).at F).post enc Tryz.prog Tryz.f6 false true false false):=by
 refine returnsInHanded_of_row (C:=Tryz.checked) (s:=Rows.OpenSpec.upto Rows.scriptBackSpec) own started (by kernel_rfl) Tryz.func6 (witness os H enc) ?_
 intro W base args ds gs before hval hW _ hcond _ hL _ _
 rw [MakeChecks.laidMetH_plain _ _ _ (by kernel_rfl)] at hL
 exact contract H enc W base args ds gs before hval hW (hcond _ rfl) hL
theorem saidUpto:Rows.ScriptBackUptoSaid :=
 OpenClaim.holds_of_cond 6 Tryz.f6 rfl rfl rfl rfl rfl rfl rfl ⟨rfl,rfl,rfl,rfl,rfl⟩ rfl rfl rfl rfl rfl (by kernel_rfl) Tryz.func6 (by kernel_rfl)
  (of_decide_eq_true (by kernel_rfl)) (by unfold Func.isWrapper;first|(rw [if_pos (by decide +kernel)];kernel_rfl)|(rw [if_neg (by decide +kernel)];exact⟨rfl,rfl⟩))
  (fun os started H enc _ F=>by rw [OpenClaim.pre_eq_preRow];exact Qxm os started H enc F)
theorem scriptBack_card:Rows.ScriptBackUptoCardSaid :=
 Claim7.holds_tied_plain_at .later [] _ _ _ _ saidUpto (fun _ h=>by cases h) (by kernel_rfl) (fun _ h=>by cases h) scriptBackUpto_row_tie rfl ⟨rfl,rfl⟩ (by kernel_rfl) rfl
  (fun f fn hf hfn=>by
   obtain rfl:f=6:=Kai ((show Tryz.prog.funcNamed "halyard/halyardlaw21.ScriptBack" = some 6 by kernel_rfl).symm.trans hf) |>.symm
   obtain rfl:fn=Tryz.f6:=(Kai (Tryz.func6.symm.trans hfn)).symm
   exact⟨by kernel_rfl,fun j t ht=>by
    rw [Tryz.params6] at ht
    have hm:=Array.mem_of_getElem? ht
    simp only [List.mem_toArray,List.mem_cons,List.not_mem_nil,or_false] at hm
    rcases hm with rfl|rfl
    ·exact (show Tryz.prog.wantsStandIn 26=false by kernel_rfl)
    ·exact (show Tryz.prog.wantsStandIn 27=false by kernel_rfl)⟩)
  (by kernel_rfl)
end Go.Proofs.YtgmkbdmgifdfeaaGreatDoor

