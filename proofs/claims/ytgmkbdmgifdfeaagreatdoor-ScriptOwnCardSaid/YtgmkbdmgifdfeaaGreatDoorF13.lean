/- A part of a proof: ScriptOwn. -/
import Derived.Test.YtgmkbdmgifdfeaaGreatDoorF12
set_option linter.unusedVariables false
set_option linter.unusedSimpArgs false
namespace Go.Ev
open Go.RowKit
inductive Ent where
 |nil
 |own (b n:Nat)
inductive Enf where
 |nil
 |own (b:Nat)
 |fix (q o n c:Nat)
def Ent.v:Ent→Value
 | .nil=>.slice none 0 0
 | .own b n=>.slice (some ⟨b,0,none⟩) n n
def Enf.v:Enf→Value
 | .nil=>.slice none 0 0
 | .own b=>.slice (some ⟨b,0,none⟩) 0 0
 | .fix q o n c=>.slice (some ⟨q,o,none⟩) n c
def Ent.blk:Ent→List Nat
 | .nil=>[]
 | .own b _=>[b]
def Enf.blk:Enf→List Nat
 | .nil=>[]
 | .own b=>[b]
 | .fix q _ _ _=>[q]
def EntOk (m:Mem) (e:TypeId) (sz:Nat):Ent→Prop
 | .nil=>True
 | .own b n=>b<m.next∧n≤1000000000∧∃ cs:List Value,cs.length=n*sz∧vw m b=some ⟨true,e,true,cs⟩
def EnR (lo:Nat) (m':Mem) (e:TypeId) (sz:Nat):Ent→Enf→Prop
 | .nil,.nil=>True
 | .own b 0,.own b'=>b'=b∧b<lo∧vw m' b=some ⟨true,e,true,[]⟩
 | .own _ (n+1),.fix q o n' c=>n'=n+1∧n+1≤c∧lo≤q∧q<m'.next∧m'.objs.get q=some (bareRow (o+c*sz) e)
 |_,_=>False
theorem EnR.lower {lo lo':Nat} {m':Mem} {e:TypeId} {sz:Nat} {a:Ent} {a':Enf} (h:EnR lo m' e sz a a') (hl:lo'≤lo) (hb:∀ b∈a.blk,b<lo'):EnR lo' m' e sz a a':=by
 cases a with
 |nil=>cases a'<;>first|exact h.elim|trivial
 |own b n =>
  cases n with
  |zero=>cases a'<;>first|exact h.elim|exact⟨h.1,hb b (by simp [Ent.blk]),h.2.2⟩
  |succ n=>cases a'<;>first|exact h.elim|exact⟨h.1,h.2.1,by have:=h.2.2.1;omega,h.2.2.2⟩
theorem reabs {P:Program} {N:Nat} {w0 w:World} {e:TypeId} {sz:Nat} (hsz:P.cellsOf e=sz):∀ (l:List Ent) {E:Env} {m:Mem},MR P N w0 E m w→(∀ x∈l,EntOk m e sz x∧∀ b n,x=.own b n→∃ i,E b=some i)→(l.flatMap Ent.blk).Nodup →
  ∃ (E':Env) (m':Mem) (l':List Enf),MR P N w0 E' m' w∧Env.le E E'∧m.next≤m'.next∧(∀ x,x<m.next→x∉l.flatMap Ent.blk→m'.objs.get x=m.objs.get x)∧l'.length=l.length ∧
    (∀ (k:Nat) (a:Ent),l[k]? = some a→∃ a',l'[k]? = some a'∧EnR m.next m' e sz a a'∧∀ u,VR E a.v u→VR E' a'.v u)∧(l'.flatMap Enf.blk).Nodup∧∀ q∈l'.flatMap Enf.blk,m.next≤q∨q∈l.flatMap Ent.blk
 | [],E,m,H,_,_=>⟨E,m,[],H,.refl E,Nat.le_refl _,fun _ _ _=>rfl,rfl,fun k a h=>by simp at h,by simp,fun q h=>by simp at h⟩
 | .nil::l,E,m,H,ho,hd=>by
   obtain⟨E',m',l',h1,h2,h3,h4,h5,h6,h7,h8⟩:=reabs hsz l H (fun x hx=>ho x (.tail _ hx)) (by simpa [Ent.blk] using hd)
   refine⟨E',m',.nil::l',h1,h2,h3,fun x hx hx2=>h4 x hx (by simpa [Ent.blk] using hx2),by simp [h5],fun k a hk=>?_,by simpa [Enf.blk] using h7,fun q hq=>by simpa [Ent.blk] using h8 q (by simpa [Enf.blk] using hq)⟩
   cases k with
   |zero=>cases hk;exact⟨.nil,rfl,trivial,fun u hu=>hu.mono h2⟩
   |succ k=>exact h6 k a hk
 | .own b 0::l,E,m,H,ho,hd=>by
   obtain⟨⟨hb,hbig,cs,hcs,hv⟩,hn⟩:=ho _ (.head _)
   simp only [List.flatMap_cons,Ent.blk,List.singleton_append,List.nodup_cons] at hd
   obtain⟨E',m',l',h1,h2,h3,h4,h5,h6,h7,h8⟩:=reabs hsz l H (fun x hx=>ho x (.tail _ hx)) hd.2
   obtain rfl:cs=[]:=List.length_eq_zero_iff.1 (by simpa using hcs)
   refine⟨E',m',.own b::l',h1,h2,h3,fun x hx hx2=>h4 x hx (fun h=>hx2 (by simp [h])),by simp [h5],fun k a hk=>?_,?_,fun q hq=>?_⟩
   ·cases k with
    |zero =>
     cases hk
     refine⟨.own b,rfl,⟨rfl,hb,?_⟩,fun u hu=>hu.mono h2⟩
     unfold vw at hv ⊢
     rw [h4 b hb hd.1];exact hv
    |succ k=>exact h6 k a hk
   ·simp only [List.flatMap_cons,Enf.blk,List.singleton_append,List.nodup_cons]
    refine⟨fun h=>?_,h7⟩
    rcases h8 b h with h|h
    ·omega
    ·exact hd.1 h
   ·simp only [List.flatMap_cons,Enf.blk,Ent.blk,List.singleton_append,List.mem_cons] at hq ⊢
    rcases hq with rfl|hq
    ·exact .inr (.inl rfl)
    ·rcases h8 q hq with h|h
     ·exact .inl h
     ·exact .inr (.inr h)
 | .own b (n+1)::l,E,m,H,ho,hd=>by
   obtain⟨⟨hb,hbig,cs,hcs,hv⟩,hn⟩:=ho _ (.head _)
   obtain⟨i,hi⟩:=hn b _ rfl
   simp only [List.flatMap_cons,Ent.blk,List.singleton_append,List.nodup_cons] at hd
   obtain⟨H1,hfree⟩:=H.reab hi hv
   have hle:=Env.add_le (i:=⟨i.blk,0,0⟩) hfree
   rw [hsz,hcs] at H1
   obtain⟨m1,hm1⟩:∃ m1,m1=newObjA (putObj m b .dead) (bareRow (i.shift+(n+1)*sz+i.extra*sz) e):=⟨_,rfl⟩
   rw [← hm1] at H1
   have hn1:m1.next=m.next+1:=by rw [hm1];rfl
   have hg1:∀ x,x<m.next→x≠b→m1.objs.get x=m.objs.get x:=fun x hx hxb=>by rw [hm1,get_newObjA,next_putObj,if_neg (by omega),get_putObj,if_neg hxb]
   have hgq:m1.objs.get m.next=some (bareRow (i.shift+(n+1)*sz+i.extra*sz) e):=by rw [hm1,get_newObjA,next_putObj,if_pos rfl]
   have hbl:∀ x∈l,∀ b'∈x.blk,b'<m.next∧b'≠b:=fun x hx b' hb'=>by
    have h0:=(ho x (.tail _ hx)).1
    refine⟨?_,fun e=>hd.1 (List.mem_flatMap.2 ⟨x,hx,e▸hb'⟩)⟩
    cases x with
    |nil=>simp [Ent.blk] at hb'
    |own b2 n2=>simp only [Ent.blk,List.mem_singleton] at hb';rw [hb'];exact h0.1
   obtain⟨E',m',l',h1,h2,h3,h4,h5,h6,h7,h8⟩:=reabs hsz l H1 (fun x hx=>by
    obtain⟨g1,g2⟩:=ho x (.tail _ hx)
    refine⟨?_,fun b' n' e=>?_⟩
    ·cases x with
     |nil=>trivial
     |own b2 n2 =>
      obtain⟨k1,k2⟩:=hbl _ hx b2 (by simp [Ent.blk])
      obtain⟨_,k5,cs2,k3,k4⟩:=g1
      refine⟨by omega,k5,cs2,k3,?_⟩
      unfold vw at k4 ⊢
      rw [hg1 _ k1 k2];exact k4
    ·obtain⟨j,hj⟩:=g2 b' n' e
     exact⟨j,hle _ _ hj⟩) hd.2
   have hq':m'.objs.get m.next=some (bareRow (i.shift+(n+1)*sz+i.extra*sz) e):=by
    rw [h4 m.next (by omega) (fun h=>by
     obtain⟨x,hx,hxb⟩:=List.mem_flatMap.1 h
     have:=(hbl x hx _ hxb).1
     omega)]
    exact hgq
   refine⟨E',m',.fix m.next i.shift (n+1) (n+1+i.extra)::l',h1,hle.trans h2,by omega,fun x hx hx2=>?_,by simp [h5],fun k a hk=>?_,?_,fun q hq=>?_⟩
   ·simp only [List.flatMap_cons,Ent.blk,List.singleton_append,List.mem_cons,not_or] at hx2
    rw [h4 x (by omega) hx2.2,hg1 x hx hx2.1]
   ·cases k with
    |zero =>
     cases hk
     refine⟨_,rfl,⟨rfl,by omega,Nat.le_refl _,by omega,?_⟩,fun u hu=>?_⟩
     ·rw [hq',Nat.add_mul (n+1) i.extra sz,Nat.add_assoc]
     ·have hE1:(E.add m.next ⟨i.blk,0,0⟩) m.next=some ⟨i.blk,0,0⟩:=Env.add_at
      simp only [Ent.v] at hu
      cases hu with
      |sl _ _ hE =>
       obtain rfl:=Option.some.inj (hi.symm.trans hE)
       have:=VR.sl (E:=E') (o:=i.shift) (n+1) (n+1+i.extra) (h2 _ _ hE1)
       simpa [Enf.v] using this
    |succ k =>
     obtain⟨a',g1,g2,g3⟩:=h6 k a hk
     exact⟨a',g1,g2.lower (by omega) (fun b' hb'=>(hbl a (List.mem_of_getElem? hk) b' hb').1),fun u hu=>g3 u (hu.mono hle)⟩
   ·simp only [List.flatMap_cons,Enf.blk,List.singleton_append,List.nodup_cons]
    refine⟨fun h=>?_,h7⟩
    rcases h8 _ h with h|h
    ·omega
    ·obtain⟨x,hx,hxb⟩:=List.mem_flatMap.1 h
     have:=(hbl x hx _ hxb).1
     omega
   ·simp only [List.flatMap_cons,Enf.blk,Ent.blk,List.singleton_append,List.mem_cons] at hq ⊢
    rcases hq with rfl|hq
    ·exact .inl (Nat.le_refl _)
    ·rcases h8 q hq with h|h
     ·exact .inl (by omega)
     ·exact .inr (.inr h)
noncomputable def killM (m:Mem):List Nat→Mem
 | []=>m
 |b::l=>putObj (killM m l) b .dead
theorem killM_next (m:Mem):∀ l,(killM m l).next=m.next
 | []=>rfl
 |b::l=>killM_next m l
theorem killM_get (m:Mem):∀ (l:List Nat) (x:Nat),(killM m l).objs.get x=if x∈l then some .dead else m.objs.get x
 | [],x=>by simp [killM]
 |b::l,x=>by
  rw [killM,get_putObj,killM_get m l x]
  by_cases h:x=b
  ·simp [h]
  ·by_cases h2:x∈l<;>simp [h,h2]
def EnfOk (m:Mem) (e:TypeId) (sz:Nat):Enf→Prop
 | .nil=>True
 | .own b=>b<m.next∧vw m b=some ⟨true,e,true,[]⟩
 | .fix q o n c=>0<n∧n≤c∧n≤1000000000∧q<m.next∧m.objs.get q=some (bareRow (o+c*sz) e)
def LsAt (m:Mem) (te e:TypeId) (sz:Nat) (arg:Value) (l:List Enf):Prop :=
 l.length≤1000000000∧(∀ a∈l,EnfOk m e sz a)∧((arg=.slice none 0 0∧l=[])∨∃ lb x,arg=.slice (some ⟨lb,0,none⟩) l.length l.length∧lb<m.next∧vw m lb=some ⟨true,te,x,l.map Enf.v⟩∧(lb::l.flatMap Enf.blk).Nodup)
def LsIn (m:Mem) (te e:TypeId) (sz lb:Nat) (l:List Ent):Prop :=
 l.length≤1000000000∧lb<m.next∧(∃ x,vw m lb=some ⟨true,te,x,l.map Ent.v⟩)∧(∀ a∈l,EntOk m e sz a)∧(lb::l.flatMap Ent.blk).Nodup
theorem enf_one (a:Enf):oneC a.v=true:=by cases a<;>rfl
theorem vr_named {E:Env} {b o n c:Nat} {u:Value} (h:VR E (.slice (some ⟨b,o,none⟩) n c) u):∃ i,E b=some i:=by
 cases h with
 |sl _ _ h=>exact⟨_,h⟩
 |slD _ h=>exact⟨_,h⟩
theorem lists_calls {tb:Tabs} {N G:Nat} {w0:World} (pk:∀ (I:E0C),@ProgOk I tb N G w0) {f:FuncId} {te e:TypeId} {sz:Nat} (hsz:tb.p.cellsOf e=sz)
  (hrun:∀ (m:Mem) (arg:Value) (l:List Enf),LsAt m te e sz arg l→CallsA tb f [arg] m (retR fun r m'=>r=.bool true∧∀ x,x<m.next→x∉l.flatMap Enf.blk→m'.objs.get x=m.objs.get x))
  {E:Env} {m:Mem} {w:World} {lb:Nat} {l:List Ent} (HM:MR tb.p N w0 E m w) (HG:∀ b,b<G→E b=some ⟨b,0,0⟩) (hl:LsIn m te e sz lb l) {args':List Value} (ha:VRs E [.slice (some ⟨lb,0,none⟩) l.length l.length] args') :
  Calls tb.p f ⟨args'⟩ w fun ex w'=>∃ v' E',ex=.returned v'∧VR E' (.bool true) v'∧MR tb.p N w0 E' (killM m (lb::l.flatMap Ent.blk)) w'∧MExt m.next E m E' (killM m (lb::l.flatMap Ent.blk)):=by
 obtain⟨hsmall,hlb,⟨x,hv⟩,hok,hnd⟩:=hl
 obtain⟨hnd1,hnd2⟩:=List.nodup_cons.1 hnd
 have hlbE:∃ i,E lb=some i:=by
  cases ha with
  |cons h _=>exact vr_named h
 obtain⟨i0,hi0⟩:=hlbE
 obtain⟨r,r1,r2,r3,r4,r5,r6,r7,-⟩:=vw_spec hv
 have hrw:=rowW_some (r7 rfl)
 obtain⟨ob,o1,o2⟩:=HM.objs lb i0 _ hi0 hrw rfl
 cases o2 with
 |row hR =>
  rename_i cs el fr
  have hcell:∀ k a,l[k]? = some a→∃ u,cs[i0.shift+k]? = some u∧VR E a.v u:=fun k a hk=>by
   have:=hR.cell k a.v (by rw [r6];simp [hk])
   exact this
  have hname:∀ a∈l,∀ b n,a=.own b n→∃ i,E b=some i:=by
   intro a ha2 b n e2
   obtain⟨k,hk⟩:=List.getElem?_of_mem ha2
   obtain⟨u,_,hu⟩:=hcell k a hk
   rw [e2] at hu
   exact vr_named hu
  obtain⟨E1,m1,l1,H1,hle1,hn1,hk1,hlen1,hen1,hnd3,hfar1⟩:=reabs hsz l HM (fun a ha2=>⟨hok a ha2,hname a ha2⟩) hnd2
  have hlb1:m1.objs.get lb=some (.row r):=by rw [hk1 lb hlb hnd1];exact hrw
  have hv1:vw m1 lb=some ⟨true,te,x,l.map Ent.v⟩:=by unfold vw at hv ⊢;rw [hk1 lb hlb hnd1];exact hv
  have hrw1:rowW m1 lb=some r:=by unfold rowW;rw [hlb1]
  have hone1:(l1.map Enf.v).all oneC=true:=List.all_eq_true.2 fun v hv2=>by obtain⟨a,_,rfl⟩:=List.mem_map.1 hv2;exact enf_one a
  have hst:stOk ⟨true,te,x,l.map Ent.v⟩ 0 (l1.map Enf.v)=true:=by simp [stOk,hlen1,hone1]
  obtain⟨m2,hm2⟩:∃ m2,m2=stM m1 lb 0 (l1.map Enf.v):=⟨_,rfl⟩
  have hv2:vw m2 lb=some ⟨true,te,x,l1.map Enf.v⟩:=by
   rw [hm2,vw_stM_eq hv1 hst,spl_eq (by simp [hlen1])]
   simp [hlen1]
  have hm2n:m2.next=m1.next:=by rw [hm2];exact stM_next
  have hm2g:∀ y,y≠lb→m2.objs.get y=m1.objs.get y:=fun y hy=>by rw [hm2];exact stM_get hy
  have H2:MR tb.p N w0 E1 m2 w:=by
   obtain⟨r',g1,g2⟩:=storeCells_ok hv1 hst
   have hput:m2=putObj m1 lb (.row r'):=by rw [hm2];unfold stM;rw [g1]
   rw [hput]
   obtain⟨s1,s2,s3,s4,s5,s6⟩:=vwRow_spec g2
   have hsp:spl (l.map Ent.v) 0 (l1.map Enf.v)=l1.map Enf.v:=by
    rw [spl_eq (by simp [hlen1])];simp [hlen1]
   simp only [hsp] at s2 s6
   simp only at s3 s4
   refine H1.put (hle1 _ _ hi0) hlb1 rfl (.inl rfl) rfl (fun _ _=>rfl) rfl rfl rfl fun _=>⟨_,o1,.row ⟨?_,fun j v hj=>?_,?_,fun hx=>?_,?_⟩⟩
   ·rw [s3,hR.elem,r3]
   ·rw [s6,List.getElem?_map] at hj
    cases ha1:l1[j]? with
    |none=>rw [ha1] at hj;cases hj
    |some a' =>
     rw [ha1] at hj
     obtain rfl:=Option.some.inj hj
     have hjl:j<l.length:=by rw [← hlen1];exact (List.getElem?_eq_some_iff.1 ha1).1
     have hal:l[j]? = some l[j]:=List.getElem?_eq_getElem hjl
     obtain⟨a2,k1,-,k3⟩:=hen1 j _ hal
     rw [ha1] at k1
     obtain rfl:=Option.some.inj k1
     obtain⟨u,u1,u2⟩:=hcell j _ hal
     exact⟨u,u1,k3 u u2⟩
   ·have:=hR.size
    rw [r2,r3] at this
    rw [s2,s3,this]
    simp [hlen1]
   ·exact hR.exact' (by rw [r4,← s4];exact hx)
   ·have:=hR.fz
    rw [r5] at this
    rw [s5];exact this
  have hsome:∀ y∈lb::l.flatMap Ent.blk,y<m.next∧(∃ o,m.objs.get y=some o)∧∃ i,E y=some i:=by
   intro y hy
   rcases List.mem_cons.1 hy with rfl|hy
   ·exact⟨hlb,⟨_,hrw⟩,_,hi0⟩
   ·obtain⟨a,ha2,hya⟩:=List.mem_flatMap.1 hy
    cases a with
    |nil=>simp [Ent.blk] at hya
    |own b n =>
     simp only [Ent.blk,List.mem_singleton] at hya
     subst hya
     obtain⟨g1,-,c2,g2,g3⟩:=hok _ ha2
     refine⟨g1,?_,hname _ ha2 _ n rfl⟩
     unfold vw at g3
     split at g3
     ·rename_i o ho;exact⟨o,ho⟩
     ·cases g3
  have hq1:∀ q∈l1.flatMap Enf.blk,q≠lb:=fun q hq e2=>by
   rcases hfar1 q hq with h|h
   ·omega
   ·exact hnd1 (e2▸h)
  have hls:LsAt m2 te e sz (.slice (some ⟨lb,0,none⟩) l.length l.length) l1:=by
   refine⟨by omega,fun a' ha2=>?_,.inr ⟨lb,x,by rw [hlen1],by omega,hv2,List.nodup_cons.2 ⟨fun h=>hq1 _ h rfl,hnd3⟩⟩⟩
   obtain⟨k,hk⟩:=List.getElem?_of_mem ha2
   have hkl:k<l.length:=by rw [← hlen1];exact (List.getElem?_eq_some_iff.1 hk).1
   obtain⟨a2,k1,k2,-⟩:=hen1 k _ (List.getElem?_eq_getElem hkl)
   rw [hk] at k1
   obtain rfl:=Option.some.inj k1
   have hne:∀ q∈a'.blk,q≠lb:=fun q hq=>hq1 q (List.mem_flatMap.2 ⟨a',ha2,hq⟩)
   have hoka:=hok l[k] (List.getElem_mem hkl)
   generalize l[k]=a at k2 hoka
   cases a with
   |nil=>cases a'<;>first|exact k2.elim|trivial
   |own b n =>
    cases n with
    |zero =>
     cases a' with
     |own b' =>
      obtain⟨rfl,g2,g3⟩:=k2
      refine⟨by omega,?_⟩
      unfold vw at g3 ⊢
      rw [hm2g _ (hne _ (by simp [Enf.blk]))];exact g3
     |_=>exact k2.elim
    |succ n =>
     cases a' with
     |fix q o n' c =>
      obtain⟨rfl,g2,g3,g4,g5⟩:=k2
      exact⟨by omega,g2,hoka.2.1,by omega,by rw [hm2g _ (hne _ (by simp [Enf.blk]))];exact g5⟩
     |_=>exact k2.elim
  have hc:=(hrun m2 _ l1 hls).mono (R':=fun out m'=>∃ v,out=.ret v∧(v=.bool true∧∀ y,y<m2.next→y∉l1.flatMap Enf.blk→m'.objs.get y=m2.objs.get y)) (fun o m' h=>by
   cases o with
   |ret r=>exact⟨r,rfl,h⟩
   |pan ch=>exact h.elim)
  letI I1:E0C:=⟨E1⟩
  refine (calls_of_callsE (I:=I1) (pk I1) H2 (GlobE.of (fun b hb=>hle1 _ _ (HG b hb)) (.refl E1)) (ha.mono hle1) hc).mono ?_
  rintro ex w' ⟨v,v',E',m',⟨rfl,hfr⟩,rfl,hvr,H3,hle3⟩
  have hle13:Env.le E E':=hle1.trans hle3
  refine⟨v',E,rfl,?_,?_,⟨.refl E,fun b hb hE=>⟨hE,?_⟩,by rw [killM_next];exact Nat.le_refl _⟩⟩
  ·cases hvr;exact .bool true
  ·refine HM.back H3 hle13 (fun y=>y∈lb::l.flatMap Ent.blk) (fun y hy hyS=>?_) (killM_next _ _) fun y=>?_
   ·have hy2:y≠lb:=fun e2=>hyS (e2▸.head _)
    have hy3:y∉l.flatMap Ent.blk:=fun h=>hyS (.tail _ h)
    rw [hfr y (by omega) (fun h=>by
     rcases hfar1 y h with h2|h2
     ·omega
     ·exact hy3 h2),hm2g y hy2,hk1 y hy hy3]
   ·rw [killM_get]
    by_cases hS:y∈lb::l.flatMap Ent.blk
    ·obtain⟨g1,⟨o,g2⟩,-⟩:=hsome y hS
     rw [if_pos hS,if_pos ⟨hS,g1⟩,g2];rfl
    ·rw [if_neg hS,if_neg fun h=>hS h.1]
  ·rw [killM_get,if_neg]
   intro h
   obtain⟨-,-,i,hi⟩:=hsome b h
   rw [hE] at hi;cases hi
theorem lists_calls0 {tb:Tabs} {N G:Nat} {w0:World} (pk:∀ (I:E0C),@ProgOk I tb N G w0) {f:FuncId} {te e:TypeId} {sz:Nat}
  (hrun:∀ (m:Mem) (arg:Value) (l:List Enf),LsAt m te e sz arg l→CallsA tb f [arg] m (retR fun r m'=>r=.bool true∧∀ x,x<m.next→x∉l.flatMap Enf.blk→m'.objs.get x=m.objs.get x))
  {E:Env} {m:Mem} {w:World} (HM:MR tb.p N w0 E m w) (HG:∀ b,b<G→E b=some ⟨b,0,0⟩) {args':List Value} (ha:VRs E [.slice none 0 0] args') :
  Calls tb.p f ⟨args'⟩ w fun ex w'=>∃ v' E',ex=.returned v'∧VR E' (.bool true) v'∧MR tb.p N w0 E' m w'∧MExt m.next E m E' m:=by
 have hc:=(hrun m _ [] ⟨by simp,by simp,.inl ⟨rfl,rfl⟩⟩).mono (R':=fun out m'=>∃ v,out=.ret v∧(v=.bool true∧∀ y,y<m.next→m'.objs.get y=m.objs.get y)) (fun o m' h=>by
  cases o with
  |ret r=>exact⟨r,rfl,h.1,fun y hy=>h.2 y hy (by simp)⟩
  |pan ch=>exact h.elim)
 letI I1:E0C:=⟨E⟩
 refine (calls_of_callsE (I:=I1) (pk I1) HM (GlobE.of HG (.refl E)) ha hc).mono ?_
 rintro ex w' ⟨v,v',E',m',⟨rfl,hfr⟩,rfl,hvr,H3,hle⟩
 refine⟨v',E,rfl,by cases hvr;exact .bool true,HM.back H3 hle (fun _=>False) (fun y hy _=>hfr y hy) rfl (fun y=>by simp),.refl _ _ _⟩
end Go.Ev

namespace Go.Ev
structure IsS (a:Option SCode) (s:SCode):Prop where h:a=some s
theorem kA:(∀ a b,strip (.seq a b)=.seq (strip a) (strip b))∧(∀ i (o:List Oper),strip (.region i o.toArray false)=.reg (o.map (stripOp o)))∧(∀ i (o:List Oper),strip (.region i o.toArray true)=.drw (((List.range o.length).zip o).map (dStrip o)))∧(∀ c a b,strip (.cond c a b)=.cond c (strip a) (strip b)) ∧
  (∀ i b,strip (.block i b)=.block i (strip b))∧(∀ b,strip (.loop b)=.loop (strip b))∧(∀ i,strip (.exit i)=.exit i)∧strip .ret=.ret∧strip .skip=.skip∧(∀ i,strip (.label i)=.skip)∧(∀ c,Option.map strip (some c)=some (strip c)) ∧
  (∀ f (ps:List Tmp) a b,strip (.rangeFunc f ps.toArray a b)=.rng f ps (strip a) (strip b) (codeOk 8 a&&codeOk 8 b)) ∧
  (∀ (f:Oper→SOp) a l,(a::l).map f=f a::l.map f)∧(∀ f:Oper→SOp,[].map f=[])∧(∀ (f:Nat × Oper→DOp) a l,(a::l).map f=f a::l.map f)∧(∀ f:Nat × Oper→DOp,[].map f=[]) ∧
  (∀ (l:List Oper) d o t p e,stripOp l ⟨d,o,t,p,e,none⟩=⟨d,o,t,.no⟩)∧(∀ (l:List Oper) d o t p e g,stripOp l ⟨d,o,t,p,e,some g⟩=⟨d,o,t,stripG l (some g)⟩) ∧
  (∀ (l:List Oper) i d o t p e g,dStrip l (i,⟨d,o,t,p,e,g⟩)=⟨i,d,o,t,stripG l g,bindOn e.toList,gNames (stripG l g)++tmpsOf o.operands.toList⟩) ∧
  (∀ l,stripG l none=.no)∧(∀ x l n w,stripG (x::l) (some (n+1,w))=stripG l (some (n,w)))∧(∀ d o t p e g l w,stripG (⟨some d,o,t,p,e,g⟩::l) (some (0,w))=.on d w) ∧
  bindOn []=[]∧(∀ a l,bindOn (⟨a,.data⟩::l)=a::bindOn l)∧(∀ a l,bindOn (⟨a,.chain⟩::l)=a::bindOn l)∧(∀ a l,bindOn (⟨a,.guard⟩::l)=a::bindOn l)∧(∀ a l,bindOn (⟨a,.phase⟩::l)=a::bindOn l)∧(∀ a d l,bindOn (⟨a,.textOnly d⟩::l)=bindOn l)∧(∀ a d l,bindOn (⟨a,.gcOnly d⟩::l)=bindOn l) ∧
  gNames .no=[]∧(∀ d w,gNames (.on d w)=[d])∧tmpsOf []=[]∧(∀ t l,tmpsOf (.tmp t::l)=t::tmpsOf l)∧(∀ v l,tmpsOf (.const v::l)=tmpsOf l)∧(∀ f l,tmpsOf (.func f::l)=tmpsOf l)∧(∀ g l,tmpsOf (.global g::l)=tmpsOf l) ∧
  (∀ l:List Nat,[]++l=l)∧(∀ a (l r:List Nat),(a::l)++r=a::(l++r))∧(∀ l:List UInt8,(Value.string ⟨l.toArray⟩)=.string ⟨⟨l⟩⟩)∧(∀ (x:Nat) l (y:Oper) r,(x::l).zip (y::r)=(x,y)::l.zip r)∧(∀ r:List Oper,([]:List Nat).zip r=[]) ∧
  (∀ (x:Oper) l,(x::l).length=l.length+1)∧([]:List Oper).length=0 :=
 ⟨fun _ _=>rfl,fun _ _=>rfl,fun _ _=>rfl,fun _ _ _=>rfl,fun _ _=>rfl,fun _=>rfl,fun _=>rfl,rfl,rfl,fun _=>rfl,fun _=>rfl,fun _ _ _ _=>rfl,fun _ _ _=>rfl,fun _=>rfl,fun _ _ _=>rfl,fun _=>rfl,fun _ _ _ _ _ _=>rfl,fun _ _ _ _ _ _ _=>rfl,fun _ _ _ _ _ _ _ _=>rfl,
  fun _=>rfl,fun _ _ _ _=>rfl,fun _ _ _ _ _ _ _ _=>rfl,rfl,fun _ _=>rfl,fun _ _=>rfl,fun _ _=>rfl,fun _ _=>rfl,fun _ _ _=>rfl,fun _ _ _=>rfl,rfl,fun _ _=>rfl,rfl,fun _ _=>rfl,fun _ _=>rfl,fun _ _=>rfl,fun _ _=>rfl,
  fun _=>rfl,fun _ _ _=>rfl,fun _=>rfl,fun _ _ _ _=>rfl,fun _=>rfl,fun _ _=>rfl,rfl⟩
end Go.Ev

namespace Go.Ev
open Go.RowKit
def recMode:Option PanicEntry→FrameMode
 |none=>.returning
 |some p=>.panicking [p]
section
variable (tb:Tabs)
def CallsD (g:FuncId) (args:List Value) (rec:Option PanicEntry) (m:Mem) (S:Mem→Prop):Prop :=
 ∃ fr,enterF tb g args .deferred=some fr∧∀ (c:AFrame) (cs:List AFrame),c.mode=recMode rec→(rec≠none→isDr c.todo=false) →
   ∃ m',S m'∧To tb ⟨fr,c::cs,m⟩ ⟨setMode c .returning,cs,m'⟩
def DefA (d:Deferred) (rec:Option PanicEntry) (m:Mem) (S:Mem→Prop):Prop :=
 ∃ fv cap f args,d.target=.fn fv cap∧invokeA tb fv cap.toList d.args.toList m=.enter f args∧CallsD tb f args rec m S
def bodyD (fd:Func) (d:Deferred) (R:OutA→Mem→Prop):PostA
 | .normal,l,ds,m=>ds=[d]∧DefA tb d none m (fun m2=>∃ v,resL (tb:=tb) fd l m2=some v∧R (.ret v) m2)
 | .jump .ret,l,ds,m=>ds=[d]∧DefA tb d none m (fun m2=>∃ v,resL (tb:=tb) fd l m2=some v∧R (.ret v) m2)
 | .pan ch,l,ds,m=>ds=[d]∧∃ p,ch=[p]∧DefA tb d (some p) m (fun m2=>∃ v,resL (tb:=tb) fd l m2=some v∧R (.ret v) m2)
 |_,_,_,_=>False
variable {tb}
theorem def_run {d:Deferred} {rec:Option PanicEntry} {m:Mem} {S:Mem→Prop} (h:DefA tb d rec m S) {fn:FuncId} {t:T Value} {nt:Nat} {k:List AItem} {kind:CallKind} {ro:Option Nat} (cs:List AFrame) {mode:FrameMode}
  (hm:mode=recMode rec) (hk:rec≠none→isDr k=false):∃ m',S m'∧To tb ⟨⟨fn,t,nt,k,[d],mode,kind,ro⟩,cs,m⟩ ⟨⟨fn,t,nt,k,[],.returning,kind,ro⟩,cs,m'⟩:=by
 obtain⟨fv,cap,f,args,h1,h2,fr,h3,h4⟩:=h
 obtain⟨m',hS,hto⟩:=h4 ⟨fn,t,nt,k,[],mode,kind,ro⟩ cs hm hk
 refine⟨m',hS,.step ?_ hto⟩
 cases rec with
 |none=>subst hm;simp only [recMode,stepA,stepFr,unwindA,h1,h2,h3]
 |some p=>subst hm;simp only [recMode,stepA,stepFr,unwindA,h1,h2,h3]
theorem callsA_of_wpD {f:FuncId} {fd:Func} {c:Code} {args:List Value} {m:Mem} {d:Deferred} {R:OutA→Mem→Prop} (hf:tb.funcs.get f=some fd) (hb:fd.body=some c)
  (h:wpC tb ⟨f,.normal,none⟩ c (args++List.replicate (fd.ntmps-args.length) undef) [] m (bodyD tb fd d R)):CallsA tb f args m R:=by
 refine⟨⟨f,T.ofList args,max fd.ntmps args.length,[.code c],[],.run,.normal,none⟩,by simp only [enterF,hf,hb],fun cs=>?_⟩
 have hs:SlotsR (args++List.replicate (fd.ntmps-args.length) undef) (T.ofList args):=fun x=>by
  rw [slots_ofList args x]
  simp only [List.getD_eq_getElem?_getD,List.getElem?_append]
  split
  ·rfl
  ·rename_i hx
   rw [List.getElem?_eq_none (by omega),List.getElem?_replicate]
   split<;>rfl
 have hl:(args++List.replicate (fd.ntmps-args.length) undef).length=max fd.ntmps args.length:=by
  simp only [List.length_append,List.length_replicate];omega
 obtain⟨e,l',t',ds',m',b,h1,h2,h3,h4,h5⟩:=h (T.ofList args) [] cs hs
 rw [hl] at h5 h4
 have hres:∀ m2,resultsA tb fd t' m2=resL (tb:=tb) fd l' m2:=fun m2=>by
  unfold resL resultsA
  rw [resA_congr fun x=>(h1.ev (.tmp x)).trans ((slots_ofList l').ev (.tmp x)).symm]
 cases e with
 |normal =>
  obtain rfl:=h4
  obtain⟨rfl,hD⟩:=h3
  obtain⟨m2,⟨v,hv,hR⟩,hto⟩:=def_run hD (fn:=f) (t:=t') (nt:=max fd.ntmps args.length) (k:=[]) (kind:=.normal) (ro:=none) cs rfl (fun e=>absurd rfl e)
  exact⟨.ret v,m2,_,hR,(h5.trans (.one rfl)).trans hto,rfl,rfl,rfl,rfl,fd,hf,(hres m2).trans hv⟩
 |jump c =>
  obtain⟨k',rfl,hk,hj⟩:=h4
  cases c<;>first|exact h3.elim|skip
  obtain⟨rfl,hD⟩:=h3
  obtain⟨m2,⟨v,hv,hR⟩,hto⟩:=def_run hD (fn:=f) (t:=t') (nt:=max fd.ntmps args.length) (k:=k') (kind:=.normal) (ro:=none) cs rfl (fun e=>absurd rfl e)
  exact⟨.ret v,m2,_,hR,(h5.trans (.one rfl)).trans hto,rfl,rfl,rfl,rfl,fd,hf,(hres m2).trans hv⟩
 |pan ch =>
  obtain⟨k',rfl,hk⟩:=h4
  obtain⟨rfl,p,rfl,hD⟩:=h3
  obtain⟨m2,⟨v,hv,hR⟩,hto⟩:=def_run hD (fn:=f) (t:=t') (nt:=max fd.ntmps args.length) (k:=k') (kind:=.normal) (ro:=none) cs rfl (fun _=>by
   rcases hk with hk|hk
   ·cases hk
   ·exact hk)
  exact⟨.ret v,m2,_,hR,h5.trans hto,rfl,rfl,rfl,rfl,fd,hf,(hres m2).trans hv⟩
def bodyE (tb:Tabs) (fd:Func) (S:Mem→Prop):PostA
 | .normal,l,ds,m=>ds=[]∧(∃ w,resL (tb:=tb) fd l m=some w)∧S m
 | .jump .ret,l,ds,m=>ds=[]∧(∃ w,resL (tb:=tb) fd l m=some w)∧S m
 |_,_,_,_=>False
def recFr (rec:Option PanicEntry) (c:AFrame):AFrame:=match rec with
 |none=>c
 |some p=>setMode c (.panicking [{ v:=p.v,recovered:=true }])
def recV:Option PanicEntry→Value
 |none=>.nilIface
 |some p=>p.v
theorem recFr_ret {tb:Tabs} {rec:Option PanicEntry} {c:AFrame} {cs:List AFrame} {g:FuncId} {fd:Func} {t:T Value} {m:Mem} {w:Value} (hf:tb.funcs.get g=some fd) (hm:c.mode=recMode rec) (hk:rec≠none→isDr c.todo=false) (hr:resultsA tb fd t m=some w) :
  returnA tb g t .deferred (recFr rec c::cs) m=some ⟨setMode c .returning,cs,m⟩:=by
 obtain⟨fn,t2,nt,todo,ds,mode,kind,ro⟩:=c
 cases rec with
 |none=>simp only [recMode] at hm;subst hm;simp only [returnA,hf,hr,recFr,setMode]
 |some p=>have hk:=hk (by simp);simp only at hk;simp only [returnA,hf,hr,recFr,setMode,hk]
theorem callsD_of {tb:Tabs} {g:FuncId} {fd:Func} {id:Nat} {ops:Array Oper} {rest:Code} {args:List Value} {m:Mem} {S:Mem→Prop} {rec:Option PanicEntry} {o:Oper} {os:List Oper} {a:Array Operand} {ty:Array TypeId}
  (hf:tb.funcs.get g=some fd) (hb:fd.body=some (.seq (.region id ops false) rest)) (ho:ops.toList=o::os) (hop:o.op=.call ⟨.builtin .recover,a,ty⟩) (hg:o.guard=none) (hd:dstB o.dst (args++List.replicate (fd.ntmps-args.length) undef).length=true)
  (hrec:∀ p,rec=some p→p.recovered=false∧p.goexit=false)
  (h:wpOps tb ⟨g,.deferred,none⟩ ops (thenA (fun l ds m=>wpC tb ⟨g,.deferred,none⟩ rest l ds m (bodyE tb fd S)) (bodyE tb fd S)) os (setSl o.dst (recV rec) (args++List.replicate (fd.ntmps-args.length) undef)) [] m):CallsD tb g args rec m S:=by
 refine⟨⟨g,T.ofList args,max fd.ntmps args.length,[.code (.seq (.region id ops false) rest)],[],.run,.deferred,none⟩,by simp only [enterF,hf,hb],fun c cs hm hk=>?_⟩
 have hs:SlotsR (args++List.replicate (fd.ntmps-args.length) undef) (T.ofList args):=fun x=>by
  rw [slots_ofList args x]
  simp only [List.getD_eq_getElem?_getD,List.getElem?_append]
  split
  ·rfl
  ·rename_i hx
   rw [List.getElem?_eq_none (by omega),List.getElem?_replicate]
   split<;>rfl
 have hl:(args++List.replicate (fd.ntmps-args.length) undef).length=max fd.ntmps args.length:=by
  simp only [List.length_append,List.length_replicate];omega
 generalize args++List.replicate (fd.ntmps-args.length) undef=L at hs hl hd h
 generalize T.ofList args=t0 at hs
 rw [← hl]
 have hw:wantedA t0 ops o.guard=true:=by rw [hg];rfl
 have hopA:opA o.op tb t0 m=.c:=by rw [hop];rfl
 obtain⟨t1,hp,ht1⟩:=hs.put (v:=recV rec) (dstB_ok hd)
 have st3:stepA tb ⟨mkF ⟨g,.deferred,none⟩ t0 L.length (.ops ops (o::os)::[.code rest]) [],c::cs,m⟩=some ⟨mkF ⟨g,.deferred,none⟩ t1 L.length (.ops ops os::[.code rest]) [],recFr rec c::cs,m⟩:=by
  have h1:stepA tb ⟨mkF ⟨g,.deferred,none⟩ t0 L.length (.ops ops (o::os)::[.code rest]) [],c::cs,m⟩=doCall tb o (mkF ⟨g,.deferred,none⟩ t0 L.length (.ops ops (o::os)::[.code rest]) []) (c::cs) m:=by
   simp only [stepA,stepFr,mkF,runFrame,itemA,opsItem,opsA,lrec_cons,opsStep,hw,hopA,opsK,frm]
  rw [h1]
  unfold doCall
  rw [hop]
  cases rec with
  |none=>simp only [recMode] at hm;simp only [recoverA,mkF,hm,finishA,recV] at hp ⊢;simp only [hp,am,recFr]
  |some p =>
   obtain⟨r1,r2⟩:=hrec p rfl
   simp only [recMode] at hm;simp only [recoverA,mkF,hm,r1,r2,finishA,recV] at hp ⊢;simp only [hp,am,recFr]
 obtain⟨e,l',t',ds',m',b,q1,q2,q3,q4,q5⟩:=wpOps_ok os _ [] m t1 [.code rest] (recFr rec c::cs) ht1 h
 rw [setSl_length] at q2 q4 q5
 have start:To tb ⟨⟨g,t0,L.length,[.code (.seq (.region id ops false) rest)],[],.run,.deferred,none⟩,c::cs,m⟩ b :=
  .step (b:=⟨mkF ⟨g,.deferred,none⟩ t0 L.length (.code (.region id ops false)::[.code rest]) [],c::cs,m⟩) rfl (.step (b:=⟨mkF ⟨g,.deferred,none⟩ t0 L.length (.ops ops ops.toList::[.code rest]) [],c::cs,m⟩) rfl (by rw [ho];exact .step st3 q5.to))
 have fin:∀ {l2:List Value} {t2:T Value} {m2:Mem} {k2:List AItem},SlotsR l2 t2→(∃ w,resL (tb:=tb) fd l2 m2=some w)→To tb ⟨⟨g,t2,L.length,k2,[],.returning,.deferred,none⟩,recFr rec c::cs,m2⟩ ⟨setMode c .returning,cs,m2⟩:=by
  rintro l2 t2 m2 k2 hs2 ⟨w,hw2⟩
  have hres:resultsA tb fd t2 m2=some w:=by
   rw [← hw2];unfold resL resultsA
   rw [resA_congr fun x=>(hs2.ev (.tmp x)).trans ((slots_ofList l2).ev (.tmp x)).symm]
  exact .one (by simp only [stepA,stepFr,unwindA];exact recFr_ret hf hm hk hres)
 have last:∀ {e2:ExA} {l2:List Value} {t2:T Value} {ds2:List Deferred} {m2:Mem} {k2:List AItem} {b2:AM},SlotsR l2 t2→bodyE tb fd S e2 l2 ds2 m2→k2=[]∨e2≠.normal→Aft ⟨g,.deferred,none⟩ t2 L.length k2 ds2 (recFr rec c::cs) m2 e2 b2→S m2∧To tb b2 ⟨setMode c .returning,cs,m2⟩:=by
  intro e2 l2 t2 ds2 m2 k2 b2 hs2 h3 hk2 h4
  cases e2 with
  |normal =>
   obtain rfl:=h4
   obtain⟨rfl,hr,hS⟩:=h3
   have hk3:k2=[]:=by rcases hk2 with h|h;exact h;exact absurd rfl h
   subst hk3
   exact⟨hS,(To.one rfl).trans (fin hs2 hr)⟩
  |jump c2 =>
   obtain⟨k',rfl,_,_⟩:=h4
   cases c2<;>first|exact h3.elim|skip
   obtain⟨rfl,hr,hS⟩:=h3
   exact⟨hS,(To.one rfl).trans (fin hs2 hr)⟩
  |pan ch=>exact h3.elim
 cases e with
 |normal =>
  obtain rfl:=q4
  obtain⟨e2,l2,t2,ds2,m2,b2,p1,p2,p3,p4,p5⟩:=q3 t' [] (recFr rec c::cs) q1
  rw [q2] at p4 p5
  obtain⟨hS,hto⟩:=last p1 p3 (.inl rfl) p4
  exact⟨m2,hS,start.trans (p5.trans hto)⟩
 |jump c2 =>
  obtain⟨hS,hto⟩:=last q1 q3 (.inr (by simp)) q4
  exact⟨m',hS,start.trans hto⟩
 |pan ch=>exact q3.elim
end
end Go.Ev

namespace Go.Ev
open Go.RowKit
variable {tb:Tabs}
def endD (tb:Tabs) (rs:List ResultVar) (d:Deferred) (R:OutA→Mem→Prop):PostA
 | .normal,l,ds,m=>ds=[d]∧DefA tb d none m (fun m2=>∃ v,resX tb rs l m2=some v∧R (.ret v) m2)
 | .jump .ret,l,ds,m=>ds=[d]∧DefA tb d none m (fun m2=>∃ v,resX tb rs l m2=some v∧R (.ret v) m2)
 | .pan ch,l,ds,m=>ds=[d]∧∃ p,ch=[p]∧DefA tb d (some p) m (fun m2=>∃ v,resX tb rs l m2=some v∧R (.ret v) m2)
 |_,_,_,_=>False
theorem callsXD {f:FuncId} {fd:Func} {c:Code} {s:SCode} {n:Nat} {rs:List ResultVar} {args:List Value} {m:Mem} {d:Deferred} {R:OutA→Mem→Prop} (hf:tb.funcs.get f=some fd) (hb:fd.body=some c) (hs:strip c=s) (hn:fd.ntmps=n) (hr:fd.results.toList=rs)
  (h:wpX tb ⟨f,.normal,none⟩ s (args++List.replicate (n-args.length) undef) [] m (endD tb rs d R)):CallsA tb f args m R:=by
 subst hn;subst hr
 refine callsA_of_wpD (d:=d) hf hb ((h c hs).mono fun e l' ds' m' h=>?_)
 cases e with
 |normal=>exact h
 |jump c=>cases c<;>exact h
 |pan ch=>exact h
def endE (tb:Tabs) (rs:List ResultVar) (S:Mem→Prop):PostA
 | .normal,l,ds,m=>ds=[]∧(∃ w,resX tb rs l m=some w)∧S m
 | .jump .ret,l,ds,m=>ds=[]∧(∃ w,resX tb rs l m=some w)∧S m
 |_,_,_,_=>False
theorem strip_reg {c:Code} {os:List SOp} (hc:strip c=.reg os):∃ id ops,c=.region id ops false∧ops.toList.map (stripOp ops.toList)=os:=by
 unfold strip at hc
 split at hc<;>first|contradiction|skip
 cases hc;exact⟨_,_,rfl,rfl⟩
theorem wpOps_mono {F:FC} {ops:Array Oper} {Q Q':PostA} (hQ:∀ e l ds m,Q e l ds m→Q' e l ds m):∀ (os:List Oper) (l:List Value) (ds:List Deferred) (m:Mem),wpOps tb F ops Q os l ds m→wpOps tb F ops Q' os l ds m
 | [],l,ds,m,h=>hQ _ _ _ _ h
 |o::os,l,ds,m,h=>by
  obtain⟨hd,h⟩:=h
  refine⟨hd,?_⟩
  revert h
  split
  ·exact fun h=>wpOps_mono hQ os _ _ _ h
  ·split
   ·exact fun h=>wpOps_mono hQ os _ _ _ h
   ·exact fun h=>wpOps_mono hQ os _ _ _ h
   ·exact fun h=>wpOps_mono hQ os _ _ _ h
   ·exact fun h=>wpCallOp_mono h (fun v ds m h=>wpOps_mono hQ os _ _ _ h) fun ch m h=>hQ _ _ _ _ h
   ·exact fun h=>h
theorem callsDX {g:FuncId} {fd:Func} {c:Code} {rest:SCode} {n:Nat} {rs:List ResultVar} {args:List Value} {m:Mem} {S:Mem→Prop} {rec:Option PanicEntry} {d:Option Tmp} {ty:TypeId} {a:Array Operand} {tys:Array TypeId} {os:List SOp}
  (hf:tb.funcs.get g=some fd) (hb:fd.body=some c) (hs:strip c=.seq (.reg (⟨d,.call ⟨.builtin .recover,a,tys⟩,ty,.no⟩::os)) rest) (hn:fd.ntmps=n) (hr:fd.results.toList=rs)
  (hd:dstB d (args++List.replicate (n-args.length) undef).length=true) (hrec:∀ p,rec=some p→p.recovered=false∧p.goexit=false)
  (h:wpR tb ⟨g,.deferred,none⟩ (thenA (fun l ds m=>wpX tb ⟨g,.deferred,none⟩ rest l ds m (endE tb rs S)) (endE tb rs S)) os (setSl d (recV rec) (args++List.replicate (n-args.length) undef)) [] m):CallsD tb g args rec m S:=by
 subst hn;subst hr
 obtain⟨a',b',rfl,ha,hb'⟩:=strip_seq hs
 obtain⟨id,ops,rfl,hops⟩:=strip_reg ha
 cases hl:ops.toList with
 |nil=>rw [hl] at hops;cases hops
 |cons o os' =>
  have hops2:=hops
  rw [hl,List.map_cons] at hops2
  simp only [List.cons.injEq] at hops2
  obtain⟨h1,h2⟩:=hops2
  simp only [stripOp,SOp.mk.injEq] at h1
  obtain⟨k1,k2,k3,k4⟩:=h1
  have hg:o.guard=none:=by
   cases hgd:o.guard with
   |none=>rfl
   |some q =>
    obtain⟨j,w⟩:=q
    rw [hgd] at k4
    unfold stripG at k4
    simp only at k4
    split at k4
    ·split at k4<;>cases k4
    ·cases k4
  have hE:∀ e l' ds' m',endE tb fd.results.toList S e l' ds' m'→bodyE tb fd S e l' ds' m':=fun e l' ds' m' h=>by
   cases e with
   |normal=>exact h
   |jump c=>cases c<;>exact h
   |pan ch=>exact h
  refine callsD_of (rest:=b') hf hb hl k2 hg (by rw [k1];exact hd) hrec ?_
  have h3:=wpR_ok (ops:=ops) os' _ _ _ (by rw [← hl] at h2;rw [h2];exact h)
  refine wpOps_mono (fun e l2 ds2 m2 hq=>?_) os' _ _ _ (by rw [k1];exact h3)
  cases e with
  |normal=>exact (hq b' hb').mono hE
  |jump c=>exact hE (.jump c) l2 ds2 m2 hq
  |pan ch=>exact hE (.pan ch) l2 ds2 m2 hq
end Go.Ev

namespace Go.Ev
open Go.RowKit
structure Lp where
 fn:FuncId
 t:T Value
 n:Nat
 ps:List Tmp
 a:Code
 b:Code
 d:Nat
def Lp.ob (L:Lp) (st:LoopState) (pe:Option Code):AObj:=.loop st pe L.fn L.t L.n L.ps L.a L.b L.d
def coll (b:Nat):Deferred := { target:=.collected b,args := #[] }
section
variable {tb:Tabs}
def endR (lp:Nat) (L:Lp) (R:OutA→Mem→Prop):PostA
 | .normal,l,ds,m=>ds=[]∧(∃ st pe,m.objs.get lp=some (L.ob st pe))∧R (.ret (.bool true)) (putObj m lp (L.ob .ready none))
 | .jump .ret,l,ds,m=>ds=[]∧(∃ st pe,m.objs.get lp=some (L.ob st pe))∧R (.ret (.bool false)) (putObj m lp (L.ob .done (some .ret)))
 |_,_,_,_=>False
theorem roundsA_of {lp:Nat} {L:Lp} {m:Mem} {v:Value} {p:Nat} {l:List Value} {R:OutA→Mem→Prop} {pe:Option Code} {sa sb:SCode} (hl:m.objs.get lp=some (L.ob .ready pe)) (hok:(codeOk tb.g L.a&&codeOk tb.g L.b&&(tb.funcs.get L.fn).isSome)=true) (hp:L.ps=[p]) (hpl:p<l.length) (hs:SlotsR l L.t) (hn:L.n=l.length)
  (ha:strip L.a=sa) (hb:strip L.b=sb)
  (h:wpX tb ⟨L.fn,.normal,some lp⟩ sa (l.set p v) [] m (fun e l2 ds2 m2=>e=.normal∧ds2=[]∧(∃ pe2,m2.objs.get lp=some (L.ob .ready pe2)∧wpX tb ⟨L.fn,.normal,some lp⟩ sb l2 [] (putObj m2 lp (L.ob .busy pe2)) (endR lp L R)))):RoundsA tb lp [v] m R:=by
 obtain⟨t1,ht1,hs1⟩:=hs.put (d:=some p) (v:=v) (fun x e=>by cases e;exact hpl)
 have hf:foldPut L.n L.ps [v] L.t=some t1:=by
  rw [hp,hn];simp only [foldPut,ht1,oB]
 refine⟨⟨L.fn,t1,L.n,[.code L.a,.beginRound,.code L.b],[],.run,.normal,some lp⟩,?_,fun c cs=>?_⟩
 ·unfold roundFr
  rw [hl]
  simp only [Lp.ob,hok,hf]
 obtain⟨e,l2,t2,ds2,m2,b2,h1,h2,h3,h4,h5⟩:=h L.a ha t1 [.beginRound,.code L.b] (c::cs) hs1
 obtain⟨rfl,rfl,pe2,h6,h7⟩:=h3
 obtain rfl:=h4
 have hn2:(l.set p v).length=L.n:=by rw [List.length_set,hn]
 rw [hn2] at h5 h2
 have st1:stepA tb ⟨mkF ⟨L.fn,.normal,some lp⟩ t2 L.n [.beginRound,.code L.b] [],c::cs,m2⟩=some ⟨mkF ⟨L.fn,.normal,some lp⟩ t2 L.n [.code L.b] [],c::cs,putObj m2 lp (L.ob .busy pe2)⟩:=by
  simp only [stepA,stepFr,mkF,runFrame,itemA,beginA,h6,Lp.ob,mkA]
 obtain⟨e,l3,t3,ds3,m3,b3,g1,g2,g3,g4,g5⟩:=h7 L.b hb t2 [] (c::cs) h1
 rw [h2] at g4 g5
 have start:=h5.trans (.step st1 g5)
 cases e with
 |normal =>
  obtain rfl:=g4
  obtain⟨rfl,⟨st,pe,h8⟩,hR⟩:=g3
  refine⟨.ret (.bool true),_,hR,fun c1 hc=>start.trans (.one ?_)⟩
  simp only [Lp.ob] at h8 hc ⊢
  simp only [stepA,stepFr,mkF,runFrame,leaveA,frm,h8,hc,am]
 |jump c2 =>
  obtain⟨k',rfl,_,_⟩:=g4
  cases c2<;>first|exact g3.elim|skip
  obtain⟨rfl,⟨st,pe,h8⟩,hR⟩:=g3
  refine⟨.ret (.bool false),_,hR,fun c1 hc=>start.trans (.one ?_)⟩
  simp only [Lp.ob] at h8 hc ⊢
  simp only [stepA,stepFr,mkF,runFrame,itemA,codeA,leaveA,frm,h8,hc,am]
 |pan ch=>exact g3.elim
def aftL (lp:Nat) (L:Lp) (Q:PostA) (l:List Value) (ds:List Deferred) (m:Mem):Prop :=
 (∃ st,st≠.busy∧m.objs.get lp=some (L.ob st none)∧Q .normal l ds (putObj m lp (L.ob .exhausted none))) ∨
 (∃ st,st≠.busy∧m.objs.get lp=some (L.ob st (some .ret))∧Q (.jump .ret) l ds (putObj m lp (L.ob .exhausted (some .ret))))
theorem wp_rng {F:FC} {f:Operand} {ps:Array Tmp} {a b:Code} {l:List Value} {ds:List Deferred} {m:Mem} {Q:PostA} (hro:F.ro=none)
  (h:∀ t,SlotsR l t→∀ L,L=Lp.mk F.fn t l.length ps.toList a b m.next→wpNext tb (callValue tb (evL l f) [.func (.yield (m.next+1)) #[] #[]] (newObjA (newObjA m (.dfr (some []))) (L.ob .ready none))) (coll m.next::ds) (newObjA (newObjA m (.dfr (some []))) (L.ob .ready none))
   (fun _ ds' m'=>aftL (m.next+1) L Q l ds' m') (fun ch m'=>Q (.pan ch) l (coll m.next::ds) m')):wpC tb F (.rangeFunc f ps a b) l ds m Q:=fun t k cs ht=>by
 have h:=h t ht _ rfl
 generalize hL:Lp.mk F.fn t l.length ps.toList a b m.next=L at h
 have key:GoesOn tb F Q l.length k cs ⟨mkF F t l.length (.code (.rangeFunc f ps a b)::k) ds,cs,m⟩:=by
  refine next_ok (kk:=.inRangeFunc (m.next+1)::k) rfl ht (fun ch m' h=>⟨.inr rfl,h⟩) h (fun v m' hk=>?_) fun b2 hb=>?_
  ·refine⟨⟨F.fn,t,l.length,.endRangeFunc (m.next+1)::k,coll m.next::ds,.run,F.kind,F.ro⟩,rfl,?_⟩
   rcases hk with ⟨st,hst,hg,hq⟩|⟨st,hst,hg,hq⟩
   ·refine⟨.normal,l,t,_,_,_,ht,rfl,hq,rfl,.step ?_ (.refl _)⟩
    simp only [Lp.ob] at hg ⊢
    cases st<;>first|exact absurd rfl hst|simp only [stepA,stepFr,runFrame,itemA,endA,hg,mkA,mkF]
   ·refine⟨.jump .ret,l,t,_,_,_,ht,rfl,hq,⟨k,rfl,rfl,rfl⟩,.step ?_ (.refl _)⟩
    simp only [Lp.ob] at hg ⊢
    cases st<;>first|exact absurd rfl hst|simp only [stepA,stepFr,runFrame,itemA,endA,hg,mkA,mkF,codeOk]
  ·subst hL
   rw [← ht.ev f] at hb
   simp only [stepA,stepFr,mkF,runFrame,itemA,codeA,rangeFuncA,hro,frm,coll,Lp.ob] at hb ⊢
   exact hb
 obtain⟨e,l',t',ds',m',b',h1,h2,h3,h4,h5⟩:=key
 exact⟨e,l',t',ds',m',b',h1,h2,h3,h4,h5.to⟩
theorem xrng {F:FC} {f:Operand} {ps:List Tmp} {a b:SCode} {l:List Value} {ds:List Deferred} {m:Mem} {Q:PostA} (hro:F.ro=none) (hg:tb.g=8) (hfn:(tb.funcs.get F.fn).isSome=true)
  (h:∀ L:Lp,L.fn=F.fn→SlotsR l L.t→L.n=l.length→L.ps=ps→strip L.a=a→strip L.b=b→L.d=m.next→(codeOk tb.g L.a&&codeOk tb.g L.b&&(tb.funcs.get L.fn).isSome)=true →
   wpNext tb (callValue tb (evL l f) [.func (.yield (m.next+1)) #[] #[]] (newObjA (newObjA m (.dfr (some []))) (L.ob .ready none))) (coll m.next::ds) (newObjA (newObjA m (.dfr (some []))) (L.ob .ready none))
   (fun _ ds' m'=>aftL (m.next+1) L Q l ds' m') (fun ch m'=>Q (.pan ch) l (coll m.next::ds) m')):wpX tb F (.rng f ps a b true) l ds m Q:=fun c' hs=>by
 unfold strip at hs
 split at hs<;>first|contradiction|skip
 rename_i f' ps' a' b'
 simp only [SCode.rng.injEq] at hs
 obtain⟨rfl,rfl,rfl,rfl,hok⟩:=hs
 refine wp_rng hro fun t ht L hL=>?_
 subst hL
 exact h _ rfl ht rfl rfl rfl rfl rfl (by rw [hg,hfn,Bool.and_true];exact hok)
def endC (tb:Tabs) (rs:List ResultVar) (R:OutA→Mem→Prop):PostA
 | .normal,l,ds,m=>(ds=[]∧∃ v,resX tb rs l m=some v∧R (.ret v) m)∨∃ b,ds=[coll b]∧m.objs.get b=some (.dfr (some []))∧∃ v,resX tb rs l (putObj m b (.dfr none))=some v∧R (.ret v) (putObj m b (.dfr none))
 | .jump .ret,l,ds,m=>(ds=[]∧∃ v,resX tb rs l m=some v∧R (.ret v) m)∨∃ b,ds=[coll b]∧m.objs.get b=some (.dfr (some []))∧∃ v,resX tb rs l (putObj m b (.dfr none))=some v∧R (.ret v) (putObj m b (.dfr none))
 |_,_,_,_=>False
theorem callsXC {f:FuncId} {fd:Func} {c:Code} {s:SCode} {n:Nat} {rs:List ResultVar} {args:List Value} {m:Mem} {R:OutA→Mem→Prop} (hf:tb.funcs.get f=some fd) (hb:fd.body=some c) (hs:strip c=s) (hn:fd.ntmps=n) (hr:fd.results.toList=rs)
  (h:wpX tb ⟨f,.normal,none⟩ s (args++List.replicate (n-args.length) undef) [] m (endC tb rs R)):CallsA tb f args m R:=by
 subst hn;subst hr
 refine⟨⟨f,T.ofList args,max fd.ntmps args.length,[.code c],[],.run,.normal,none⟩,by simp only [enterF,hf,hb],fun cs=>?_⟩
 have hs2:SlotsR (args++List.replicate (fd.ntmps-args.length) undef) (T.ofList args):=fun x=>by
  rw [slots_ofList args x]
  simp only [List.getD_eq_getElem?_getD,List.getElem?_append]
  split
  ·rfl
  ·rename_i hx
   rw [List.getElem?_eq_none (by omega),List.getElem?_replicate]
   split<;>rfl
 have hl:(args++List.replicate (fd.ntmps-args.length) undef).length=max fd.ntmps args.length:=by
  simp only [List.length_append,List.length_replicate];omega
 obtain⟨e,l',t',ds',m',b,h1,h2,h3,h4,h5⟩:=h c hs (T.ofList args) [] cs hs2
 rw [hl] at h5 h4
 have hres:∀ m2,resultsA tb fd t' m2=resX tb fd.results.toList l' m2:=fun m2=>by
  show resultsA tb fd t' m2=resultsA tb fd (T.ofList l') m2
  unfold resultsA
  rw [resA_congr fun x=>(h1.ev (.tmp x)).trans ((slots_ofList l').ev (.tmp x)).symm]
 have fin:∀ {k':List AItem},((ds'=[]∧∃ v,resX tb fd.results.toList l' m'=some v∧R (.ret v) m')∨∃ b,ds'=[coll b]∧m'.objs.get b=some (.dfr (some []))∧∃ v,resX tb fd.results.toList l' (putObj m' b (.dfr none))=some v∧R (.ret v) (putObj m' b (.dfr none))) →
   To tb ⟨⟨f,T.ofList args,max fd.ntmps args.length,[.code c],[],.run,.normal,none⟩,cs,m⟩ ⟨⟨f,t',max fd.ntmps args.length,k',ds',.returning,.normal,none⟩,cs,m'⟩ →
   ∃ out m2 fr,R out m2∧To tb ⟨⟨f,T.ofList args,max fd.ntmps args.length,[.code c],[],.run,.normal,none⟩,cs,m⟩ ⟨fr,cs,m2⟩∧Leav tb f fr m2 out:=by
  intro k' hx hto
  rcases hx with ⟨rfl,v,hv,hR⟩|⟨b,rfl,hg,v,hv,hR⟩
  ·exact⟨.ret v,m',_,hR,hto,rfl,rfl,rfl,rfl,fd,hf,(hres _).trans hv⟩
  ·refine⟨.ret v,_,⟨f,t',max fd.ntmps args.length,k',[],.returning,.normal,none⟩,hR,hto.trans (.one ?_),rfl,rfl,rfl,rfl,fd,hf,(hres _).trans hv⟩
   simp only [stepA,stepFr,unwindA,coll,hg,List.nil_append]
 cases e with
 |normal =>
  obtain rfl:=h4
  exact fin h3 (h5.trans (.one rfl))
 |jump c2 =>
  obtain⟨k',rfl,hk,hj⟩:=h4
  cases c2<;>first|exact h3.elim|skip
  exact fin h3 (h5.trans (.one rfl))
 |pan ch=>exact h3.elim
end
end Go.Ev

namespace Go.Ev
open Go.RowKit
def Pr (m:Mem) (q N:Nat) (e:TypeId) (kn:Nat→Option Value):Prop:=∃ r,rowW m q=some r∧r.n=N∧r.elem=e∧r.ext=false∧r.fz=.none∧∀ j v,kn j=some v→cellAt r j=some v
theorem Pr.bare {m:Mem} {q N:Nat} {e:TypeId} (h:m.objs.get q=some (bareRow N e)):Pr m q N e (fun _=>none) :=
 ⟨_,by unfold rowW;rw [h];rfl,rfl,rfl,rfl,rfl,fun j v hj=>by cases hj⟩
theorem Pr.ex {m m':Mem} {q N:Nat} {e:TypeId} {kn:Nat→Option Value} (h:Pr m q N e kn) (hg:m'.objs.get q=m.objs.get q):Pr m' q N e kn:=by
 obtain⟨r,h1,h2⟩:=h
 exact⟨r,by unfold rowW at h1 ⊢;rw [hg];exact h1,h2⟩
theorem Pr.less {m:Mem} {q N:Nat} {e:TypeId} {kn kn':Nat→Option Value} (h:Pr m q N e kn) (k:∀ j v,kn' j=some v→kn j=some v):Pr m q N e kn':=by
 obtain⟨r,h1,h2,h3,h4,h5,h6⟩:=h
 exact⟨r,h1,h2,h3,h4,h5,fun j v hj=>h6 j v (k j v hj)⟩
section
variable {tb:Tabs} {m:Mem} {q N:Nat} {e:TypeId} {kn:Nat→Option Value}
theorem Pr.load (h:Pr m q N e kn) {j:Nat} {v:Value} (hj:kn j=some v) {t:TypeId} {i:TI} {s:Option Nat} (hi:ti tb t=some i) (ha:i.agg=false):opLoad tb t m (.pointer (some ⟨q,j,s⟩))=.r v:=by
 obtain⟨r,h1,h2,h3,h4,h5,h6⟩:=h
 simp only [opLoad,loadA,hi,oB,rowOf_of_rowW h1,ha,h6 j v hj,oR]
theorem Pr.store (h:Pr m q N e kn) {j:Nat} {l:List Value} (hl:j+l.length≤N) (ho:l.all oneC=true) :
  ∃ m',storeCellsA m q j l=some m'∧m'.next=m.next∧(∀ x,x≠q→m'.objs.get x=m.objs.get x)∧Pr m' q N e (fun i=>if j≤i∧i<j+l.length then l[i-j]? else kn i):=by
 obtain⟨⟨ov,n,z,el,fz,ext⟩,h1,h2,h3,h4,h5,h6⟩:=h
 simp only at h2 h3 h4 h5
 subst h2;subst h3;subst h4;subst h5
 refine⟨putObj m q (.row ⟨T.setL l j ov,n,z,el,.none,false⟩),?_,rfl,fun x hx=>by rw [get_putObj,if_neg hx],⟨T.setL l j ov,n,z,el,.none,false⟩,?_,rfl,rfl,rfl,rfl,fun i v hi=>?_⟩
 ·have hb:Nat.ble (j+l.length) n=true:=by rw [Nat.ble_eq];exact hl
  simp only [storeCellsA,h1,oB,setCells,hb,ho,Bool.and_self,fzOk]
 ·unfold rowW;rw [get_putObj,if_pos rfl]
 ·simp only at hi
  unfold cellAt
  simp only
  by_cases hc:j≤i∧i<j+l.length
  ·rw [if_pos hc] at hi
   have hb:Nat.blt i n=true:=by rw [Nat.blt_eq];omega
   simp only [hb,T.get_setL]
   rw [if_neg (by omega),if_pos hc.2,hi]
  ·rw [if_neg hc] at hi
   have h7:=h6 i v hi
   unfold cellAt at h7
   simp only at h7
   have hg:(T.setL l j ov).get i=ov.get i:=by
    rw [T.get_setL]
    by_cases h8:i<j
    ·rw [if_pos h8]
    ·rw [if_neg h8,if_neg (by omega)]
   rw [hg];exact h7
theorem Pr.append (h:Pr m q N e kn) {o n c sz k:Nat} {new:List Value} (hf:n+(k+1)≤c) (hN:o+c*sz≤N) (hn:new.length=(k+1)*sz) (hsz:0<sz) (ho:new.all oneC=true) :
  ∃ m',appendTo m e sz (.slice (some ⟨q,o,none⟩) n c) (k+1) new=some (.slice (some ⟨q,o,none⟩) (n+(k+1)) c,m')∧m'.next=m.next∧(∀ x,x≠q→m'.objs.get x=m.objs.get x) ∧
    Pr m' q N e (fun i=>if o+n*sz≤i∧i<o+n*sz+new.length then new[i-(o+n*sz)]? else kn i):=by
 have h1:(n+(k+1))*sz≤c*sz:=Nat.mul_le_mul_right sz hf
 rw [Nat.add_mul] at h1
 obtain⟨m',h2,h3,h4,h5⟩:=h.store (j:=o+n*sz) (l:=new) (by omega) ho
 refine⟨m',?_,h3,h4,h5⟩
 have hb:Nat.ble (n+(k+1)) c=true:=by rw [Nat.ble_eq];exact hf
 cases new with
 |nil =>
  have:0<(k+1)*sz:=Nat.mul_pos (by omega) hsz
  simp at hn;omega
 |cons v l=>simp only [appendTo,hb,h2,oB]
theorem Pr.grow (h:Pr m q N e kn) {o n c sz k:Nat} {old new:List Value} (hf:¬ n+k≤c) (hold:old.length=n*sz) (hkn:∀ j,j<old.length→kn (o+j)=old[j]?) :
  appendTo m e sz (.slice (some ⟨q,o,none⟩) n c) k new=some (.slice (some ⟨m.next,0,none⟩) (n+k) (n+k),newObjA m (rowObj e (old++new) .none true)):=by
 obtain⟨r,h1,h2,h3,h4,h5,h6⟩:=h
 have hb:Nat.ble (n+k) c=false:=by
  cases hx:Nat.ble (n+k) c with
  |false=>rfl
  |true=>rw [Nat.ble_eq] at hx;exact absurd hx hf
 have hcf:cellsFrom r (n*sz) o=some old:=by
  rw [← hold]
  refine cellsFrom_of rfl fun j v hj=>h6 _ _ ?_
  rw [hkn j (List.getElem?_eq_some_iff.1 hj).1];exact hj
 simp only [appendTo,hb,growA,rowOf_of_rowW h1,oB,h4,hcf,newRowV]
end
end Go.Ev

