/- 'halyardlaw21.ScriptBlanks' returns true, and its arguments read as they did: of every text and numbers that are together of bulk at most 1048576 (the second form), in every world that holds the listed variables of Go's library. The card. -/
import Derived.ChangeMaps5
import Derived.Deep.DeepHandedRow
import Derived.LaidMore
import Derived.Lay
import Derived.Lib.LaidTab
import Derived.ReadAgain
import Derived.SevenTiedAt
import Derived.Stop.Joined
import Derived.Test.YtgmkbdmgifdfeaaGreatDoorCards
import Derived.Test.YtgmkbdmgifdfeaaGreatDoorTie
import Derived.Test.YtgmkbdmgifdfeaaGreatDoorC26
set_option linter.unusedVariables false
set_option linter.unusedSimpArgs false
namespace Go.Proofs.YtgmkbdmgifdfeaaGreatDoor
open Go
theorem headOf_R {ws:List (List UInt8)} {x:Stu} (h:Qda ws=some x):x.R:=by
 unfold Qda at h
 split at h
 ·split at h
  ·cases h
   rename_i h1 h2 h3 h4 h5 h6 h7 h8 h9
   exact⟨Qeu h4,Qgk h5,Qgk h6,Qeu h7,Qeu h8,Qeu h9,Qeu h1,Qeu h2,Qgk h3⟩
  ·cases h
 ·cases h
theorem Qvd:stu0.R:=by constructor<;>(constructor<;>decide)
theorem Qr6 {o:Option (List UInt8)} {f:List UInt8→List UInt8} {v:List UInt8} {a b:Nat} (h:o.map f=some v) (ho:∀ u,o=some u→u.length≤a) (hf:∀ u,(f u).length≤u.length+b):v.length≤a+b:=by
 obtain⟨u,h1,rfl⟩:=Qe9 h
 have:=ho u h1
 have:=hf u
 omega
theorem Qva:∀ (n:Nat) (l v:List UInt8),l.length≤n→Qcs l=some v→v.length≤l.length
 |_,[],v,_,h=>by cases h;simp
 |0,c::r,v,hn,h=>by simp at hn
 |n+1,c::r,v,hn,h=>by
  simp only [Klc] at hn ⊢
  by_cases h1:32≤c.toNat∧c.toNat≤126∧c≠34
  ·by_cases h2:c=92
   ·subst h2
    cases r with
    |nil=>rw [Qp2] at h;cases h
    |cons d r2 =>
     simp only [Klc] at hn ⊢
     rw [Qti] at h
     have hr:=fun u (hu:Qcs r2=some u)=>Qva n r2 u (by omega) hu
     split at h
     ·have:=Qr6 (b:=1) h hr (by simp);omega
     split at h
     ·have:=Qr6 (b:=1) h hr (by simp);omega
     split at h
     ·have:=Qr6 (b:=1) h hr (by simp);omega
     split at h
     ·split at h
      ·rename_i a b r3
       simp only [Klc] at hn ⊢
       split at h
       ·have:=Qr6 (b:=1) h (fun u hu=>Qva n r3 u (by omega) hu) (by simp);omega
       ·cases h
      ·cases h
     ·cases h
   ·rw [Qmm r h1 h2] at h
    have:=Qr6 (b:=1) h (fun u hu=>Qva n r u (by omega) hu) (by simp);omega
  ·rw [Qtj r h1] at h;cases h
theorem text_le {w v:List UInt8} (h:Qb8 w=some v):v.length≤w.length:=by
 unfold Qb8 at h
 split at h
 ·have:=Qva _ _ _ (Knr _) h
  simp at this;omega
 ·cases h
theorem read_D {B:Nat} {f:Fd} {a b:Stp} {ws ws':List (List UInt8)} (h:f.read a ws=some (b,ws')) (ha:a.data.length≤B) (hw:∀ w∈ws,w.length≤B):b.data.length≤B∧∀ w∈ws',w.length≤B:=by
 cases f
 case choices =>
  obtain⟨l,h1,h2⟩:=Qe9 h
  cases h2
  exact⟨ha,by simp⟩
 case data =>
  cases ws with
  |nil=>cases h
  |cons w ws =>
   obtain⟨v,h1,h2⟩:=Qe9 h
   cases h2
   exact⟨Knt (text_le h1) (hw w (.head _)),fun x hx=>hw x (.tail _ hx)⟩
 all_goals
  cases ws with
  |nil=>cases h
  |cons w ws =>
   obtain⟨v,h1,h2⟩:=Qe9 h
   cases h2
   exact⟨ha,fun x hx=>hw x (.tail _ hx)⟩
theorem Qz1 {B:Nat}:∀ {fs:List Fd} {a b:Stp} {ws ws':List (List UInt8)},Qal fs a ws=some (b,ws')→a.data.length≤B→(∀ w∈ws,w.length≤B)→b.data.length≤B
 | [],a,b,ws,ws',h,ha,_=>by cases h;exact ha
 |f::fs,a,b,ws,ws',h,ha,hw=>by
  rw [Qal] at h
  cases hr:f.read a ws with
  |none=>rw [hr] at h;cases h
  |some y =>
   rw [hr] at h
   obtain⟨h1,h2⟩:=read_D hr ha hw
   exact Qz1 h h1 h2
theorem stepOf_D {B:Nat} {ws:List (List UInt8)} {s:Stp} (h:Qc3 ws=some s) (hw:∀ w∈ws,w.length≤B):s.data.length≤B:=by
 unfold Qc3 at h
 cases hn:Qed ws with
 |none=>rw [hn] at h;cases h
 |some y =>
  obtain⟨n,w,vs⟩:=y
  rw [hn] at h
  simp only at h
  have hv:∀ v∈vs,v∈ws:=by
   unfold Qed at hn
   split at hn
   ·cases hn
   ·split at hn
    ·split at hn
     ·cases hn
     ·cases hn;exact fun v hv=>.tail _ (.tail _ hv)
    ·cases hn;exact fun v hv=>.tail _ hv
  split at h
  ·cases h
  ·split at h
   ·split at h
    ·rename_i hr
     cases h
     exact Qz1 hr (Nat.zero_le _) fun v h=>hw v (hv v h)
    ·cases h
   ·cases h
theorem line_W {l:List UInt8}:(∀ s,Qbz l=some (.step s)→Qi3 s≤310*(l.length+1))∧∀ x,Qbz l=some (.head x)→x.R:=by
 constructor
 ·intro s h
  obtain⟨h1,h2⟩:=line_R h
  have hne:l≠[]:=by rintro rfl;cases h
  have hd:s.data.length≤l.length:=by
   unfold Qbz at h
   cases hs:Qcz l with
   |none=>rw [hs] at h;cases h
   |some ws =>
    have hl:=(Qjv l [] none false false ws l.length hs (by simp) (by simp) (Knr _)).2
    rw [hs] at h
    cases ws with
    |nil=>cases h
    |cons w ws =>
     simp only at h
     split at h
     ·obtain⟨y,k1,k2⟩:=Qe9 h;cases k2
     ·obtain⟨y,k1,k2⟩:=Qe9 h
      cases k2
      exact stepOf_D k1 hl
  have:0<l.length:=by cases l<;>simp at hne ⊢
  unfold Qi3
  omega
 ·intro x h
  unfold Qbz at h
  split at h
  ·cases h
  ·cases h
  ·split at h
   ·obtain⟨y,k1,k2⟩:=Qe9 h
    cases k2
    exact headOf_R k1
   ·obtain⟨y,k1,k2⟩:=Qe9 h;cases k2
def lens (ls:List (List UInt8)):Nat:=(ls.map fun l=>l.length+1).sum
theorem Qwa:∀ t:List UInt8,lens (Qak t)=t.length+1
 | []=>rfl
 |c::t=>by
  have ih:=Qwa t
  unfold Qak
  split
  ·simp only [lens,List.map_cons,List.sum_cons,Kln,Klc] at ih ⊢;omega
  ·split
   ·rename_i x r hc
    rw [hc] at ih
    simp only [lens,List.map_cons,List.sum_cons,Klc] at ih ⊢;omega
   ·rename_i hc;exact absurd hc (Qhq t)
theorem Qrg (l:List Stp) (s:Stp):Qco (l++[s])=Qco l+Qi3 s:=by simp [Qco]
theorem go_W:∀ (ls:List (List UInt8)) (s:Scr) (n:Int) (c:Nat),s.setup.R→Qco s.steps≤310*c→(Qbf s n ls).1.R∧Qco (Qbf s n ls).2.1≤310*(c+lens ls)
 | [],s,n,c,h1,h2=>by
   unfold Qbf
   split
   ·exact⟨h1,by simp only [lens,List.map_nil,List.sum_nil];omega⟩
   ·exact⟨Qvd,by simp [Qco]⟩
 |l::ls,s,n,c,h1,h2=>by
  rw [Qbf]
  obtain⟨w1,w2⟩:=line_W (l:=l)
  cases ht:Qca s l with
  |none=>exact⟨Qvd,by simp [Qco]⟩
  |some s' =>
   simp only
   have h':s'.setup.R∧Qco s'.steps≤310*(c+(l.length+1)):=by
    unfold Qca at ht
    cases hl:Qbz l with
    |none=>rw [hl] at ht;cases ht
    |some y =>
     rw [hl] at ht
     cases y with
     |nothing=>cases ht;exact⟨h1,by omega⟩
     |head x =>
      simp only at ht
      split at ht
      ·cases ht
      ·cases ht;exact⟨w2 x hl,by show Qco s.steps≤_;omega⟩
     |step t =>
      simp only at ht
      split at ht
      ·cases ht
       have:=w1 t hl
       exact⟨h1,by show Qco (s.steps++[t])≤_;rw [Qrg];omega⟩
      ·cases ht
   obtain⟨g1,g2⟩:=go_W ls s' (n+1) _ h'.1 h'.2
   refine⟨g1,Knt g2 ?_⟩
   simp only [lens,List.map_cons,List.sum_cons];omega
theorem parse_W (t:List UInt8):(Qa4 t).1.R∧Qco (Qa4 t).2.1≤330000000:=by
 unfold Qa4
 split
 ·exact⟨Qvd,by simp [Qco]⟩
 ·obtain⟨h1,h2⟩:=go_W (Qak t) ⟨stu0,[],false⟩ 0 0 Qvd (by simp [Qco])
  rw [Qwa] at h2
  exact⟨h1,by omega⟩
end Go.Proofs.YtgmkbdmgifdfeaaGreatDoor

set_option maxRecDepth 8000
namespace Go.Proofs.YtgmkbdmgifdfeaaGreatDoor
open Go Go.Ev
theorem Jb4 (m1:Mem) (x:Stu):∃ m2,m2=stM (Qah m1 (Qbw 26 9 [.int .i64 0,.int .u64 0,.int .u64 0,.int .i64 0,.int .i64 0,.int .i64 0,.int .i64 0,.int .i64 0,.int .u64 0])) m1.next 0 [.int .i64 x.mtu,.int .u64 x.ack,.int .u64 x.retry,.int .i64 x.retries,.int .i64 x.window,.int .i64 x.inbox,.int .i64 x.sectors,.int .i64 x.room,.int .u64 x.start] ∧
  m2.next=m1.next+1∧vw m2 m1.next=some ⟨true,26,false,[.int .i64 x.mtu,.int .u64 x.ack,.int .u64 x.retry,.int .i64 x.retries,.int .i64 x.window,.int .i64 x.inbox,.int .i64 x.sectors,.int .i64 x.room,.int .u64 x.start]⟩∧(∀ y,y<m1.next→m2.objs.get y=m1.objs.get y)∧Old m1.next m1 m2:=by
 obtain⟨m2,h1,h2,h3,h4⟩:=Qel m1 26 9 [.int .i64 0,.int .u64 0,.int .u64 0,.int .i64 0,.int .i64 0,.int .i64 0,.int .i64 0,.int .i64 0,.int .u64 0] [.int .i64 x.mtu,.int .u64 x.ack,.int .u64 x.retry,.int .i64 x.retries,.int .i64 x.window,.int .i64 x.inbox,.int .i64 x.sectors,.int .i64 x.room,.int .u64 x.start] rfl rfl rfl
 exact⟨m2,h1,h2,h3,h4,by omega,h4⟩
def Qsa:List UInt8:=[119,111,114,108,100,32,50,53,54,32,49,54,32,49,48,48,32,54,52,32,49,48,32,50,48,32,50,32,50,32,52,10,10,49,32,99,114,97,115,104,32,49,32,45,50,10,35,32,101,110,100]
def Jaw:List UInt8:=[119,111,114,108,100,32,50,53,54,32,49,54,32,49,48,48,32,54,52,32,49,48,32,50,48,32,50,32,50,32,52,10,49,32,99,114,97,115,104,32,49,32,45,50,10]
def Qnk:Stu:=⟨64,10,20,2,2,4,256,16,100⟩
def Qpd:Stp := { stp0 with kind:=14,node:=1,choices:=[1,-2] }
theorem Qjh:Qa4 Qsa=(Qnk,[Qpd],0,0):=by kernel_rfl
theorem Qui:Qd5 Qnk [Qpd]=(Jaw,0):=by
 have h:Qdr Qnk [Qpd]=Jaw:=by decide +kernel
 unfold Qd5
 rw [if_pos (by decide +kernel),if_neg (by decide +kernel),h,if_neg (by decide)]
end Go.Proofs.YtgmkbdmgifdfeaaGreatDoor

set_option maxRecDepth 8000
namespace Go.Proofs.YtgmkbdmgifdfeaaGreatDoor
open Go Go.Ev
theorem Qyr {n0:Nat} {m:Mem} {v:Value} {s:Stp} (h:Qcr n0 m v [s]):∃ b d c,v=.slice (some ⟨b,0,none⟩) 1 1∧b<m.next∧vw m b=some ⟨true,36,true,Qaa s d c⟩∧Own n0 m d 5 s.data.length (u8s s.data)∧Own n0 m c 3 s.choices.length (i64s s.choices):=by
 obtain⟨cells,h1,h2,h3⟩:=h
 obtain⟨d,c,h4,h5,h6⟩:=h3 0 s rfl
 rcases h1 with ⟨_,h,_⟩|⟨b,rfl,hb0,hb,hv⟩
 ·cases h
 ·have:cells=Qaa s d c:=by
   rw [← h4];unfold Qb3
   rw [Nat.zero_mul,List.drop_zero,List.take_of_length_le (by simp at h2;omega)]
  rw [this] at hv
  exact⟨b,d,c,rfl,hb,hv,h5,h6⟩
theorem own_two {n0:Nat} {m:Mem} {v:Value} {a b:Int} (h:Own n0 m v 3 2 (i64s [a,b])):∃ p,v=.slice (some ⟨p,0,none⟩) 2 2∧p<m.next∧vw m p=some ⟨true,3,true,[.int .i64 a,.int .i64 b]⟩:=by
 rcases h with ⟨_,h,_⟩|⟨p,rfl,h0,h1,h2⟩
 ·cases h
 ·exact⟨p,rfl,h1,h2⟩
theorem knows_ok {m:Mem} (hE:Qc0 m) (hP:Qeo m) (hm8:8≤m.next):Qar tb 21 [] m (retR fun r m'=>r=.bool true∧Old m.next m m'):=by
 refine Qay Tryz.func21 e21 rfl rfl ?_
 simp only [s21,List.replicate,Klc,Kln,Kca,Kna,Nat.reduceAdd,Nat.reduceSub]
 refine xsr fun Q' hQ=>?_
 simp
 subst hQ
 refine xsr fun Q' hQ=>?_
 simp
 refine Qao (Qad (by decide)) (Qqh (tx:=Qsa) hE (by decide)) ?_ (fun ch m' h=>h.elim)
 rintro r m1 ⟨v1,rfl,hs1,hO1⟩
 rw [Qjh] at hs1 ⊢
 simp only at hs1 ⊢
 simp only [Qaj]
 simp [stOk,oneC]
 subst hQ
 obtain⟨m2,hm2,hn2,hv2,hg2,hO2⟩:=Jb4 m1 Qnk
 obtain⟨q1,hq1⟩:∃ q1,q1=m1.next:=⟨_,rfl⟩
 rw [← hm2,← hq1]
 rw [← hq1] at hn2 hv2 hg2
 clear hm2
 have hs2:Qcr m.next m2 v1 [Qpd]:=hs1.ex (by omega) fun y V hy _ _ _=>hg2 y (by omega)
 have hO12:Old m.next m m2:=hO1.trans (hO2.le hO1.1)
 obtain⟨b,d,c,rfl,hb,hvb,hd,hc⟩:=Qyr hs2
 refine xseq (xseq (Qai fun Q' hQ=>?_))
 simp
 refine Qao (Qad (by decide)) (Qvv m2 0) ?_ (fun ch m' h=>h.elim)
 rintro r m3 ⟨rfl,rfl⟩
 obtain⟨p,rfl,hp,hvp⟩:=own_two hc
 simp only [Qnk] at hv2
 simp only [Qpd,stp0,Qaa] at hvb
 simp [hv2,hvb,hvp]
 subst hQ
 refine xno rfl (Qa2 ?_)
 refine xsr fun Q' hQ=>?_
 simp [hv2]
 refine Qao (Qad (by decide)) (print_ok (m:=m3) (x:=Qnk) (ss:=[Qpd]) (by have:=hO12.1;omega) (hP.old hO12 (by omega)) (by rw [show Qnk=(Qa4 Qsa).1 by rw [Qjh]];exact (parse_W Qsa).1) (Qmq hs2 (fun s hs=>((Jae Qsa).1 s (by rw [Qjh];exact hs)).1)) (by decide)) ?_ (fun ch m' h=>h.elim)
 rintro r m4 ⟨rfl,hO4⟩
 rw [Qui]
 simp
 subst hQ
 refine xsr fun Q' hQ=>?_
 simp
 refine Qao (Qad (by decide)) (Qvv m4 0) ?_ (fun ch m' h=>h.elim)
 rintro r m5 ⟨rfl,rfl⟩
 simp [Jaw]
 subst hQ
 exact xret ⟨rfl,_,Qaw _,rfl,hO12.trans (hO4.le hO12.1)⟩
end Go.Proofs.YtgmkbdmgifdfeaaGreatDoor

namespace Go.Proofs.YtgmkbdmgifdfeaaGreatDoor
open Go
def StW (cur:Option (List UInt8)) (q e:Bool):Prop:=(e=true→q=true)∧(q=true→cur.isSome=true)
theorem Jb9 {b:UInt8} (hb:isBl b=true):∀ r:List UInt8,atBl (r++[b])=atBl r
 | []=>hb
 |_::_=>rfl
theorem Qtm (b:UInt8) (hb:isBl b=true) (acc:List (List UInt8)) (cur:Option (List UInt8)) (e:Bool):Qan [b] acc cur true e=none:=by
 have h1:b≠92:=by rintro rfl;revert hb;decide
 have h2:b≠34:=by rintro rfl;revert hb;decide
 rw [Qan.eq_def]
 cases e
 ·simp only [Bool.false_eq_true,if_false,if_true,h1,h2];rw [Qan.eq_def];rfl
 ·simp only [if_true];rw [Qan.eq_def];rfl
theorem Qin (c:UInt8) (r:List UInt8) (acc:List (List UInt8)) (cur:Option (List UInt8)) (q e:Bool):Qan (c::r) acc cur q e =
  if e=true then Qan r acc (cur.map (· ++ [c])) q false
  else if q=true then
   (if c=92 then Qan r acc (cur.map (· ++ [c])) q true
    else if c=34 then (if atBl r=true then Qan r acc (cur.map (· ++ [c])) false false else none)
    else Qan r acc (cur.map (· ++ [c])) q false)
  else match cur with
   |none=>if isBl c=true then Qan r acc none false false
    else if acc=[]∧c=35 then some []
    else Qan r acc (some [c]) (c==34) false
   |some w=>if isBl c=true then Qan r (acc++[w]) none false false
    else Qan r acc (some (w++[c])) false false:=by rw [Qan.eq_def];rfl
theorem Qju (acc:List (List UInt8)) (cur:Option (List UInt8)) (q e:Bool):Qan [] acc cur q e=if q=true then none else some (acc++cur.toList):=by rw [Qan.eq_def]
theorem Qc5 {b:UInt8} (hb:isBl b=true):∀ (l:List UInt8) (acc:List (List UInt8)) (cur:Option (List UInt8)) (q e:Bool),StW cur q e→Qan (l++[b]) acc cur q e=Qan l acc cur q e
 | [],acc,cur,q,e,h=>by
   cases q with
   |true=>rw [Kna,Qtm b hb,Qju];rfl
   |false =>
    cases e with
    |true=>exact absurd (h.1 rfl) (by decide)
    |false =>
     rw [Kna,Qin,Qju]
     cases cur with
     |none=>simp [hb,Qju]
     |some w=>simp [hb,Qju]
 |c::l,acc,cur,q,e,h=>by
  have hm:∀ {q' e':Bool},(e'=true→q'=true)→(q'=true→q=true)→StW (cur.map (· ++ [c])) q' e':=fun h1 h2=>⟨h1,fun k=>by have:=h.2 (h2 k);simpa using this⟩
  rw [Kca,Qin,Qin c l,Jb9 hb]
  cases e with
  |true=>simp only [if_true];exact Qc5 hb l _ _ _ _ (hm (by simp) _root_.id)
  |false =>
   simp only [Bool.false_eq_true,if_false]
   cases q with
   |true =>
    simp only [if_true]
    rw [Qc5 hb l acc _ true true (hm (by simp) _root_.id),Qc5 hb l acc _ false false (hm (by simp) (by simp)),Qc5 hb l acc _ true false (hm (by simp) _root_.id)]
   |false =>
    simp only [Bool.false_eq_true,if_false]
    cases cur with
    |none =>
     simp only
     rw [Qc5 hb l acc none false false ⟨by simp,by simp⟩,Qc5 hb l acc (some [c]) (c==34) false ⟨by simp,by simp⟩]
    |some w =>
     simp only
     rw [Qc5 hb l (acc++[w]) none false false ⟨by simp,by simp⟩,Qc5 hb l acc (some (w++[c])) false false ⟨by simp,by simp⟩]
theorem Qxi {b:UInt8} (hb:isBl b=true) (l:List UInt8):Qbz (l++[b])=Qbz l:=by
 unfold Qbz Qcz
 rw [Qc5 hb l [] none false false ⟨by simp,by simp⟩]
theorem Qnj:∀ (bs l:List UInt8),(∀ b∈bs,isBl b=true)→Qbz (l++bs)=Qbz l
 | [],l,_=>by rw [List.append_nil]
 |b::bs,l,h=>by
  have e:l++b::bs=(l++[b])++bs:=by simp
  rw [e,Qnj bs (l++[b]) fun x hx=>h x (.tail _ hx),Qxi (h b (.head _))]
theorem Qi0:∀ (a b:List UInt8),∃ p x y q,Qak a=p++[x]∧Qak b=y::q∧Qak (a++b)=p++(x++y)::q
 | [],b=>by
   cases h:Qak b with
   |nil=>exact absurd h (Qhq b)
   |cons y q=>exact⟨[],[],y,q,rfl,rfl,h⟩
 |c::a,b=>by
  obtain⟨p,x,y,q,h1,h2,h3⟩:=Qi0 a b
  by_cases hc:c=10
  ·refine⟨[]::p,x,y,q,?_,h2,?_⟩
   ·rw [Qak,if_pos hc,h1];rfl
   ·rw [Kca,Qak,if_pos hc,h3];rfl
  ·cases p with
   |nil =>
    refine⟨[],c::x,y,q,?_,h2,?_⟩
    ·rw [Qak,if_neg hc,h1];rfl
    ·rw [Kca,Qak,if_neg hc,h3];rfl
   |cons z p =>
    refine⟨(c::z)::p,x,y,q,?_,h2,?_⟩
    ·rw [Qak,if_neg hc,h1];rfl
    ·rw [Kca,Qak,if_neg hc,h3];rfl
def Qu6 (a b:Stu × List Stp × Int × Int):Prop:=a.1=b.1∧a.2.1=b.2.1∧a.2.2.2=b.2.2.2∧(a.2.2.1=0↔b.2.2.1=0)
theorem Qu6.refl (a:Stu × List Stp × Int × Int):Qu6 a a:=⟨rfl,rfl,rfl,.rfl⟩
theorem go_num:∀ (ls:List (List UInt8)) (s:Scr) (n n':Int),0≤n→0≤n'→Qu6 (Qbf s n ls) (Qbf s n' ls)
 | [],s,n,n',_,_=>by unfold Qbf;exact .refl _
 |l::ls,s,n,n',h,h'=>by
  rw [Qbf,Qbf]
  cases Qca s l with
  |none=>exact⟨rfl,rfl,rfl,by show n+1=0↔n'+1=0;omega⟩
  |some s'=>exact go_num ls s' (n+1) (n'+1) (by omega) (by omega)
theorem Qv2:∀ (p:List (List UInt8)) {ls ls':List (List UInt8)},(∀ s n,0≤n→Qu6 (Qbf s n ls) (Qbf s n ls'))→∀ s n,0≤n→Qu6 (Qbf s n (p++ls)) (Qbf s n (p++ls'))
 | [],ls,ls',h,s,n,hn=>h s n hn
 |l::p,ls,ls',h,s,n,hn=>by
  rw [Kca,Kca,Qbf,Qbf]
  cases Qca s l with
  |none=>exact .refl _
  |some s'=>exact Qv2 p h s' (n+1) (by omega)
theorem Qym {s:Scr} {l l':List UInt8} (h:Qbz l=Qbz l'):Qca s l=Qca s l':=by unfold Qca;rw [h]
theorem Qxr {l:List UInt8} (h:Qbz l=some .nothing) (ls:List (List UInt8)) (s:Scr) (n:Int):Qbf s n (l::ls)=Qbf s (n+1) ls:=by
 rw [Qbf];unfold Qca;rw [h]
theorem Qid (l:List UInt8) (h:l=[]∨l=[32,9]∨∃ r,l=35::r):Qbz l=some .nothing:=by
 unfold Qbz Qcz
 rcases h with rfl|rfl|⟨r,rfl⟩
 ·rfl
 ·rfl
 ·rw [Qin]
  have h1:isBl 35=false:=by decide
  simp [h1]
theorem go_more {x:List UInt8} {q:List (List UInt8)} (add:List UInt8) (h:(∀ b∈add,isBl b=true)∨∃ v,add=10::v∧(∀ b∈v,b≠10)∧Qbz v=some .nothing) :
  ∃ ls,(∀ s n,0≤n→Qu6 (Qbf s n (x::q)) (Qbf s n ls))∧(Qak add=[add]∧ls=(x++add)::q∨∃ v,Qak add=[[],v]∧ls=x::v::q):=by
 rcases h with h|⟨v,rfl,h1,h2⟩
 ·refine⟨(x++add)::q,fun s n hn=>?_,.inl ⟨?_,rfl⟩⟩
  ·rw [Qbf,Qbf,Qym (Qnj add x h)];exact .refl _
  ·have:∀ l:List UInt8,(∀ b∈l,isBl b=true)→Qak l=[l]:=by
    intro l
    induction l with
    |nil=>intro _;rfl
    |cons c l ih =>
     intro hl
     have hc:c≠10:=by rintro rfl;have:=hl 10 (.head _);revert this;decide
     rw [Qak,if_neg hc,ih fun b hb=>hl b (.tail _ hb)]
   exact this add h
 ·refine⟨x::v::q,fun s n hn=>?_,.inr ⟨v,?_,rfl⟩⟩
  ·rw [Qbf,Qbf]
   cases Qca s x with
   |none=>exact .refl _
   |some s' =>
    simp only
    rw [Qxr h2]
    exact go_num q s' (n+1) (n+1+1) (by omega) (by omega)
  ·have:∀ l:List UInt8,(∀ b∈l,b≠10)→Qak l=[l]:=by
    intro l
    induction l with
    |nil=>intro _;rfl
    |cons c l ih=>intro hl;rw [Qak,if_neg (hl c (.head _)),ih fun b hb=>hl b (.tail _ hb)]
   rw [Qak,if_pos rfl,this v h1]
def Jap:List (List UInt8):=[[32],[9,32,9],[10],[10,35,32,115,97,105,100,32,34,98,121,32,110,111,98,111,100,121],[10,32,9]]
theorem Jao {add:List UInt8} (h:add∈Jap):(∀ b∈add,isBl b=true)∨∃ v,add=10::v∧(∀ b∈v,b≠10)∧Qbz v=some .nothing:=by
 simp only [Jap,List.mem_cons,List.not_mem_nil,or_false] at h
 rcases h with rfl|rfl|rfl|rfl|rfl
 ·exact .inl (by decide)
 ·exact .inl (by decide)
 ·exact .inr ⟨_,rfl,by decide,Qid _ (.inl rfl)⟩
 ·exact .inr ⟨_,rfl,by decide,Qid _ (.inr (.inr ⟨_,rfl⟩))⟩
 ·exact .inr ⟨_,rfl,by decide,Qid _ (.inr (.inl rfl))⟩
theorem Qxc {a b add:List UInt8} (hb:b=[]∨∃ r,b=10::r) (hadd:add∈Jap) (hlen:(a++b).length+add.length≤1048576):Qu6 (Qa4 (a++b)) (Qa4 (a++add++b)):=by
 unfold Qa4
 rw [if_neg (by omega),if_neg (by simp at hlen ⊢;omega)]
 obtain⟨p,x,y,q,h1,h2,h3⟩:=Qi0 a b
 obtain⟨p',x',y',q',k1,k2,k3⟩:=Qi0 a (add++b)
 obtain⟨rfl,e⟩:=List.append_inj' (h1.symm.trans k1) rfl
 obtain rfl:x=x':=by simpa using e
 rw [List.append_assoc,h3,k3]
 have hy:y=[]:=by
  rcases hb with rfl|⟨r,rfl⟩
  ·simp [Qak] at h2;exact h2.1
  ·rw [Qak,if_pos rfl] at h2;exact (List.cons.inj h2).1.symm
 subst hy
 obtain⟨p2,x2,y2,q2,j1,j2,j3⟩:=Qi0 add b
 rw [h2] at j2
 obtain⟨rfl,rfl⟩:=List.cons.inj j2
 rw [List.append_nil] at j3 ⊢
 refine Qv2 p (fun s n hn=>?_) _ _ (by decide)
 obtain⟨ls,g1,g2⟩:=go_more (x:=x) (q:=q) add (Jao hadd)
 have:(x++y')::q'=ls:=by
  rw [j3] at k2
  rcases g2 with ⟨g2,rfl⟩|⟨v,g2,rfl⟩
  ·rw [g2] at j1
   obtain⟨rfl,e⟩:=List.append_inj' (show []++[add]=p2++[x2] from j1) rfl
   obtain rfl:add=x2:=by simpa using e
   obtain⟨rfl,rfl⟩:=List.cons.inj k2
   rfl
  ·rw [g2] at j1
   obtain⟨rfl,e⟩:=List.append_inj' (show [[]]++[v]=p2++[x2] from j1) rfl
   obtain rfl:v=x2:=by simpa using e
   obtain⟨rfl,rfl⟩:=List.cons.inj k2
   simp
 rw [this]
 exact g1 s n hn
end Go.Proofs.YtgmkbdmgifdfeaaGreatDoor

set_option maxRecDepth 8000
namespace Go.Proofs.YtgmkbdmgifdfeaaGreatDoor
open Go Go.Ev
theorem b_remI (m:Mem) (t:TypeId) (x y:Operand) (k:IntKind) (a b:Int) (hb:0<b):binA tb m .rem t x y (.int k a) (.int k b)=some (.int k (a.tmod b)):=by
 obtain⟨b,rfl⟩:∃ c:Nat,b=.ofNat (c+1):=⟨(b-1).toNat,by show b=((b-1).toNat:Int)+1;omega⟩
 simp only [binA,Qcv,Qhw]
 show oI k (remI a (.ofNat (b+1)))=_
 cases a<;>simp only [remI,oI,Qbe]<;>rfl
def Qie (tx:List UInt8):Nat→Nat→Nat
 |0,k=>k
 |f+1,k=>match tx[k]? with
  |some c=>if c=10 then k else Qie tx f (k+1)
  |none=>k
theorem Qle (tx:List UInt8):∀ (f k:Nat),k≤tx.length→tx.length≤k+f→Qie tx f k≤tx.length∧(tx.drop (Qie tx f k)=[]∨∃ r,tx.drop (Qie tx f k)=10::r)
 |0,k,h1,h2=>⟨h1,.inl (by show tx.drop k=[];exact List.drop_eq_nil_of_le (by omega))⟩
 |f+1,k,h1,h2=>by
  rw [Qie]
  by_cases h:k<tx.length
  ·rw [Kge h]
   simp only
   split
   ·rename_i hc
    exact⟨h1,.inr ⟨tx.drop (k+1),by rw [List.drop_eq_getElem_cons h,hc]⟩⟩
   ·exact Qle tx f (k+1) h (by omega)
  ·rw [List.getElem?_eq_none (by omega)]
   simp only
   exact⟨h1,.inl (List.drop_eq_nil_of_le (by omega))⟩
theorem Qvb (z b:Int) (hb:0<b):0≤(z.tmod b+b).tmod b∧(z.tmod b+b).tmod b<b ∧ -b<z.tmod b∧z.tmod b<b:=by
 have h1:z.tmod b<b:=Int.tmod_lt_of_pos z hb
 have h2 : -b<z.tmod b:=by
  have:=Int.lt_tmod_of_pos z hb
  exact this
 refine⟨Int.tmod_nonneg b (by omega),Int.tmod_lt_of_pos _ hb,h2,h1⟩
abbrev zbox:AObj:=Qbw 26 9 [.int .i64 0,.int .u64 0,.int .u64 0,.int .i64 0,.int .i64 0,.int .i64 0,.int .i64 0,.int .i64 0,.int .u64 0]
theorem Qu7 (m:Mem):(Qah m zbox).next=m.next+1∧vw (Qah m zbox) m.next=some ⟨true,26,false,[.int .i64 0,.int .u64 0,.int .u64 0,.int .i64 0,.int .i64 0,.int .i64 0,.int .i64 0,.int .i64 0,.int .u64 0]⟩∧Old m.next m (Qah m zbox):=by
 refine⟨Qae _ _,?_,(Old.refl _ _).new (Knr _) _⟩
 rw [Qcy,if_pos rfl];exact Qdn 26 [.int .i64 0,.int .u64 0,.int .u64 0,.int .i64 0,.int .i64 0,.int .i64 0,.int .i64 0,.int .i64 0,.int .u64 0]
theorem zbox_st {m:Mem} {q:Nat} (x:Stu) (hv:vw m q=some ⟨true,26,false,[.int .i64 0,.int .u64 0,.int .u64 0,.int .i64 0,.int .i64 0,.int .i64 0,.int .i64 0,.int .i64 0,.int .u64 0]⟩) :
  ∃ m2,m2=stM m q 0 [.int .i64 x.mtu,.int .u64 x.ack,.int .u64 x.retry,.int .i64 x.retries,.int .i64 x.window,.int .i64 x.inbox,.int .i64 x.sectors,.int .i64 x.room,.int .u64 x.start] ∧
  m2.next=m.next∧vw m2 q=some ⟨true,26,false,[.int .i64 x.mtu,.int .u64 x.ack,.int .u64 x.retry,.int .i64 x.retries,.int .i64 x.window,.int .i64 x.inbox,.int .i64 x.sectors,.int .i64 x.room,.int .u64 x.start]⟩∧(∀ y,y≠q→m2.objs.get y=m.objs.get y):=by
 refine⟨_,rfl,Qaq,?_,fun y hy=>Qbl hy⟩
 rw [Qax hv (by simp [oneC]),Qo2 (by simp)]
 simp
theorem vEq_t4' (d:Nat) (a b c e:Value) (ha:vEq d a a=true) (hb:vEq d b b=true) (hc:vEq d c c=true) (he:vEq d e e=true):vEq (d+1) (.tuple ⟨[a,b,c,e]⟩) (.tuple ⟨[a,b,c,e]⟩)=true:=by simp [vEq,ha,hb,hc,he]
theorem vEq_pr (x:Stu) (a:Option Addr) (l:Nat) (n e:Int):vEq 100 (.tuple ⟨[.agg ⟨[.int .i64 x.mtu,.int .u64 x.ack,.int .u64 x.retry,.int .i64 x.retries,.int .i64 x.window,.int .i64 x.inbox,.int .i64 x.sectors,.int .i64 x.room,.int .u64 x.start]⟩,.slice a l l,.int .i64 n,.int .i64 e]⟩) (.tuple ⟨[.agg ⟨[.int .i64 x.mtu,.int .u64 x.ack,.int .u64 x.retry,.int .i64 x.retries,.int .i64 x.window,.int .i64 x.inbox,.int .i64 x.sectors,.int .i64 x.room,.int .u64 x.start]⟩,.slice a l l,.int .i64 n,.int .i64 e]⟩)=true:=by
 refine vEq_t4' 99 _ _ _ _ (vEq_a (d:=98) fun v hv=>?_) (Qrh _ _ _ _) (Qtg _ _ _) (Qtg _ _ _)
 simp only [List.mem_cons,List.not_mem_nil,or_false] at hv
 rcases hv with rfl|rfl|rfl|rfl|rfl|rfl|rfl|rfl|rfl<;>exact Qtg _ _ _
theorem b_neq26 (m:Mem) (x y:Operand) (s:Stu):binA tb m .neq 26 x y (.agg ⟨[.int .i64 s.mtu,.int .u64 s.ack,.int .u64 s.retry,.int .i64 s.retries,.int .i64 s.window,.int .i64 s.inbox,.int .i64 s.sectors,.int .i64 s.room,.int .u64 s.start]⟩) (.agg ⟨[.int .i64 s.mtu,.int .u64 s.ack,.int .u64 s.retry,.int .i64 s.retries,.int .i64 s.window,.int .i64 s.inbox,.int .i64 s.sectors,.int .i64 s.room,.int .u64 s.start]⟩)=some (.bool false):=by
 have h:=b_eql26 m x y s
 unfold binA at h ⊢
 simp only at h ⊢
 generalize eqOp tb m 26 x y _ _=o at h ⊢
 cases o with
 |none=>cases h
 |some b=>cases h;rfl
theorem Jb5 {m:Mem} {tx:List UInt8} {at' what:Int} (hE:Qc0 m) (hP:Qeo m) (hm8:8≤m.next) (hlen:tx.length≤4611686018427387904) (ha:i64R at') (hw:i64R what) :
  Qar tb 8 [.string ⟨⟨tx⟩⟩,.int .i64 at',.int .i64 what] m (retR fun r m'=>r=.bool true):=by
 refine Qay Tryz.func8 e8 rfl rfl ?_
 simp only [s8,List.replicate,Klc,Kln,Kca,Kna,Nat.reduceAdd,Nat.reduceSub]
 refine xsr fun Q' hQ=>?_
 simp
 subst hQ
 refine xsr fun Q' hQ=>?_
 simp
 subst hQ
 refine Qbg (fun l ds m2=>ds=[]∧m2=m∧∃ k:Nat,k≤tx.length∧Sl [.string ⟨⟨tx⟩⟩,.int .i64 at',.int .i64 what,undef,undef,undef,.bool false,.int .i64 (k:Int)] 120 l) ?_ ?_
 rotate_left
 ·refine xsr fun Q' hQ=>?_
  simp
  subst hQ
  refine xif (v:=decide (0<(tx.length:Int))) (by simp) (fun h0=>?_) (fun h0=>Qa2 ?_)
  ·have h0:0<(tx.length:Int):=by simpa using h0
   obtain⟨t1,t2,t3,t4⟩:=Qvb at' _ h0
   have hwr:IntKind.wrap .i64 (at'.tmod (tx.length:Int)+(tx.length:Int))=at'.tmod (tx.length:Int)+(tx.length:Int):=wr64 _ (by omega) (by omega)
   refine Qai fun Q' hQ=>?_
   simp [b_remI _ _ _ _ _ _ _ h0,hwr]
   subst hQ
   refine⟨rfl,rfl,((at'.tmod (tx.length:Int)+(tx.length:Int)).tmod (tx.length:Int)).toNat,by omega,Sl.mk ?_ rfl⟩
   rw [Int.toNat_of_nonneg t1];rfl
  ·exact⟨rfl,rfl,0,by omega,Sl.mk rfl rfl⟩
 rintro l ds m2 ⟨rfl,rfl,k,hk,us,hus,rfl⟩
 obtain⟨K,hK⟩:∃ K,K=Qie tx (tx.length-k) k:=⟨_,rfl⟩
 obtain⟨hK1,hK2⟩:=Qle tx (tx.length-k) k hk (by omega)
 rw [← hK] at hK1 hK2
 refine Qbg (fun l ds m3=>ds=[]∧m3=m2∧Sl [.string ⟨⟨tx⟩⟩,.int .i64 at',.int .i64 what,undef,undef,undef,.bool false,.int .i64 (K:Int)] 120 l) ?_ ?_
 rotate_left
 ·refine Qa1 (Qdf (N:=tx.length-k) (I:=fun n l ds m3=>∃ j:Nat,n=tx.length-j∧j≤tx.length∧ds=[]∧m3=m2∧K=Qie tx (tx.length-j) j∧Sl [.string ⟨⟨tx⟩⟩,.int .i64 at',.int .i64 what,undef,undef,undef,.bool false,.int .i64 (j:Int)] 120 l) ?_ ?_)
  ·exact⟨k,rfl,hk,rfl,rfl,hK,us,hus,rfl⟩
  rintro n l ds m3 ⟨j,rfl,hj,rfl,rfl,hKj,us,hus,rfl⟩
  refine xseq (xseq (Qai fun Q' hQ=>?_))
  by_cases h:j<tx.length
  ·have hx:tx[j]? = some tx[j]:=Kge h
   simp [hus,h]
   subst hQ
   generalize tx[j]=c at hx ⊢
   have e10:((c.toNat:Int)=10)↔c=10:=by
    constructor
    ·intro e;exact UInt8.toNat_inj.1 (by show c.toNat=10;omega)
    ·rintro rfl;rfl
   rw [show tx.length-j=(tx.length-(j+1))+1 by omega,Qie,hx] at hKj
   simp only at hKj
   refine xif (v:=!decide (c=10)) (by simp [hus,e10]) (fun hc=>Qa2 ?_) (fun hc=>Qcn ?_)
   ·have hc:c≠10:=by simpa using hc
    rw [if_neg hc] at hKj
    refine Qa1 (Qai fun Q' hQ=>?_)
    simp [hus]
    rw [wr64 _ (by omega) (by omega)]
    subst hQ
    exact⟨tx.length-(j+1),by omega,j+1,rfl,by omega,rfl,rfl,hKj,Sl.mk rfl (by simp [hus])⟩
   ·have hc:c=10:=by simpa using hc
    rw [if_pos hc] at hKj
    subst hKj
    exact⟨rfl,rfl,Sl.mk rfl (by simp [hus])⟩
  ·simp [hus,h]
   subst hQ
   obtain rfl:j=tx.length:=by omega
   rw [Nat.sub_self] at hKj
   refine xif (v:=false) (by simp [hus]) (fun hc=>by cases hc) (fun hc=>Qcn ?_)
   subst hKj
   exact⟨rfl,rfl,Sl.mk rfl (by simp [hus])⟩
 rintro l ds m3 ⟨rfl,rfl,us,hus,rfl⟩
 refine xsr fun Q' hQ=>?_
 simp [hus]
 subst hQ
 refine Qbg (fun l ds m4=>ds=[]∧Old m3.next m3 m4∧∃ add v,add∈Jap∧Sl [.string ⟨⟨tx⟩⟩,.int .i64 at',.int .i64 what,undef,undef,undef,.bool false,.int .i64 (K:Int),v,.string ⟨⟨add⟩⟩] 118 l) ?_ ?_
 rotate_left
 ·obtain⟨t1,t2,t3,t4⟩:=Qvb what 5 (by decide)
  have hwr:IntKind.wrap .i64 (what.tmod 5+5)=what.tmod 5+5:=wr64 _ (by omega) (by omega)
  obtain⟨y0,y1,us,rfl,hus2⟩:∃ y0 y1 us',us=y0::y1::us'∧us'.length=118:=by
   match us,hus with
   |a::b::r,h=>exact⟨a,b,r,rfl,by simpa using h⟩
  refine Qai fun Q' hQ=>?_
  obtain⟨w,hw⟩:∃ w,w=(what.tmod 5+5).tmod 5:=⟨_,rfl⟩
  rw [← hw] at t1 t2
  have h5:w=0∨w=1∨w=2∨w=3∨w=4:=by omega
  rcases h5 with rfl|rfl|rfl|rfl|rfl
  all_goals
   simp (maxDischargeDepth:=12) [hus2,b_remI,hwr,← hw]
   subst hQ
   refine⟨rfl,(Old.refl _ _).new (Knr _) _,_,_,?_,Sl.mk rfl (by simp [hus2])⟩
   decide
 rintro l ds m4 ⟨rfl,hO4,add,v8,hadd,vs,hvs,rfl⟩
 obtain⟨z10,z11,z12,z13,z14,z15,z16,z17,z18,z19,z20,z21,ws,rfl,hws⟩:∃ a b c d e f g h i j k l us',vs=a::b::c::d::e::f::g::h::i::j::k::l::us'∧us'.length=106:=by
  match vs,hvs with
  |a::b::c::d::e::f::g::h::i::j::k::l::r,h0=>exact⟨a,b,c,d,e,f,g,h,i,j,k,l,r,rfl,by simpa using h0⟩
 have hal:add.length≤18:=by
  simp only [Jap,List.mem_cons,List.not_mem_nil,or_false] at hadd
  rcases hadd with rfl|rfl|rfl|rfl|rfl<;>decide
 refine xseq (xseq (Qai fun Q' hQ=>?_))
 simp [hws]
 rw [wr64 _ (by omega) (by omega)]
 subst hQ
 refine xif (v:=decide ((1048576:Int)<(tx.length:Int)+(add.length:Int))) (by simp [hws]) (fun hbig=>?_) (fun hbig=>Qa2 ?_)
 ·refine xsr fun Q' hQ=>?_
  simp [hws]
  subst hQ
  exact xret ⟨rfl,_,Qaw _,by simp⟩
 have hsm:tx.length+add.length≤1048576:=by simp only [decide_eq_false_iff_not] at hbig;omega
 have htx:tx.take K++tx.drop K=tx:=List.take_append_drop K tx
 have hal2:=Qxc (a:=tx.take K) (b:=tx.drop K) hK2 hadd (by rw [htx];omega)
 rw [htx] at hal2
 obtain⟨tx2,htx2⟩:∃ tx2,tx2=tx.take K++add++tx.drop K:=⟨_,rfl⟩
 rw [← htx2] at hal2
 have hl2:tx2.length≤1048576:=by
  have:=congrArg List.length htx
  rw [htx2];simp only [Kla] at this ⊢;omega
 obtain⟨hR,hln⟩:=Jae tx
 obtain⟨x,ss,n,e,hpo⟩:∃ x ss n e,Qa4 tx=(x,ss,n,e):=⟨_,_,_,_,rfl⟩
 obtain⟨n2,hpo2⟩:∃ n2,Qa4 tx2=(x,ss,n2,e):=by
  obtain⟨h1,h2,h3,-⟩:=hal2
  rw [hpo] at h1 h2 h3
  refine⟨(Qa4 tx2).2.2.1,?_⟩
  simp only at h1 h2 h3
  rw [h1,h2,h3]
 have hn2:n=0↔n2=0:=by have:=hal2.2.2.2;rw [hpo,hpo2] at this;exact this
 rw [hpo] at hR hln
 simp only at hR hln
 have hO4m:Old m3.next m3 m4:=hO4
 have hE4:Qc0 m4:=hE.old hO4 (by omega)
 refine xsr fun Q' hQ=>?_
 simp [hws]
 refine Qao (Qad (by decide)) (Qqh hE4 (tx:=tx) (by omega)) ?_ (fun ch m' h=>h.elim)
 rintro r m5 ⟨v1,rfl,hs1,hO5⟩
 rw [hpo] at hs1 ⊢
 simp only at hs1 ⊢
 simp only [Qaj]
 simp [stOk,oneC,hws]
 subst hQ
 obtain⟨m6,hm6,hn6,hv6,hg6,hO6⟩:=Jb4 m5 x
 obtain⟨q1,hq1⟩:∃ q1,q1=m5.next:=⟨_,rfl⟩
 rw [← hm6,← hq1]
 rw [← hq1] at hn6 hv6 hg6
 clear hm6
 have hs6:Qcr m4.next m6 v1 ss:=hs1.ex (by omega) fun y V hy _ _ _=>hg6 y (by omega)
 have hO46:Old m4.next m4 m6:=hO5.trans (hO6.le hO5.1)
 have hE6:Qc0 m6:=hE4.old hO46 (by have:=hO4.1;omega)
 obtain⟨a1,rfl⟩:=hs6.shape
 have hv6':vw m6 q1=some ⟨true,26,false,[.int .i64 x.mtu,.int .u64 x.ack,.int .u64 x.retry,.int .i64 x.retries,.int .i64 x.window,.int .i64 x.inbox,.int .i64 x.sectors,.int .i64 x.room,.int .u64 x.start]⟩:=hv6
 have c1:∀ (m:Mem) (x y:Operand),binA tb m .add 9 x y (.string ⟨⟨tx.take K⟩⟩) (.string ⟨⟨add⟩⟩)=some (.string ⟨⟨tx.take K++add⟩⟩):=fun m x y=>b_cat _ _ _ _ _ (by rw [List.length_take];omega)
 have c2:∀ (m:Mem) (x y:Operand),binA tb m .add 9 x y (.string ⟨⟨tx.take K++add⟩⟩) (.string ⟨⟨(tx.drop K).take (tx.length-K)⟩⟩)=some (.string ⟨⟨tx2⟩⟩):=fun m x y=>by
  rw [htx2,show (tx.drop K).take (tx.length-K)=tx.drop K from List.take_of_length_le (by rw [List.length_drop];exact Knr _)]
  exact b_cat _ _ _ _ _ (by rw [Kla,List.length_take,List.length_drop];omega)
 refine Qbg (fun l ds m9=>ds=[]∧Old m6.next m6 m9∧∃ q2 a2 r0,vw m9 q2=some ⟨true,26,false,[.int .i64 x.mtu,.int .u64 x.ack,.int .u64 x.retry,.int .i64 x.retries,.int .i64 x.window,.int .i64 x.inbox,.int .i64 x.sectors,.int .i64 x.room,.int .u64 x.start]⟩∧Qcr r0 m9 (.slice a2 ss.length ss.length) ss ∧
   Sl [.string ⟨⟨tx⟩⟩,.int .i64 at',.int .i64 what,undef,undef,undef,.bool false,.int .i64 (K:Int),v8,.string ⟨⟨add⟩⟩,.pointer (some ⟨q1,0,none⟩),.slice a1 ss.length ss.length,.int .i64 n,.int .i64 e,.pointer (some ⟨q2,0,none⟩),.slice a2 ss.length ss.length,.int .i64 n2,.int .i64 e,z18,z19,z20,z21] 106 l) ?_ ?_
 rotate_left
 ·refine xdrw 6 fun Q' hQ=>?_
  simp [hws,hK1,c1,c2]
  obtain⟨hn7,hv7,hO7⟩:=Qu7 m6
  obtain⟨m7,hm7⟩:∃ m7,m7=Qah m6 zbox:=⟨_,rfl⟩
  obtain⟨q2,hq2⟩:∃ q2,q2=m6.next:=⟨_,rfl⟩
  rw [← hm7,← hq2]
  rw [← hm7,← hq2] at hn7 hv7 hO7
  clear hm7
  refine Qao (Qad (by decide)) (Qqh (hE6.old (hq2▸hO7) (by have:=hE6.1;omega)) (tx:=tx2) (by omega)) ?_ (fun ch m' h=>h.elim)
  rintro r m8 ⟨v2,rfl,hs8,hO8⟩
  rw [hpo2] at hs8 ⊢
  simp only at hs8 ⊢
  simp only [Qaj]
  obtain⟨a2,rfl⟩:=hs8.shape
  have hv8:=hO8.vw (show q2<m7.next by omega)▸hv7
  simp [hws,stOk,oneC,hv8,vEq_pr,Qrh]
  obtain⟨m9,hm9,hn9,hv9,hg9⟩:=zbox_st x hv8
  rw [← hm9]
  clear hm9
  subst hQ
  refine⟨rfl,?_,q2,a2,m7.next,hv9,?_,Sl.mk rfl (by simp [hws])⟩
  ·refine⟨by have:=hO8.1;omega,fun y hy=>?_⟩
   rw [hg9 y (by omega),hO8.2 y (by omega)]
   exact hO7.2 y (by omega)
  ·refine hs8.ex (by omega) fun y V hy _ hV hV2=>hg9 y ?_
   rintro rfl
   rw [hv8] at hV
   cases hV;cases hV2
 rintro l ds m9 ⟨rfl,hO9,q2,a2,r0,hv9,hs9,vs2,hvs2,rfl⟩
 have hq1:q1<m6.next:=by omega
 have hv91:=hO9.vw hq1▸hv6'
 have hs91:Qcr m4.next m9 (.slice a1 ss.length ss.length) ss:=hs6.ex hO9.1 fun y V hy _ _ _=>hO9.2 y hy
 have hE9:Qc0 m9:=hE6.old hO9 (by have:=hE6.1;omega)
 have h6:8≤m6.next:=by have:=hE6.1;omega
 have hP9:Qeo m9:=((hP.old hO4 (by omega)).old hO46 (by have:=hO4.1;omega)).old hO9 (by omega)
 have h9:8≤m9.next:=by have:=hO9.1;omega
 have hRR:∀ s∈ss,s.R:=fun s hs=>(hR s hs).1
 refine xseq (xseq (Qai fun Q' hQ=>?_))
 simp [hvs2]
 refine Qao (Qad (by decide)) (Qvv m9 e) ?_ (fun ch m' h=>h.elim)
 rintro r m10 ⟨rfl,rfl⟩
 refine Qao (Qad (by decide)) (Qvv m10 e) ?_ (fun ch m' h=>h.elim)
 rintro r m11 ⟨rfl,rfl⟩
 simp [hvs2,hv91,hv9,b_neq26]
 refine Qao (Qad (by decide)) (Qwv (Qmq hs91 hRR) (Qmq hs9 hRR) hln (fun s hs=>(hR s hs).2)) ?_ (fun ch m' h=>h.elim)
 rintro r m12 ⟨rfl,hO12⟩
 simp [hvs2,u_not]
 refine Qao (Qad (by decide)) (knows_ok (hE9.old hO12 (by omega)) (hP9.old hO12 (by omega)) (by have:=hO12.1;omega)) ?_ (fun ch m' h=>h.elim)
 rintro r m13 ⟨rfl,hO13⟩
 simp [hvs2,u_not]
 subst hQ
 refine xno (by simp [hvs2]) (Qa2 ?_)
 refine xseq (xdrw 6 fun Q' hQ=>?_)
 simp [hvs2,hK1,c1,c2]
 obtain⟨hn14,hv14,hO14⟩:=Qu7 m13
 obtain⟨m14,hm14⟩:∃ m14,m14=Qah m13 zbox:=⟨_,rfl⟩
 obtain⟨q3,hq3⟩:∃ q3,q3=m13.next:=⟨_,rfl⟩
 rw [← hm14,← hq3]
 rw [← hm14,← hq3] at hn14 hv14 hO14
 clear hm14
 refine Qao (Qad (by decide)) (Qzr (m:=m14) (tx:=tx2) (by have:=hO12.1;have:=hO13.1;omega) (by omega)) ?_ (fun ch m' h=>h.elim)
 rintro r m15 ⟨v3,rfl,hs15,hO15⟩
 rw [hpo2] at hs15 ⊢
 simp only at hs15 ⊢
 simp only [Qaj]
 obtain⟨a3,rfl⟩:=hs15.shape
 have hv15:=hO15.vw (show q3<m14.next by omega)▸hv14
 simp [hvs2,stOk,oneC,hv15,vEq_pr,Qrh]
 subst hQ
 refine xsr fun Q' hQ=>?_
 simp [hvs2,hn2,beq4]
 subst hQ
 exact xret ⟨rfl,_,Qaw _,by simp⟩
end Go.Proofs.YtgmkbdmgifdfeaaGreatDoor

set_option maxRecDepth 100000
namespace Go.Proofs.YtgmkbdmgifdfeaaGreatDoor
open Go Go.Ev Go.RowKit
theorem Qlf {P:Program} {w:World}:∀ {l:List (String × DataW Unit)} {ps:List MemPlace},DataW.LaidVars P w l ps→∀ n d,(n,d)∈l →
  ∃ g t cs fuel p,P.globalNamed n=some g∧(P.globals[g]?).map (·.type)=some t∧w.var? P n=some cs∧DataW.trod (fun _=>()) P w 0 (fun _=>true) false fuel t cs.toList=some (d,p)∧∀ x∈MemPlace.row ⟨g,0,none⟩ cs.size,x∈ps
 | [],_,_,_,_,hm=>by cases hm
 | (n',d')::r,ps,h,n,d,hm=>by
   obtain⟨g,t,cs,fuel,p,q,h1,h2,h3,h4,h5,h6⟩:=h
   rcases List.mem_cons.1 hm with e|e
   ·cases e
    exact⟨g,t,cs,fuel,p,h1,h2,h3,h4,fun x hx=>by rw [h6];simp [hx]⟩
   ·obtain⟨g',t',cs',fuel',p',k1,k2,k3,k4,k5⟩:=Qlf h5 n d e
    exact⟨g',t',cs',fuel',p',k1,k2,k3,k4,fun x hx=>by rw [h6];simp [k5 x hx]⟩
theorem Qvx {P:Program} {w:World} {l:List (String × DataW Unit)} (h:laidMet P l w) {n:String} {d:DataW Unit} (hm:(n,d)∈l) {g0:Nat} (hg:P.globalNamed n=some g0) :
  ∃ t cs fuel p,(P.globals[g0]?).map (·.type)=some t∧w.var? P n=some cs∧DataW.trod (fun _=>()) P w 0 (fun _=>true) false fuel t cs.toList=some (d,p)∧(0<cs.size→∃ t',w.heap[g0]? = some (.cells cs t' (0,0))):=by
 obtain⟨ps,hv,hn,hr⟩:=h
 obtain⟨g,t,cs,fuel,p,k1,k2,k3,k4,k5⟩:=Qlf hv n d hm
 obtain rfl:=Kai (hg.symm.trans k1)
 refine⟨t,cs,fuel,p,k2,k3,k4,fun hpos=>?_⟩
 obtain⟨⟨c,t',hc⟩,_⟩:=hr g0 0 (k5 _ (MemPlace.mem_row.2 ⟨0,hpos,by simp⟩))
 have:=k3
 simp only [World.var?,hg,Option.bind_some,hc,Kaj] at this
 subst this
 exact⟨t',hc⟩
theorem Qxb:(Rows.laid_internal_strconv_uint64pow10:DataW Unit)=Lib.tabData .u64 ((List.range 20).map fun i=>((10 ^ i:Nat):Int)):=by kernel_rfl
theorem und165:Tryz.prog.underlying 177=some (.array 20 22):=by kernel_rfl
theorem cells177:Tryz.prog.cellsOf 177=20:=by kernel_rfl
theorem tPow10:(Tryz.prog.globals[0]?).map (·.type)=some 177:=by kernel_rfl
theorem Qsj:Tryz.prog.globalNamed "strconv.ErrRange" = some 7:=by kernel_rfl
theorem of_laid {laid:List (String × DataW Unit)} {W:World} (h:laidMet Tryz.prog laid W) (h1:("internal/strconv.uint64pow10",Rows.laid_internal_strconv_uint64pow10)∈laid) (h2:("strconv.ErrRange",Rows.laid_strconv_ErrRange)∈laid) :
  8≤W.heap.size∧∃ t,W.heap[0]? = some (.cells ⟨Qbu⟩ t (0,0)):=by
 constructor
 ·obtain⟨t,cs,fuel,p,_,hv,_⟩:=Qvx h h2 Qsj
  simp only [World.var?,Qsj,Option.bind_some] at hv
  split at hv<;>first|(simp at hv;done)|skip
  rename_i hb
  have:=(Array.getElem?_eq_some_iff.1 hb).1
  omega
 ·obtain⟨t,cs,fuel,p,ht,hv,hd,hr⟩:=Qvx h h1 Qrv
  obtain rfl:=Kai (tPow10.symm.trans ht)
  rw [Qxb] at hd
  have hc:=Lib.cells_of_tab und165 Tryz.underlying22 (by kernel_rfl) cells177 hd
  have hc2:cs=⟨Qbu⟩:=by
   apply Array.ext'
   rw [hc,List.map_map]
   rfl
  subst hc2
  exact hr (by simp [Qbu])
theorem pow_abs {W:World} {t:TypeId} (h8:8≤W.heap.size) (h:W.heap[0]? = some (.cells ⟨Qbu⟩ t (0,0))):Qeo (absM W):=by
 refine⟨by show 0<W.heap.size;omega,t,?_⟩
 unfold vw
 rw [Qmh,h]
 show Qi9 false (Qi8 W.heap.size ⟨Qbu⟩ t (0,0))=_
 refine Qim (cs:=Qbu) (by rfl) (by simp [Qi8]) fun i=>?_
 rw [Qjm]
 by_cases hi:i<20
 ·have hl:i<Qbu.length:=by simpa [Qbu] using hi
  rw [show (⟨Qbu⟩:Array Value)[i]? = some Qbu[i] from by simp [hl],Kge hl]
  simp [Qbu,absC]
 ·rw [Array.getElem?_eq_none (by simp [Qbu];omega),List.getElem?_eq_none (by simp [Qbu];omega)];rfl
end Go.Proofs.YtgmkbdmgifdfeaaGreatDoor

set_option maxRecDepth 100000
namespace Go.Proofs.YtgmkbdmgifdfeaaGreatDoor
open Go Go.Ev Go.ChangeShapes Go.WideShapes Go.ChangeAt Go.RowKit Go.ChangeMaps
abbrev Qxn:List (String × DataW Unit):=Rows.scriptBlanksUptoRow.laid
theorem Qsy {W:World} {s:ByteArray} {a w:Int} (h8:8≤W.heap.size) (hE:Qc0 (absM W)) (hP:Qeo (absM W)) (hs:s.data.toList.length≤1048576) (ha:i64R a) (hw:i64R w) :
  Calls Tryz.prog 8 #[.string s,.int .i64 a,.int .i64 w] W fun e w'=>e=.returned (.bool true)∧Below W.heap.size W w':=by
 have hm:=absM_met W (by omega)
 have hc:=Jb5 (m:=absM W) (tx:=s.data.toList) (at':=a) (what:=w) hE hP h8 (by omega) ha hw
 have hc2:=hc.mono (R':=fun out m'=>∃ r,out=.ret r∧r=.bool true) (fun o m' h=>by
  cases o with
  |ret r=>exact⟨r,rfl,h⟩
  |pan ch=>exact h.elim)
 have hv:VRs (Env.globs W.heap.size) [.string ⟨⟨s.data.toList⟩⟩,.int .i64 a,.int .i64 w] [.string s,.int .i64 a,.int .i64 w]:=.cons (.string _) (.cons (.int _ _) (.cons (.int _ _) .nil))
 refine (Qod (pkTb W.heap.size W) hm (fun g hg=>Qmc (by omega)) hv hc2).mono ?_
 rintro e w' ⟨r,r',E',m',rfl,rfl,hr,hM⟩
 cases hr
 exact⟨rfl,hM.base⟩
theorem Jas {n:Int} (h:(Lit.int .i64 n).wf=true):i64R n:=by
 simpa [Lit.wf,IntKind.min,IntKind.max,IntKind.signed,IntKind.bits,i64R] using h
theorem own:ownKnob Tryz.prog.godebug=none:=by kernel_rfl
theorem contract (H:Type) (enc:TypeId × Value→H) (W:World) (base:Nat) (args:Array Value) (ds gs:List (DataW H)) (before:List MemPlace)
  (hval:∀ (j:Nat) t v,Tryz.f8.params[j]? = some t→args[j]? = some v→Value.okWide Tryz.prog W .any base t v)
  (hW:DataW.Whole enc Tryz.prog Tryz.f8.params.toList Rows.scriptBlanksSpec.vars false W args.toList ds gs before) (hk:Rows.uptoSmall H (ds++gs)=true) (hL:laidMet Tryz.prog Qxn W) :
  Calls Tryz.prog 8 args W fun e W'=>∃ v,e=.returned v∧Rows.scriptBlanksSpec.post enc Tryz.prog Tryz.f8 false true false false W args v W':=by
 have hW':=hW
 obtain⟨p,q,hA0,hV,rfl,hfz,hnd⟩:=hW
 have hA:DataW.TrodAll enc Tryz.prog W 0 (fun _=>true) true Tryz.f8.params.toList args.toList ds p:=hA0
 rw [Tryz.params8] at hA hval
 obtain⟨v0,vs0,d0,ds0,p0,q0,hargs,rfl,rfl,h0,r0⟩:=trodAll_cons hA
 obtain⟨v1,vs1,d1,ds1,p1,q1,rfl,rfl,rfl,h1,r1⟩:=trodAll_cons r0
 obtain⟨v2,vs2,d2,ds2,p2,q2,rfl,rfl,rfl,h2,r2⟩:=trodAll_cons r1
 obtain⟨rfl,rfl,rfl⟩:=trodAll_nil r2
 obtain rfl:args = #[v0,v1,v2]:=by cases args;simp_all
 obtain⟨rfl,rfl⟩:=trodVars_none hV
 clear hA0 hA r0 r1 r2
 simp only [List.append_nil] at hW' hk
 obtain⟨s,rfl,rfl,rfl,hs⟩:=open_string Tryz.underlying9 (hval 0 9 v0 (by simp) (by simp)) h0
 obtain⟨a,rfl,rfl,rfl,ha⟩:=open_int Tryz.underlying3 (hval 1 3 v1 (by simp) (by simp)) h1
 obtain⟨w,rfl,rfl,rfl,hw⟩:=open_int Tryz.underlying3 (hval 2 3 v2 (by simp) (by simp)) h2
 have hb:s.data.toList.length≤1048576:=by
  have h:Rows.uptoBulkAll [DataW.lit (H:=H) (.string s.data.toList),.lit (.int .i64 a),.lit (.int .i64 w)]≤1048576:=by simpa [Rows.uptoSmall] using hk
  simp only [Rows.uptoBulkAll,Rows.uptoBulk] at h;omega
 obtain⟨h8,hE⟩:=err_abs hL
 obtain⟨-,tp,htp⟩:=of_laid hL (by simp [Qxn,Rows.scriptBlanksUptoRow]) (by simp [Qxn,Rows.scriptBlanksUptoRow])
 have hm:maxLen=9223372036854775807:=by kernel_rfl
 refine (Qsy h8 hE (pow_abs h8 htp) hb (Jas ha) (Jas hw)).mono fun e W' ⟨he,hb⟩=>?_
 subst he
 refine⟨_,rfl,_,_,_,[],[]++([]++([]++[])),[],hW',trodAll_mk1 (shut_bool Tryz.underlying4 _),?_,rfl,hb.frame _,fun h=>by cases h⟩
 rw [Tryz.params8]
 exact⟨[],[],shut_string Tryz.underlying9 hs,⟨[],[],shut_int Tryz.underlying3 ha,⟨[],[],shut_int Tryz.underlying3 hw,rfl,rfl⟩,rfl⟩,rfl⟩
abbrev Qml:Array Value := #[.string ⟨⟨[]⟩⟩,.int .i64 0,.int .i64 0]
theorem Qgm (os:Os) {H:Type} (enc:TypeId × Value→H):∃ places,DataW.whole enc Tryz.prog ((World.laidAll Tryz.prog os Qxn).forCall (fun _ _=>0) ⟨#[],Qml,[]⟩).memory Tryz.f8.params.toList Rows.scriptBlanksSpec.vars false Qml.toList 8 =
  some ([.lit (.string []),.lit (.int .i64 0),.lit (.int .i64 0)],[],places) :=
 ⟨[],by kernel_rfl⟩
theorem witness (os:Os) (H:Type) (enc:TypeId × Value→H) :
  ∃ (w:World) (tape:Tape) (i:Input),w.os=os∧(w.forCall tape i).Shaped Tryz.prog∧i.vars=[]∧Input.okWide Tryz.prog (w.forCall tape i) .any w.heap.size 8 i ∧
    (Rows.OpenSpec.upto Rows.scriptBlanksSpec).preRow enc Tryz.prog Tryz.f8 Rows.scriptBlanksUptoRow.domain false Rows.scriptBlanksUptoRow.laid (w.forCall tape i).memory i.args∧({}:Assume).holds Tryz.prog (lone (Frame.enter Tryz.prog 8 i.args .normal) [] (w.forCall tape i)):=by
 obtain⟨places,hx⟩:=Qgm os enc
 have hok:Input.okWideB Tryz.prog ((World.laidAll Tryz.prog os Qxn).forCall (fun _ _=>0) ⟨#[],Qml,[]⟩) 8 ⟨#[],Qml,[]⟩=true:=by kernel_rfl
 refine⟨World.laidAll Tryz.prog os Qxn,fun _ _=>0,⟨#[],Qml,[]⟩,World.laidAll_os _ _ _,World.shaped_of_ZipB (by kernel_rfl) (by kernel_rfl),(Input.okWide_of_okWideB (base:=0) hok).1,(Input.okWide_of_okWideB hok).2,?_,?_⟩
 ·exact OpenSpec.preRow_of_cond 8 hx (by kernel_rfl) (fun k hk=>by cases hk;kernel_rfl) (by kernel_rfl) (by rw [MakeChecks.laidMetH_plain _ _ _ (by kernel_rfl)];exact laidMet_laidAll _ (by kernel_rfl) (by kernel_rfl))
 ·simp only [Assume.holds]
  exact⟨by simp,by simp,fun _=>Modest.zero,by simp,by simp⟩
theorem Qxj (os:Os) (started:os.Started) (H:Type) (enc:TypeId × Value→H) (F:Stop.Interp) :
  ReturnsInHanded {} Tryz.checked os 8 .any ((Rows.OpenSpec.upto Rows.scriptBlanksSpec).preRow enc Tryz.prog Tryz.f8 Rows.scriptBlanksUptoRow.domain false Rows.scriptBlanksUptoRow.laid) (((Rows.OpenSpec.upto Rows.scriptBlanksSpec).at F).post enc Tryz.prog Tryz.f8 false true false false):=by
 refine returnsInHanded_of_row (C:=Tryz.checked) (s:=Rows.OpenSpec.upto Rows.scriptBlanksSpec) own started (by kernel_rfl) Tryz.func8 (witness os H enc) ?_
 intro W base args ds gs before hval hW _ hcond _ hL _ _
 rw [MakeChecks.laidMetH_plain _ _ _ (by kernel_rfl)] at hL
 exact contract H enc W base args ds gs before hval hW (hcond _ rfl) hL
theorem saidUpto:Rows.ScriptBlanksUptoSaid :=
 OpenClaim.holds_of_cond 8 Tryz.f8 rfl rfl rfl rfl rfl rfl rfl ⟨rfl,rfl,rfl,rfl,rfl⟩ rfl rfl rfl rfl rfl (by kernel_rfl) Tryz.func8 (by kernel_rfl)
  (of_decide_eq_true (by kernel_rfl)) (by unfold Func.isWrapper;first|(rw [if_pos (by decide +kernel)];kernel_rfl)|(rw [if_neg (by decide +kernel)];exact⟨rfl,rfl⟩))
  (fun os started H enc _ F=>by rw [OpenClaim.pre_eq_preRow];exact Qxj os started H enc F)
theorem scriptBlanks_card:Rows.ScriptBlanksUptoCardSaid :=
 Claim7.holds_tied_plain_at .later [] _ _ _ _ saidUpto (fun _ h=>by cases h) (by kernel_rfl) (fun _ h=>by cases h) scriptBlanksUpto_row_tie rfl ⟨rfl,rfl⟩ (by kernel_rfl) rfl
  (fun f fn hf hfn=>by
   obtain rfl:f=8:=Kai ((show Tryz.prog.funcNamed "halyard/halyardlaw21.ScriptBlanks" = some 8 by kernel_rfl).symm.trans hf) |>.symm
   obtain rfl:fn=Tryz.f8:=(Kai (Tryz.func8.symm.trans hfn)).symm
   exact⟨by kernel_rfl,fun j t ht=>by
    rw [Tryz.params8] at ht
    have hm:=Array.mem_of_getElem? ht
    simp only [List.mem_toArray,List.mem_cons,List.not_mem_nil,or_false] at hm
    rcases hm with rfl|rfl|rfl
    ·exact (show Tryz.prog.wantsStandIn 9=false by kernel_rfl)
    ·exact (show Tryz.prog.wantsStandIn 3=false by kernel_rfl)
    ·exact (show Tryz.prog.wantsStandIn 3=false by kernel_rfl)⟩)
  (by kernel_rfl)
end Go.Proofs.YtgmkbdmgifdfeaaGreatDoor

