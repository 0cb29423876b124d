/- 'halyardlaw21.ScriptOnce' returns true, and its argument reads as it did: of every text, in every world that holds the listed variables of Go's library. The card. -/
import Derived.ChangeMaps5
import Derived.Deep.DeepHandedRow
import Derived.LaidMore
import Derived.Lay
import Derived.Lib.LaidTab
import Derived.ReadAgain
import Derived.SevenTiedAt
import Derived.Stop.Joined
import Derived.Test.YtgmkbdmgifdfeaaGreatDoorCards
import Derived.Test.YtgmkbdmgifdfeaaGreatDoorTie
import Derived.Test.YtgmkbdmgifdfeaaGreatDoorB28
set_option linter.unusedVariables false
set_option linter.unusedSimpArgs false
namespace Go.Proofs.YtgmkbdmgifdfeaaGreatDoor
open Go
theorem num_le {w:List UInt8} {b v:Nat} (h:numOf w b=some v):v≤b:=by
 unfold numOf at h
 split at h
 ·rename_i hc;cases h;exact hc.2.2.2
 ·cases h
theorem int_small {w:List UInt8} {v:Int} (h:intOf w=some v):greatI v=false:=by
 have hg : -2147483648≤v∧v≤2147483647:=by
  unfold intOf at h
  split at h
  ·split at h
   ·rename_i u hu
    have:=num_le hu
    split at h
    ·cases h;omega
    ·cases h
   ·cases h
  ·generalize hu:numOf _ 2147483647=o at h
   cases o with
   |none=>cases h
   |some u =>
    obtain rfl:=Option.some.inj h
    have:=num_le hu
    show -2147483648≤(u:Int)∧(u:Int)≤2147483647
    omega
 simp [greatI];omega
theorem ints_small:∀ {ws:List (List UInt8)} {l:List Int},allInts ws=some l→l.any greatI=false
 | [],l,h=>by cases h;rfl
 |w::ws,l,h=>by
  rw [allInts] at h
  cases hv:intOf w with
  |none=>rw [hv] at h;cases h
  |some v =>
   rw [hv] at h
   cases hr:allInts ws with
   |none=>rw [hr] at h;cases h
   |some r =>
    rw [hr] at h
    obtain rfl:=Option.some.inj h
    rw [List.any_cons,int_small hv,ints_small hr];rfl
theorem way_12 {w:List UInt8} {v:Int} (h:wayOf w=some v):v=1∨v=2:=by
 unfold wayOf at h
 split at h
 ·cases h;exact .inl rfl
 ·split at h
  ·cases h;exact .inr rfl
  ·cases h
structure SetBy (f:Fd) (a b:Stp):Prop where
 put:f.put b a=b
 great:f.great b=false
 way:f=.way→b.way=1∨b.way=2
 kind:b.kind=a.kind
 node:b.node=a.node
 other:∀ g,g≠f→(∀ x,g.put b x=g.put a x)∧g.great b=g.great a
 oway:f≠.way→b.way=a.way
 och:f≠.choices→b.choices=a.choices
theorem map_cases {α β : Type} {x:Option α} {f : α → β} {b : β} (h:x.map f=some b):∃ a,x=some a∧f a=b:=Option.map_eq_some_iff.1 h
theorem read_set {f:Fd} {a b:Stp} {ws ws':List (List UInt8)} (h:f.read a ws=some (b,ws')) (hc:f=.choices→a.choices=[]):SetBy f a b:=by
 cases f
 case choices =>
  obtain⟨l,h1,h2⟩:=map_cases h
  cases h2
  have:=ints_small h1
  refine⟨by simp [Fd.put,hc rfl],by simp only [Fd.great,hc rfl,List.nil_append];exact this,(by simp),rfl,rfl,fun g hg=>?_,fun _=>rfl,fun h=>absurd rfl h⟩
  cases g<;>first|exact absurd rfl hg|exact⟨fun x=>rfl,rfl⟩
 all_goals
  cases ws with
  |nil=>cases h
  |cons w ws =>
   obtain⟨v,h1,h2⟩:=map_cases h
   cases h2
   refine⟨rfl,?_,fun e=>?_,rfl,rfl,fun g hg=>?_,fun h=>?_,fun h=>rfl⟩
   ·first|exact int_small h1|rfl
   ·first|(cases e;done)|exact way_12 h1
   ·cases g<;>first|exact absurd rfl hg|exact⟨fun x=>rfl,rfl⟩
   ·first|rfl|exact absurd rfl h
theorem reads_set:∀ {fs:List Fd} {a s:Stp} {ws ws':List (List UInt8)},readFds fs a ws=some (s,ws')→fs.Pairwise (· ≠ ·)→(Fd.choices∈fs→a.choices=[]) →
  fs.foldl (fun a f=>f.put s a) a=s∧(∀ f∈fs,f.great s=false)∧(Fd.way∈fs→s.way=1∨s.way=2)∧s.kind=a.kind∧s.node=a.node∧(∀ g,g∉fs→(∀ x,g.put s x=g.put a x)∧g.great s=g.great a)∧(Fd.way∉fs→s.way=a.way)
 | [],a,s,ws,ws',h,_,_=>by cases h;simp
 |f::fs,a,s,ws,ws',h,hn,hc=>by
  rw [readFds] at h
  cases hr:f.read a ws with
  |none=>rw [hr] at h;cases h
  |some b =>
   obtain⟨b,ws1⟩:=b
   rw [hr] at h
   simp only at h
   have S:=read_set hr (fun e=>hc (e▸.head _))
   obtain⟨hf,hn2⟩:=List.pairwise_cons.1 hn
   have hnf:f∉fs:=fun hm=>hf f hm rfl
   obtain⟨h1,h2,h3,h4,h5,h6,h7⟩:=reads_set h hn2 (fun hm=>by rw [S.och (hf _ hm)];exact hc (.tail _ hm))
   refine⟨?_,fun g hg=>?_,fun hw=>?_,h4.trans S.kind,h5.trans S.node,fun g hg=>?_,fun hw=>?_⟩
   ·rw [List.foldl_cons,(h6 f hnf).1 a,S.put,h1]
   ·rcases List.mem_cons.1 hg with rfl|hg
    ·rw [(h6 g hnf).2];exact S.great
    ·exact h2 g hg
   ·rcases List.mem_cons.1 hw with e|hw
    ·rw [h7 (by rw [e];exact hnf)];exact S.way e.symm
    ·exact h3 hw
   ·have hg2:g∉fs:=fun hm=>hg (.tail _ hm)
    have hgf:g≠f:=fun e=>hg (e▸.head _)
    exact⟨fun x=>((h6 g hg2).1 x).trans ((S.other g hgf).1 x),(h6 g hg2).2.trans (S.other g hgf).2⟩
   ·rw [h7 fun hm=>hw (.tail _ hm),S.oway fun e=>hw (e▸.head _)]
theorem kind_pair {k:Nat} (h1:1≤k) (h2:k<23):(fieldsOf k).Pairwise (· ≠ ·)∧(9≤k∧k≤12→Fd.way∈fieldsOf k):=by
 have:k=1∨k=2∨k=3∨k=4∨k=5∨k=6∨k=7∨k=8∨k=9∨k=10∨k=11∨k=12∨k=13∨k=14∨k=15∨k=16∨k=17∨k=18∨k=19∨k=20∨k=21∨k=22:=by omega
 rcases this with rfl|rfl|rfl|rfl|rfl|rfl|rfl|rfl|rfl|rfl|rfl|rfl|rfl|rfl|rfl|rfl|rfl|rfl|rfl|rfl|rfl|rfl<;>simp [fieldsOf]
theorem kindOf_lt {w:List UInt8} {k:Nat} (h:kindOf w=some k):1≤k∧k<23:=by
 unfold kindOf at h
 have h1:=List.find?_some h
 have h2:=List.mem_of_find?_eq_some h
 simp only [Bool.and_eq_true,decide_eq_true_eq] at h1
 exact⟨h1.1,List.mem_range.1 h2⟩
theorem stepOf_canon {ws:List (List UInt8)} {s:Stp} (h:stepOf ws=some s):canon s=s∧stepOk s=true∧stepGreat s=false:=by
 unfold stepOf at h
 cases hn:nodeOf ws with
 |none=>rw [hn] at h;cases h
 |some y =>
  obtain⟨n,w,vs⟩:=y
  rw [hn] at h
  simp only at h
  have hn2:n=0∨n=1∨n=2:=by
   unfold nodeOf at hn
   split at hn
   ·cases hn
   ·split at hn
    ·split at hn
     ·cases hn
     ·cases hn
      split
      ·exact .inr (.inl rfl)
      ·exact .inr (.inr rfl)
    ·cases hn;exact .inl rfl
  cases hk:kindOf w with
  |none=>rw [hk] at h;cases h
  |some k =>
   rw [hk] at h
   simp only at h
   obtain⟨k1,k2⟩:=kindOf_lt hk
   split at h
   ·rename_i hb
    split at h
    ·rename_i s' hr
     cases h
     obtain⟨p1,p2⟩:=kind_pair k1 k2
     obtain⟨h1,h2,h3,h4,h5,-,-⟩:=reads_set hr p1 (fun _=>rfl)
     simp only at h4 h5
     have hkn:s.kind.toNat=k:=by omega
     refine⟨?_,?_,?_⟩
     ·unfold canon
      rw [hkn]
      have:({ stp0 with kind:=s.kind,node:=if s.kind=1 then 0 else s.node }:Stp) = { stp0 with kind:=(k:Int),node:=n }:=by
       have hz:(if s.kind=1 then 0 else s.node)=n:=by
        rw [h5]
        split
        ·have:k=1:=by omega
         subst this
         have:¬ 0<n:=by simpa using hb
         omega
        ·rfl
       rw [hz,h4]
      rw [this,h1]
     ·simp only [stepOk,Bool.and_eq_true,Bool.or_eq_true,decide_eq_true_eq,Bool.not_eq_true',decide_eq_false_iff_not,h4,h5]
      refine⟨⟨by omega,?_⟩,?_⟩
      ·by_cases hk1:k=1
       ·exact .inl (.inl (by omega))
       ·have:0<n:=by
         have e:(k != 1)=true:=by simp [hk1]
         rw [e] at hb;simpa using hb.symm
        rcases hn2 with h|h|h
        ·omega
        ·exact .inl (.inr h)
        ·exact .inr h
      ·by_cases hw:9≤k∧k≤12
       ·rcases h3 (p2 hw) with h|h
        ·exact .inl (.inr h)
        ·exact .inr h
       ·exact .inl (.inl (by omega))
     ·unfold stepGreat
      rw [hkn]
      exact List.any_eq_false.2 fun f hf=>by simp [h2 f hf]
    ·cases h
   ·cases h
theorem headOf_small {ws:List (List UInt8)} {x:Stu} (h:headOf ws=some x):headGreat x=false:=by
 unfold headOf at h
 split at h
 ·split at h
  ·cases h
   rename_i h1 h2 h3 h4 h5 h6 h7 h8 h9
   simp only [headGreat,int_small h1,int_small h2,int_small h4,int_small h7,int_small h8,int_small h9,Bool.or_false]
  ·cases h
 ·cases h
theorem line_canon {l:List UInt8}:(∀ s,lineOf l=some (.step s)→canon s=s∧stepOk s=true∧stepGreat s=false)∧(∀ x,lineOf l=some (.head x)→headGreat x=false):=by
 unfold lineOf
 cases splitOf l with
 |none=>exact⟨fun s h=>(by cases h),fun x h=>(by cases h)⟩
 |some ws =>
  cases ws with
  |nil=>exact⟨fun s h=>(by cases h),fun x h=>(by cases h)⟩
  |cons w ws =>
   simp only
   split
   ·refine⟨fun s h=>?_,fun x h=>?_⟩<;>obtain⟨y,h1,h2⟩:=map_cases h<;>cases h2
    exact headOf_small h1
   ·refine⟨fun s h=>?_,fun x h=>?_⟩<;>obtain⟨y,h1,h2⟩:=map_cases h<;>cases h2
    exact stepOf_canon h1
def Said (x:Stu) (l:List Stp):Prop:=headGreat x=false∧∀ s∈l,canon s=s∧stepOk s=true∧stepGreat s=false
theorem go_said:∀ (ls:List (List UInt8)) (s:Scr) (n:Int),Said s.setup s.steps→Said (parseGo s n ls).1 (parseGo s n ls).2.1
 | [],s,n,h=>by
   unfold parseGo
   split
   ·exact h
   ·exact⟨rfl,by simp⟩
 |l::ls,s,n,h=>by
  rw [parseGo]
  cases ht:takeLn s l with
  |none=>exact⟨rfl,by simp⟩
  |some s' =>
   simp only
   refine go_said ls s' (n+1) ?_
   obtain⟨c1,c2⟩:=line_canon (l:=l)
   unfold takeLn at ht
   cases hl:lineOf l with
   |none=>rw [hl] at ht;cases ht
   |some y =>
    rw [hl] at ht
    cases y with
    |nothing=>cases ht;exact h
    |head x =>
     simp only at ht
     split at ht
     ·cases ht
     ·cases ht;exact⟨c2 x hl,h.2⟩
    |step t =>
     simp only at ht
     split at ht
     ·cases ht
      refine⟨h.1,fun u hu=>?_⟩
      rcases List.mem_append.1 hu with hu|hu
      ·exact h.2 u hu
      ·obtain rfl:=List.mem_singleton.1 hu
       exact c1 u hl
     ·cases ht
theorem parse_said (t:List UInt8):Said (parseOut t).1 (parseOut t).2.1:=by
 unfold parseOut
 split
 ·exact⟨rfl,by simp⟩
 ·exact go_said _ _ _ ⟨rfl,by simp⟩
theorem map_canon {x:Stu} {l:List Stp} (h:Said x l):l.map canon=l:=by
 have:l.map canon=l.map id:=List.map_congr_left fun s hs=>(h.2 s hs).1
 rw [this,List.map_id]
theorem print_said {x:Stu} {l:List Stp} (h:Said x l):printOut x l=if 1048576<(printText x l).length then ([],81) else (printText x l,0):=by
 unfold printOut printGreat
 rw [if_pos (List.all_eq_true.2 fun s hs=>(h.2 s hs).2.1),h.1]
 have:l.any stepGreat=false:=List.any_eq_false.2 fun s hs=>by simp [(h.2 s hs).2.2]
 rw [this];rfl
theorem go_bad:∀ (ls:List (List UInt8)) (s:Scr) (n:Int),(parseGo s n ls).2.2.2=0∧(parseGo s n ls).2.2.1=0∨((parseGo s n ls).1=stu0∧(parseGo s n ls).2.1=[]∧(parseGo s n ls).2.2.2=210)
 | [],s,n=>by
   unfold parseGo
   split
   ·exact .inl ⟨rfl,rfl⟩
   ·exact .inr ⟨rfl,rfl,rfl⟩
 |l::ls,s,n=>by
  rw [parseGo]
  cases takeLn s l with
  |none=>exact .inr ⟨rfl,rfl,rfl⟩
  |some s'=>exact go_bad ls s' (n+1)
theorem parse_bad (t:List UInt8):((parseOut t).2.2.2=0∧(parseOut t).2.2.1=0)∨((parseOut t).1=stu0∧(parseOut t).2.1=[]∧((parseOut t).2.2.2=81∨(parseOut t).2.2.2=210)):=by
 unfold parseOut
 split
 ·exact .inr ⟨rfl,rfl,.inl rfl⟩
 ·rcases go_bad (cutLines t) ⟨stu0,[],false⟩ 0 with h|⟨h1,h2,h3⟩
  ·exact .inl h
  ·exact .inr ⟨h1,h2,.inr h3⟩
end Go.Proofs.YtgmkbdmgifdfeaaGreatDoor

namespace Go.Proofs.YtgmkbdmgifdfeaaGreatDoor
open Go
theorem headOf_R {ws:List (List UInt8)} {x:Stu} (h:headOf ws=some x):x.R:=by
 unfold headOf at h
 split at h
 ·split at h
  ·cases h
   rename_i h1 h2 h3 h4 h5 h6 h7 h8 h9
   exact⟨intOf_R h4,longOf_R h5,longOf_R h6,intOf_R h7,intOf_R h8,intOf_R h9,intOf_R h1,intOf_R h2,longOf_R h3⟩
  ·cases h
 ·cases h
theorem stu0_R:stu0.R:=by constructor<;>(constructor<;>decide)
theorem map_le {o:Option (List UInt8)} {f:List UInt8→List UInt8} {v:List UInt8} {a b:Nat} (h:o.map f=some v) (ho:∀ u,o=some u→u.length≤a) (hf:∀ u,(f u).length≤u.length+b):v.length≤a+b:=by
 obtain⟨u,h1,rfl⟩:=map_cases h
 have:=ho u h1
 have:=hf u
 omega
theorem unq_le:∀ (n:Nat) (l v:List UInt8),l.length≤n→unqGo l=some v→v.length≤l.length
 |_,[],v,_,h=>by cases h;simp
 |0,c::r,v,hn,h=>by simp at hn
 |n+1,c::r,v,hn,h=>by
  simp only [List.length_cons] at hn ⊢
  by_cases h1:32≤c.toNat∧c.toNat≤126∧c≠34
  ·by_cases h2:c=92
   ·subst h2
    cases r with
    |nil=>rw [unq_esc0] at h;cases h
    |cons d r2 =>
     simp only [List.length_cons] at hn ⊢
     rw [unq_esc] at h
     have hr:=fun u (hu:unqGo r2=some u)=>unq_le n r2 u (by omega) hu
     split at h
     ·have:=map_le (b:=1) h hr (by simp);omega
     split at h
     ·have:=map_le (b:=1) h hr (by simp);omega
     split at h
     ·have:=map_le (b:=1) h hr (by simp);omega
     split at h
     ·split at h
      ·rename_i a b r3
       simp only [List.length_cons] at hn ⊢
       split at h
       ·have:=map_le (b:=1) h (fun u hu=>unq_le n r3 u (by omega) hu) (by simp);omega
       ·cases h
      ·cases h
     ·cases h
   ·rw [unq_plain r h1 h2] at h
    have:=map_le (b:=1) h (fun u hu=>unq_le n r u (by omega) hu) (by simp);omega
  ·rw [unq_bad r h1] at h;cases h
theorem text_le {w v:List UInt8} (h:textOf w=some v):v.length≤w.length:=by
 unfold textOf at h
 split at h
 ·have:=unq_le _ _ _ (Nat.le_refl _) h
  simp at this;omega
 ·cases h
theorem read_D {B:Nat} {f:Fd} {a b:Stp} {ws ws':List (List UInt8)} (h:f.read a ws=some (b,ws')) (ha:a.data.length≤B) (hw:∀ w∈ws,w.length≤B):b.data.length≤B∧∀ w∈ws',w.length≤B:=by
 cases f
 case choices =>
  obtain⟨l,h1,h2⟩:=map_cases h
  cases h2
  exact⟨ha,by simp⟩
 case data =>
  cases ws with
  |nil=>cases h
  |cons w ws =>
   obtain⟨v,h1,h2⟩:=map_cases h
   cases h2
   exact⟨Nat.le_trans (text_le h1) (hw w (.head _)),fun x hx=>hw x (.tail _ hx)⟩
 all_goals
  cases ws with
  |nil=>cases h
  |cons w ws =>
   obtain⟨v,h1,h2⟩:=map_cases h
   cases h2
   exact⟨ha,fun x hx=>hw x (.tail _ hx)⟩
theorem reads_D {B:Nat}:∀ {fs:List Fd} {a b:Stp} {ws ws':List (List UInt8)},readFds fs a ws=some (b,ws')→a.data.length≤B→(∀ w∈ws,w.length≤B)→b.data.length≤B
 | [],a,b,ws,ws',h,ha,_=>by cases h;exact ha
 |f::fs,a,b,ws,ws',h,ha,hw=>by
  rw [readFds] at h
  cases hr:f.read a ws with
  |none=>rw [hr] at h;cases h
  |some y =>
   rw [hr] at h
   obtain⟨h1,h2⟩:=read_D hr ha hw
   exact reads_D h h1 h2
theorem stepOf_D {B:Nat} {ws:List (List UInt8)} {s:Stp} (h:stepOf ws=some s) (hw:∀ w∈ws,w.length≤B):s.data.length≤B:=by
 unfold stepOf at h
 cases hn:nodeOf ws with
 |none=>rw [hn] at h;cases h
 |some y =>
  obtain⟨n,w,vs⟩:=y
  rw [hn] at h
  simp only at h
  have hv:∀ v∈vs,v∈ws:=by
   unfold nodeOf at hn
   split at hn
   ·cases hn
   ·split at hn
    ·split at hn
     ·cases hn
     ·cases hn;exact fun v hv=>.tail _ (.tail _ hv)
    ·cases hn;exact fun v hv=>.tail _ hv
  split at h
  ·cases h
  ·split at h
   ·split at h
    ·rename_i hr
     cases h
     exact reads_D hr (Nat.zero_le _) fun v h=>hw v (hv v h)
    ·cases h
   ·cases h
theorem line_W {l:List UInt8}:(∀ s,lineOf l=some (.step s)→weight s≤310*(l.length+1))∧∀ x,lineOf l=some (.head x)→x.R:=by
 constructor
 ·intro s h
  obtain⟨h1,h2⟩:=line_R h
  have hne:l≠[]:=by rintro rfl;cases h
  have hd:s.data.length≤l.length:=by
   unfold lineOf at h
   cases hs:splitOf l with
   |none=>rw [hs] at h;cases h
   |some ws =>
    have hl:=(split_len l [] none false false ws l.length hs (by simp) (by simp) (Nat.le_refl _)).2
    rw [hs] at h
    cases ws with
    |nil=>cases h
    |cons w ws =>
     simp only at h
     split at h
     ·obtain⟨y,k1,k2⟩:=map_cases h;cases k2
     ·obtain⟨y,k1,k2⟩:=map_cases h
      cases k2
      exact stepOf_D k1 hl
  have:0<l.length:=by cases l<;>simp at hne ⊢
  unfold weight
  omega
 ·intro x h
  unfold lineOf at h
  split at h
  ·cases h
  ·cases h
  ·split at h
   ·obtain⟨y,k1,k2⟩:=map_cases h
    cases k2
    exact headOf_R k1
   ·obtain⟨y,k1,k2⟩:=map_cases h;cases k2
def lens (ls:List (List UInt8)):Nat:=(ls.map fun l=>l.length+1).sum
theorem cut_lens:∀ t:List UInt8,lens (cutLines t)=t.length+1
 | []=>rfl
 |c::t=>by
  have ih:=cut_lens t
  unfold cutLines
  split
  ·simp only [lens,List.map_cons,List.sum_cons,List.length_nil,List.length_cons] at ih ⊢;omega
  ·split
   ·rename_i x r hc
    rw [hc] at ih
    simp only [lens,List.map_cons,List.sum_cons,List.length_cons] at ih ⊢;omega
   ·rename_i hc;exact absurd hc (cutLines_ne t)
theorem weights_snoc (l:List Stp) (s:Stp):weights (l++[s])=weights l+weight s:=by simp [weights]
theorem go_W:∀ (ls:List (List UInt8)) (s:Scr) (n:Int) (c:Nat),s.setup.R→weights s.steps≤310*c→(parseGo s n ls).1.R∧weights (parseGo s n ls).2.1≤310*(c+lens ls)
 | [],s,n,c,h1,h2=>by
   unfold parseGo
   split
   ·exact⟨h1,by simp only [lens,List.map_nil,List.sum_nil];omega⟩
   ·exact⟨stu0_R,by simp [weights]⟩
 |l::ls,s,n,c,h1,h2=>by
  rw [parseGo]
  obtain⟨w1,w2⟩:=line_W (l:=l)
  cases ht:takeLn s l with
  |none=>exact⟨stu0_R,by simp [weights]⟩
  |some s' =>
   simp only
   have h':s'.setup.R∧weights s'.steps≤310*(c+(l.length+1)):=by
    unfold takeLn at ht
    cases hl:lineOf l with
    |none=>rw [hl] at ht;cases ht
    |some y =>
     rw [hl] at ht
     cases y with
     |nothing=>cases ht;exact⟨h1,by omega⟩
     |head x =>
      simp only at ht
      split at ht
      ·cases ht
      ·cases ht;exact⟨w2 x hl,by show weights s.steps≤_;omega⟩
     |step t =>
      simp only at ht
      split at ht
      ·cases ht
       have:=w1 t hl
       exact⟨h1,by show weights (s.steps++[t])≤_;rw [weights_snoc];omega⟩
      ·cases ht
   obtain⟨g1,g2⟩:=go_W ls s' (n+1) _ h'.1 h'.2
   refine⟨g1,Nat.le_trans g2 ?_⟩
   simp only [lens,List.map_cons,List.sum_cons];omega
theorem parse_W (t:List UInt8):(parseOut t).1.R∧weights (parseOut t).2.1≤330000000:=by
 unfold parseOut
 split
 ·exact⟨stu0_R,by simp [weights]⟩
 ·obtain⟨h1,h2⟩:=go_W (cutLines t) ⟨stu0,[],false⟩ 0 0 stu0_R (by simp [weights])
  rw [cut_lens] at h2
  exact⟨h1,by omega⟩
end Go.Proofs.YtgmkbdmgifdfeaaGreatDoor

set_option maxRecDepth 8000
namespace Go.Proofs.YtgmkbdmgifdfeaaGreatDoor
open Go Go.Ev
theorem box_stu (m1:Mem) (x:Stu):∃ m2,m2=stM (newObjA m1 (zeroObj 26 9 [Value.int IntKind.i64 0,Value.int IntKind.u64 0,Value.int IntKind.u64 0,Value.int IntKind.i64 0,Value.int IntKind.i64 0,Value.int IntKind.i64 0,Value.int IntKind.i64 0,Value.int IntKind.i64 0,Value.int IntKind.u64 0])) m1.next 0 [Value.int IntKind.i64 x.mtu,Value.int IntKind.u64 x.ack,Value.int IntKind.u64 x.retry,Value.int IntKind.i64 x.retries,Value.int IntKind.i64 x.window,Value.int IntKind.i64 x.inbox,Value.int IntKind.i64 x.sectors,Value.int IntKind.i64 x.room,Value.int IntKind.u64 x.start] ∧
  m2.next=m1.next+1∧vw m2 m1.next=some ⟨true,26,false,[Value.int IntKind.i64 x.mtu,Value.int IntKind.u64 x.ack,Value.int IntKind.u64 x.retry,Value.int IntKind.i64 x.retries,Value.int IntKind.i64 x.window,Value.int IntKind.i64 x.inbox,Value.int IntKind.i64 x.sectors,Value.int IntKind.i64 x.room,Value.int IntKind.u64 x.start]⟩∧(∀ y,y<m1.next→m2.objs.get y=m1.objs.get y)∧Old m1.next m1 m2:=by
 obtain⟨m2,h1,h2,h3,h4⟩:=alloc_st' m1 26 9 [Value.int IntKind.i64 0,Value.int IntKind.u64 0,Value.int IntKind.u64 0,Value.int IntKind.i64 0,Value.int IntKind.i64 0,Value.int IntKind.i64 0,Value.int IntKind.i64 0,Value.int IntKind.i64 0,Value.int IntKind.u64 0] [Value.int IntKind.i64 x.mtu,Value.int IntKind.u64 x.ack,Value.int IntKind.u64 x.retry,Value.int IntKind.i64 x.retries,Value.int IntKind.i64 x.window,Value.int IntKind.i64 x.inbox,Value.int IntKind.i64 x.sectors,Value.int IntKind.i64 x.room,Value.int IntKind.u64 x.start] rfl rfl rfl
 exact⟨m2,h1,h2,h3,h4,by omega,h4⟩
def knowsT:List UInt8:=[119,111,114,108,100,32,50,53,54,32,49,54,32,49,48,48,32,54,52,32,49,48,32,50,48,32,50,32,50,32,52,10,10,49,32,99,114,97,115,104,32,49,32,45,50,10,35,32,101,110,100]
def knowsU:List UInt8:=[119,111,114,108,100,32,50,53,54,32,49,54,32,49,48,48,32,54,52,32,49,48,32,50,48,32,50,32,50,32,52,10,49,32,99,114,97,115,104,32,49,32,45,50,10]
def knowsX:Stu:=⟨64,10,20,2,2,4,256,16,100⟩
def knowsS:Stp := { stp0 with kind:=14,node:=1,choices:=[1,-2] }
theorem knows_parse:parseOut knowsT=(knowsX,[knowsS],0,0):=by kernel_rfl
theorem knows_print:printOut knowsX [knowsS]=(knowsU,0):=by
 have h:printText knowsX [knowsS]=knowsU:=by decide +kernel
 unfold printOut
 rw [if_pos (by decide +kernel),if_neg (by decide +kernel),h,if_neg (by decide)]
end Go.Proofs.YtgmkbdmgifdfeaaGreatDoor

set_option maxRecDepth 8000
namespace Go.Proofs.YtgmkbdmgifdfeaaGreatDoor
open Go Go.Ev
theorem steps_one {n0:Nat} {m:Mem} {v:Value} {s:Stp} (h:StepsAt n0 m v [s]):∃ b d c,v=.slice (some ⟨b,0,none⟩) 1 1∧b<m.next∧vw m b=some ⟨true,36,true,stpCells s d c⟩∧Own n0 m d 5 s.data.length (u8s s.data)∧Own n0 m c 3 s.choices.length (i64s s.choices):=by
 obtain⟨cells,h1,h2,h3⟩:=h
 obtain⟨d,c,h4,h5,h6⟩:=h3 0 s rfl
 rcases h1 with ⟨_,h,_⟩|⟨b,rfl,hb0,hb,hv⟩
 ·cases h
 ·have:cells=stpCells s d c:=by
   rw [← h4];unfold takeN
   rw [Nat.zero_mul,List.drop_zero,List.take_of_length_le (by simp at h2;omega)]
  rw [this] at hv
  exact⟨b,d,c,rfl,hb,hv,h5,h6⟩
theorem own_two {n0:Nat} {m:Mem} {v:Value} {a b:Int} (h:Own n0 m v 3 2 (i64s [a,b])):∃ p,v=.slice (some ⟨p,0,none⟩) 2 2∧p<m.next∧vw m p=some ⟨true,3,true,[.int .i64 a,.int .i64 b]⟩:=by
 rcases h with ⟨_,h,_⟩|⟨p,rfl,h0,h1,h2⟩
 ·cases h
 ·exact⟨p,rfl,h1,h2⟩
theorem knows_ok {m:Mem} (hE:ErrAt m) (hP:PowAt m) (hm8:8≤m.next):CallsA tb 21 [] m (retR fun r m'=>r=.bool true∧Old m.next m m'):=by
 refine callsS Tryz.func21 e21 rfl rfl ?_
 simp only [s21,List.replicate,List.length_cons,List.length_nil,List.cons_append,List.nil_append,Nat.reduceAdd,Nat.reduceSub]
 refine xsr fun Q' hQ=>?_
 simp
 subst hQ
 refine xsr fun Q' hQ=>?_
 simp
 refine xcall (ov_none (by decide)) (parse_ok (tx:=knowsT) hE (by decide)) ?_ (fun ch m' h=>h.elim)
 rintro r m1 ⟨v1,rfl,hs1,hO1⟩
 rw [knows_parse] at hs1 ⊢
 simp only at hs1 ⊢
 simp only [stuCells']
 simp [stOk,oneC]
 subst hQ
 obtain⟨m2,hm2,hn2,hv2,hg2,hO2⟩:=box_stu m1 knowsX
 obtain⟨q1,hq1⟩:∃ q1,q1=m1.next:=⟨_,rfl⟩
 rw [← hm2,← hq1]
 rw [← hq1] at hn2 hv2 hg2
 clear hm2
 have hs2:StepsAt m.next m2 v1 [knowsS]:=hs1.ex (by omega) fun y V hy _ _ _=>hg2 y (by omega)
 have hO12:Old m.next m m2:=hO1.trans (hO2.le hO1.1)
 obtain⟨b,d,c,rfl,hb,hvb,hd,hc⟩:=steps_one hs2
 refine xseq (xseq (xregQ fun Q' hQ=>?_))
 simp
 refine xcall (ov_none (by decide)) (num_ok m2 0) ?_ (fun ch m' h=>h.elim)
 rintro r m3 ⟨rfl,rfl⟩
 obtain⟨p,rfl,hp,hvp⟩:=own_two hc
 simp only [knowsX] at hv2
 simp only [knowsS,stp0,stpCells] at hvb
 simp [hv2,hvb,hvp]
 subst hQ
 refine xno rfl (xskip ?_)
 refine xsr fun Q' hQ=>?_
 simp [hv2]
 refine xcall (ov_none (by decide)) (print_ok (m:=m3) (x:=knowsX) (ss:=[knowsS]) (by have:=hO12.1;omega) (hP.old hO12 (by omega)) (by rw [show knowsX=(parseOut knowsT).1 by rw [knows_parse]];exact (parse_W knowsT).1) (steps_old hs2 (fun s hs=>((parse_R knowsT).1 s (by rw [knows_parse];exact hs)).1)) (by decide)) ?_ (fun ch m' h=>h.elim)
 rintro r m4 ⟨rfl,hO4⟩
 rw [knows_print]
 simp
 subst hQ
 refine xsr fun Q' hQ=>?_
 simp
 refine xcall (ov_none (by decide)) (num_ok m4 0) ?_ (fun ch m' h=>h.elim)
 rintro r m5 ⟨rfl,rfl⟩
 simp [knowsU]
 subst hQ
 exact xret ⟨rfl,_,resX_one _,rfl,hO12.trans (hO4.le hO12.1)⟩
end Go.Proofs.YtgmkbdmgifdfeaaGreatDoor

set_option maxRecDepth 8000
namespace Go.Proofs.YtgmkbdmgifdfeaaGreatDoor
open Go Go.Ev
theorem once_ok {m:Mem} {tx:List UInt8} (hE:ErrAt m) (hP:PowAt m) (hm8:8≤m.next) (hlen:tx.length≤9223372036854775807):CallsA tb 7 [.string ⟨⟨tx⟩⟩] m (retR fun r m'=>r=.bool true):=by
 refine callsS Tryz.func7 e7 rfl rfl ?_
 simp only [s7,List.replicate,List.length_cons,List.length_nil,List.cons_append,List.nil_append,Nat.reduceAdd,Nat.reduceSub]
 obtain⟨hR,hln⟩:=parse_R tx
 obtain⟨hxR,hW⟩:=parse_W tx
 have hS:=parse_said tx
 have hB:=parse_bad tx
 obtain⟨x,ss,n,e,hpo⟩:∃ x ss n e,parseOut tx=(x,ss,n,e):=⟨_,_,_,_,rfl⟩
 rw [hpo] at hR hln hxR hW hS hB
 simp only at hR hln hxR hW hS hB
 refine xsr fun Q' hQ=>?_
 simp
 subst hQ
 refine xsr fun Q' hQ=>?_
 simp
 refine xcall (ov_none (by decide)) (parse_ok hE hlen) ?_ (fun ch m' h=>h.elim)
 rintro r m1 ⟨v1,rfl,hs1,hO1⟩
 rw [hpo] at hs1 ⊢
 simp only at hs1 ⊢
 simp only [stuCells']
 simp [stOk,oneC]
 subst hQ
 obtain⟨m2,hm2,hn2,hv2,hg2,hO2⟩:=box_stu m1 x
 obtain⟨q1,hq1⟩:∃ q1,q1=m1.next:=⟨_,rfl⟩
 rw [← hm2,← hq1]
 rw [← hq1] at hn2 hv2 hg2
 clear hm2
 have hs2:StepsAt m.next m2 v1 ss:=hs1.ex (by omega) fun y V hy _ _ _=>hg2 y (by omega)
 have hO12:Old m.next m m2:=hO1.trans (hO2.le hO1.1)
 have hE2:ErrAt m2:=hE.old hO12 (by omega)
 have hP2:PowAt m2:=hP.old hO12 (by omega)
 have h82:8≤m2.next:=by have:=hO12.1;omega
 obtain⟨a1,rfl⟩:=hs2.shape
 refine xseq (xseq (xregQ fun Q' hQ=>?_))
 simp
 refine xcall (ov_none (by decide)) (num_ok m2 e) ?_ (fun ch m' h=>h.elim)
 rintro r m3 ⟨rfl,rfl⟩
 simp
 subst hQ
 refine xif (v:=!decide (e=0)) (by simp) (fun he=>?_) (fun he=>xskip ?_)
 ·
  have he':e≠0:=by simpa using he
  obtain⟨rfl,rfl⟩:x=stu0∧ss=[]:=by
   rcases hB with h|h
   ·exact absurd h.1 he'
   ·exact⟨h.1,h.2.1⟩
  refine xsr fun Q' hQ=>?_
  have hb:=fun x y=>b_eql26 m3 x y stu0
  simp only [stu0] at hv2 hb
  simp [hv2,hb]
  refine xcall (ov_none (by decide)) (knows_ok hE2 hP2 h82) ?_ (fun ch m' h=>h.elim)
  rintro r m4 ⟨rfl,hO4⟩
  subst hQ
  exact xret ⟨rfl,_,resX_one _,rfl⟩
 have he':e=0:=by simpa using he
 subst he'
 have hRR:∀ s∈ss,s.R:=fun s hs=>(hR s hs).1
 refine xsr fun Q' hQ=>?_
 simp [hv2]
 refine xcall (ov_none (by decide)) (print_ok (m:=m3) (x:=x) (ss:=ss) h82 hP2 hxR (steps_old hs2 hRR) (by omega)) ?_ (fun ch m' h=>h.elim)
 rintro r m4 ⟨rfl,hO4⟩
 have hE4:ErrAt m4:=hE2.old hO4 (by omega)
 have hP4:PowAt m4:=hP2.old hO4 (by omega)
 have h84:8≤m4.next:=by have:=hO4.1;omega
 have hv4:=hO4.vw (show q1<m3.next by omega)▸hv2
 have hs4:StepsAt m.next m4 (.slice a1 ss.length ss.length) ss:=hs2.ex hO4.1 fun y V hy _ _ _=>hO4.2 y hy
 rw [print_said hS]
 by_cases hbig:1048576<(printText x ss).length
 ·rw [if_pos hbig]
  simp
  subst hQ
  refine xseq (xseq (xregQ fun Q' hQ=>?_))
  simp
  refine xcall (ov_none (by decide)) (num_ok m4 81) ?_ (fun ch m' h=>h.elim)
  rintro r m5 ⟨rfl,rfl⟩
  simp
  subst hQ
  refine xyes rfl ?_
  refine xsr fun Q' hQ=>?_
  simp
  refine xcall (ov_none (by decide)) (num_ok m5 81) ?_ (fun ch m' h=>h.elim)
  rintro r m6 ⟨rfl,rfl⟩
  simp
  refine xcall (ov_none (by decide)) (knows_ok hE4 hP4 h84) ?_ (fun ch m' h=>h.elim)
  rintro r m7 ⟨rfl,hO7⟩
  subst hQ
  exact xret ⟨rfl,_,resX_one _,rfl⟩
 have hpp:=parse_print hxR hRR (t:=printText x ss) (by rw [print_said hS,if_neg hbig])
 obtain⟨-,-,hpo2,-,-⟩:=hpp
 rw [map_canon hS] at hpo2
 rw [if_neg hbig]
 simp
 subst hQ
 refine xseq (xseq (xregQ fun Q' hQ=>?_))
 simp
 refine xcall (ov_none (by decide)) (num_ok m4 0) ?_ (fun ch m' h=>h.elim)
 rintro r m5 ⟨rfl,rfl⟩
 simp
 subst hQ
 refine xno rfl (xskip ?_)
 refine xsr fun Q' hQ=>?_
 simp
 refine xcall (ov_none (by decide)) (parse_ok hE4 (tx:=printText x ss) (by omega)) ?_ (fun ch m' h=>h.elim)
 rintro r m6 ⟨v2,rfl,hs6,hO6⟩
 rw [hpo2] at hs6 ⊢
 simp only at hs6 ⊢
 simp only [stuCells']
 simp [stOk,oneC]
 subst hQ
 obtain⟨m7,hm7,hn7,hv7,hg7,hO7⟩:=box_stu m6 x
 obtain⟨q2,hq2⟩:∃ q2,q2=m6.next:=⟨_,rfl⟩
 rw [← hm7,← hq2]
 rw [← hq2] at hn7 hv7 hg7
 clear hm7
 have hO57:Old m5.next m5 m7:=hO6.trans (hO7.le hO6.1)
 have hs72:StepsAt m5.next m7 v2 ss:=hs6.ex (by omega) fun y V hy _ _ _=>hg7 y (by omega)
 have hs71:StepsAt m.next m7 (.slice a1 ss.length ss.length) ss:=hs4.ex hO57.1 fun y V hy _ _ _=>hO57.2 y hy
 have hv71:=hO57.vw (show q1<m5.next by have:=hO4.1;omega)▸hv4
 obtain⟨a2,rfl⟩:=hs72.shape
 refine xsr fun Q' hQ=>?_
 simp
 refine xcall (ov_none (by decide)) (num_ok m7 0) ?_ (fun ch m' h=>h.elim)
 rintro r m8 ⟨rfl,rfl⟩
 simp [hv71,hv7,b_eql26]
 refine xcall (ov_none (by decide)) (sameSteps2 (steps_old hs71 hRR) (steps_old hs72 hRR) hln (fun s hs=>(hR s hs).2)) ?_ (fun ch m' h=>h.elim)
 rintro r m9 ⟨rfl,hO9⟩
 simp
 refine xcall (ov_none (by decide)) (knows_ok ((hE4.old hO57 (by omega)).old hO9 (by have:=hO57.1;omega)) ((hP4.old hO57 (by omega)).old hO9 (by have:=hO57.1;omega)) (by have:=hO57.1;have:=hO9.1;omega)) ?_ (fun ch m' h=>h.elim)
 rintro r m10 ⟨rfl,hO10⟩
 subst hQ
 exact xret ⟨rfl,_,resX_one _,rfl⟩
end Go.Proofs.YtgmkbdmgifdfeaaGreatDoor

set_option maxRecDepth 100000
namespace Go.Proofs.YtgmkbdmgifdfeaaGreatDoor
open Go Go.Ev Go.RowKit
theorem laidVars_row {P:Program} {w:World}:∀ {l:List (String × DataW Unit)} {ps:List MemPlace},DataW.LaidVars P w l ps→∀ n d,(n,d)∈l →
  ∃ g t cs fuel p,P.globalNamed n=some g∧(P.globals[g]?).map (·.type)=some t∧w.var? P n=some cs∧DataW.trod (fun _=>()) P w 0 (fun _=>true) false fuel t cs.toList=some (d,p)∧∀ x∈MemPlace.row ⟨g,0,none⟩ cs.size,x∈ps
 | [],_,_,_,_,hm=>by cases hm
 | (n',d')::r,ps,h,n,d,hm=>by
   obtain⟨g,t,cs,fuel,p,q,h1,h2,h3,h4,h5,h6⟩:=h
   rcases List.mem_cons.1 hm with e|e
   ·cases e
    exact⟨g,t,cs,fuel,p,h1,h2,h3,h4,fun x hx=>by rw [h6];simp [hx]⟩
   ·obtain⟨g',t',cs',fuel',p',k1,k2,k3,k4,k5⟩:=laidVars_row h5 n d e
    exact⟨g',t',cs',fuel',p',k1,k2,k3,k4,fun x hx=>by rw [h6];simp [k5 x hx]⟩
theorem laid_row {P:Program} {w:World} {l:List (String × DataW Unit)} (h:laidMet P l w) {n:String} {d:DataW Unit} (hm:(n,d)∈l) {g0:Nat} (hg:P.globalNamed n=some g0) :
  ∃ t cs fuel p,(P.globals[g0]?).map (·.type)=some t∧w.var? P n=some cs∧DataW.trod (fun _=>()) P w 0 (fun _=>true) false fuel t cs.toList=some (d,p)∧(0<cs.size→∃ t',w.heap[g0]? = some (.cells cs t' (0,0))):=by
 obtain⟨ps,hv,hn,hr⟩:=h
 obtain⟨g,t,cs,fuel,p,k1,k2,k3,k4,k5⟩:=laidVars_row hv n d hm
 obtain rfl:=Option.some.inj (hg.symm.trans k1)
 refine⟨t,cs,fuel,p,k2,k3,k4,fun hpos=>?_⟩
 obtain⟨⟨c,t',hc⟩,_⟩:=hr g0 0 (k5 _ (MemPlace.mem_row.2 ⟨0,hpos,by simp⟩))
 have:=k3
 simp only [World.var?,hg,Option.bind_some,hc,Option.some.injEq] at this
 subst this
 exact⟨t',hc⟩
theorem pow10_data:(Rows.laid_internal_strconv_uint64pow10:DataW Unit)=Lib.tabData .u64 ((List.range 20).map fun i=>((10 ^ i:Nat):Int)):=by kernel_rfl
theorem und165:Tryz.prog.underlying 177=some (.array 20 22):=by kernel_rfl
theorem cells177:Tryz.prog.cellsOf 177=20:=by kernel_rfl
theorem tPow10:(Tryz.prog.globals[0]?).map (·.type)=some 177:=by kernel_rfl
theorem gErrRange:Tryz.prog.globalNamed "strconv.ErrRange" = some 7:=by kernel_rfl
theorem of_laid {laid:List (String × DataW Unit)} {W:World} (h:laidMet Tryz.prog laid W) (h1:("internal/strconv.uint64pow10",Rows.laid_internal_strconv_uint64pow10)∈laid) (h2:("strconv.ErrRange",Rows.laid_strconv_ErrRange)∈laid) :
  8≤W.heap.size∧∃ t,W.heap[0]? = some (.cells ⟨pow10Cells⟩ t (0,0)):=by
 constructor
 ·obtain⟨t,cs,fuel,p,_,hv,_⟩:=laid_row h h2 gErrRange
  simp only [World.var?,gErrRange,Option.bind_some] at hv
  split at hv<;>first|(simp at hv;done)|skip
  rename_i hb
  have:=(Array.getElem?_eq_some_iff.1 hb).1
  omega
 ·obtain⟨t,cs,fuel,p,ht,hv,hd,hr⟩:=laid_row h h1 pow_gName
  obtain rfl:=Option.some.inj (tPow10.symm.trans ht)
  rw [pow10_data] at hd
  have hc:=Lib.cells_of_tab und165 Tryz.underlying22 (by kernel_rfl) cells177 hd
  have hc2:cs=⟨pow10Cells⟩:=by
   apply Array.ext'
   rw [hc,List.map_map]
   rfl
  subst hc2
  exact hr (by simp [pow10Cells])
theorem pow_abs {W:World} {t:TypeId} (h8:8≤W.heap.size) (h:W.heap[0]? = some (.cells ⟨pow10Cells⟩ t (0,0))):PowAt (absM W):=by
 refine⟨by show 0<W.heap.size;omega,t,?_⟩
 unfold vw
 rw [absM_get,h]
 show vwRow false (absRow W.heap.size ⟨pow10Cells⟩ t (0,0))=_
 refine vwRow_of (cs:=pow10Cells) (by rfl) (by simp [absRow]) fun i=>?_
 rw [absRow_cell]
 by_cases hi:i<20
 ·have hl:i<pow10Cells.length:=by simpa [pow10Cells] using hi
  rw [show (⟨pow10Cells⟩:Array Value)[i]? = some pow10Cells[i] from by simp [hl],List.getElem?_eq_getElem hl]
  simp [pow10Cells,absC]
 ·rw [Array.getElem?_eq_none (by simp [pow10Cells];omega),List.getElem?_eq_none (by simp [pow10Cells];omega)];rfl
end Go.Proofs.YtgmkbdmgifdfeaaGreatDoor

set_option maxRecDepth 100000
namespace Go.Proofs.YtgmkbdmgifdfeaaGreatDoor
open Go Go.Ev Go.ChangeShapes Go.WideShapes Go.ChangeAt Go.RowKit Go.ChangeMaps
abbrev laidOnce:List (String × DataW Unit):=Rows.scriptOnceRow.laid
theorem once_calls {W:World} {s:ByteArray} (h8:8≤W.heap.size) (hE:ErrAt (absM W)) (hP:PowAt (absM W)) (hs:s.data.toList.length≤9223372036854775807) :
  Calls Tryz.prog 7 #[.string s] W fun e w'=>e=.returned (.bool true)∧Below W.heap.size W w':=by
 have hm:=absM_met W (by omega)
 have hc:=once_ok (m:=absM W) (tx:=s.data.toList) hE hP h8 hs
 have hc2:=hc.mono (R':=fun out m'=>∃ r,out=.ret r∧r=.bool true) (fun o m' h=>by
  cases o with
  |ret r=>exact⟨r,rfl,h⟩
  |pan ch=>exact h.elim)
 have ha:VRs (Env.globs W.heap.size) [.string ⟨⟨s.data.toList⟩⟩] [.string s]:=.cons (.string _) .nil
 refine (calls_of_callsA (pkTb W.heap.size W) hm (fun g hg=>globs_at (by omega)) ha hc2).mono ?_
 rintro e w' ⟨r,r',E',m',rfl,rfl,hr,hM⟩
 cases hr
 exact⟨rfl,hM.base⟩
theorem own:ownKnob Tryz.prog.godebug=none:=by kernel_rfl
theorem lifted (os:Os) (started:os.Started) (H:Type) (enc:TypeId × Value→H) :
  ReturnsInHanded {} Tryz.checked os 7 .any (fun w args=>(Rows.scriptOnceSpec.pre enc Tryz.prog Tryz.f7 [] false w args∧laidMetH Tryz.prog laidOnce w)∧sizedMet enc Tryz.prog Tryz.f7 (OpenSpec.ofChange Rows.scriptOnceSpec) false w args)
   (Rows.scriptOnceSpec.post enc Tryz.prog Tryz.f7 false true false false):=by
 refine returnsInHanded_of_change_and (C:=Tryz.checked) (X:=fun w _=>laidMetH Tryz.prog laidOnce w) (fun _ _ _ hh h=>h.of_heap hh) own started (by kernel_rfl) Tryz.func7
  (ChangeSpec.witness_shaped (enc:=enc) (C:=Tryz.checked) (os:=os) (X:=fun w _=>laidMetH Tryz.prog laidOnce w) false (World.laidAll Tryz.prog os laidOnce) #[.string ⟨⟨[]⟩⟩] 8 (World.laidAll_os _ _ _)
   (World.shaped_of_ZipB (by kernel_rfl) (by kernel_rfl)) (by kernel_rfl) (by kernel_rfl) (by kernel_rfl)
   (by rw [MakeChecks.laidMetH_plain _ _ _ (by kernel_rfl)];exact laidMet_laidAll _ (by kernel_rfl) (by kernel_rfl))) ?_
 intro W base args ds gs before hval hW _ _ hL _
 rw [MakeChecks.laidMetH_plain _ _ _ (by kernel_rfl)] at hL
 have hW':=hW
 obtain⟨p,q,hA0,hV,rfl,hfz,hnd⟩:=hW
 have hA:DataW.TrodAll enc Tryz.prog W 0 (fun _=>true) true Tryz.f7.params.toList args.toList ds p:=hA0
 rw [Tryz.params7] at hA hval
 obtain⟨v0,vs0,d0,ds0,p0,q0,hargs,rfl,rfl,h0,r0⟩:=trodAll_cons hA
 obtain⟨rfl,rfl,rfl⟩:=trodAll_nil r0
 obtain rfl:args = #[v0]:=by cases args;simp_all
 obtain⟨rfl,rfl⟩:=trodVars_none hV
 clear hA0 hA r0
 simp only [List.append_nil] at hW'
 obtain⟨s,rfl,rfl,rfl,hs⟩:=open_string Tryz.underlying9 (hval 0 9 v0 (by simp) (by simp)) h0
 obtain⟨h8,hE⟩:=err_abs hL
 obtain⟨-,tp,htp⟩:=of_laid hL (by simp [laidOnce,Rows.scriptOnceRow]) (by simp [laidOnce,Rows.scriptOnceRow])
 have hP:=pow_abs h8 htp
 have hm:maxLen=9223372036854775807:=by kernel_rfl
 rw [hm] at hs
 have hsz:s.data.toList.length=s.size:=Array.length_toList
 refine (once_calls h8 hE hP (by rw [hsz];exact hs)).mono fun e W' ⟨he,hb⟩=>?_
 subst he
 refine⟨_,rfl,_,_,_,[],[]++[],[],hW',trodAll_mk1 (shut_bool Tryz.underlying4 _),?_,rfl,hb.frame _,fun h=>by cases h⟩
 rw [Tryz.params7]
 exact⟨[],[],shut_string Tryz.underlying9 (by rw [hm];exact hs),rfl,rfl⟩
theorem scriptOnce_holds:Rows.ScriptOnceSaid :=
 OpenClaim.holds_of_wide 7 Tryz.f7 rfl rfl rfl rfl rfl rfl rfl ⟨rfl,rfl,rfl,rfl,rfl⟩ rfl rfl rfl rfl rfl (by kernel_rfl) Tryz.func7 (by kernel_rfl)
  (of_decide_eq_true (by kernel_rfl)) (by unfold Func.isWrapper;first|(rw [if_pos (by decide +kernel)];kernel_rfl)|(rw [if_neg (by decide +kernel)];exact⟨rfl,rfl⟩))
  (fun os started H enc _=>lifted os started H enc)
theorem scriptOnce_card:Rows.ScriptOnceCardSaid :=
 Claim7.holds_tied_plain_at .later [] _ _ _ _ scriptOnce_holds (fun _ h=>by cases h) (by kernel_rfl) (fun _ h=>by cases h) scriptOnce_row_tie rfl ⟨rfl,rfl⟩ (by kernel_rfl) rfl
  (fun f fn hf hfn=>by
   obtain rfl:f=7:=Option.some.inj ((show Tryz.prog.funcNamed "halyard/halyardlaw21.ScriptOnce" = some 7 by kernel_rfl).symm.trans hf) |>.symm
   obtain rfl:fn=Tryz.f7:=(Option.some.inj (Tryz.func7.symm.trans hfn)).symm
   exact⟨by kernel_rfl,fun j t ht=>by
    rw [Tryz.params7] at ht
    have hm:=Array.mem_of_getElem? ht
    simp only [List.mem_toArray,List.mem_cons,List.not_mem_nil,or_false] at hm
    subst hm
    exact (show Tryz.prog.wantsStandIn 9=false by kernel_rfl)⟩)
  (by kernel_rfl)
end Go.Proofs.YtgmkbdmgifdfeaaGreatDoor

