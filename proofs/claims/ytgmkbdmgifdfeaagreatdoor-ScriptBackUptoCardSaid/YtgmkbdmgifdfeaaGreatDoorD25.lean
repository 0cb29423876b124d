/- A part of a proof: ScriptBack. -/
import Derived.LaidMore
import Derived.Lay
import Derived.Lib.LaidTab
import Derived.Stop.Joined
import Derived.Test.YtgmkbdmgifdfeaaGreatDoorD24
set_option linter.unusedVariables false
set_option linter.unusedSimpArgs false
namespace Go.Proofs.YtgmkbdmgifdfeaaGreatDoor
open Go
theorem Qkg {d:Nat} (h:d<10):(UInt8.ofNat (48+d)).toNat=48+d:=by
 rw [UInt8.toNat_ofNat'];omega
theorem Qik (u:Nat):(Lib.decDigits u).all Qkd=true:=by
 induction u using Nat.strongRecOn with
 |_ u ih =>
  by_cases h:u<10
  ·rw [Lib.decDigits,dif_pos h]
   simp only [List.all_cons,List.all_nil,Bool.and_true,Qkd,Qkg h,decide_eq_true_eq];omega
  ·rw [Lib.decDigits,dif_neg h,List.all_append,ih (u / 10) (by omega)]
   simp only [List.all_cons,List.all_nil,Bool.and_true,Qkd,Qkg (show u%10<10 by omega),Bool.true_and,decide_eq_true_eq];omega
theorem Jbo (u:Nat):Qjb (Lib.decDigits u)=u:=by
 induction u using Nat.strongRecOn with
 |_ u ih =>
  by_cases h:u<10
  ·rw [Lib.decDigits,dif_pos h]
   simp only [Qjb,List.foldl_cons,List.foldl_nil,Qkg h];omega
  ·rw [Lib.decDigits,dif_neg h]
   have:=ih (u / 10) (by omega)
   unfold Qjb at this ⊢
   rw [List.foldl_append,this]
   simp only [List.foldl_cons,List.foldl_nil,Qkg (show u%10<10 by omega)];omega
theorem Qls (u:Nat):Lib.decDigits u≠[]:=by
 rw [Lib.decDigits];split<;>simp
theorem dec_head (u:Nat):Lib.decDigits u=[48]∨(Lib.decDigits u).head? ≠ some 48:=by
 induction u using Nat.strongRecOn with
 |_ u ih =>
  by_cases h:u<10
  ·rw [Lib.decDigits,dif_pos h]
   by_cases h0:u=0
   ·subst h0;exact .inl rfl
   ·refine .inr fun e=>h0 ?_
    simp only [List.head?_cons,Kaj] at e
    have:=congrArg UInt8.toNat e
    rw [Qkg h] at this
    simp at this;exact this
  ·rw [Lib.decDigits,dif_neg h]
   refine .inr fun e=>?_
   have hn:=Qls (u / 10)
   rw [List.head?_append] at e
   have e:(Lib.decDigits (u / 10)).head? = some 48:=by
    cases hd:Lib.decDigits (u / 10) with
    |nil=>exact absurd hd hn
    |cons a r=>rw [hd] at e;simpa using e
   rcases ih (u / 10) (by omega) with h1|h1
   ·have h2:=Jbo (u / 10)
    rw [h1] at h2
    simp [Qjb] at h2
    omega
   ·exact h1 e
theorem Qqk {u b:Nat} (h:u≤b):Qel (Lib.decDigits u) b=some u:=by
 unfold Qel
 rw [Jbo,if_pos ⟨Qls u,Qik u,dec_head u,h⟩]
theorem Qwb {c:UInt8} (h:Qkd c=true):c≠45∧c≠34∧c≠35∧c≠32∧c≠9∧c≠10:=by
 simp only [Qkd,decide_eq_true_eq] at h
 refine⟨?_,?_,?_,?_,?_,?_⟩<;>(rintro rfl;revert h;decide)
theorem Jaz {w:List UInt8} (h:w.all Qkd=true):Qbf w=(Qel w 2147483647).map fun v=>(v:Int):=by
 unfold Qbf
 split
 ·rename_i r
  simp only [List.all_cons,Kba] at h
  exact absurd h.1 (by decide)
 ·rfl
theorem Qgg {z:Int} (h:Qam z=false):Qbf (Lib.itoa z)=some z:=by
 simp only [Qam,Bool.or_eq_false_iff,decide_eq_false_iff_not] at h
 unfold Lib.itoa
 split
 ·simp only [Qbf]
  rw [Qqk (by omega)]
  simp only
  rw [if_pos (by omega)]
  congr 1;omega
 ·have hn:Qel (Lib.decDigits z.toNat) 2147483647=some z.toNat:=Qqk (by omega)
  rw [Jaz (Qik _),hn]
  show some ((z.toNat:Nat):Int)=some z
  congr 1;omega
theorem Qge {z:Int} (h:u64R z):Qbt (Lib.decDigits z.toNat)=some z:=by
 obtain⟨h1,h2⟩:=h
 have hn:Qel (Lib.decDigits z.toNat) 18446744073709551615=some z.toNat:=Qqk (by omega)
 unfold Qbt
 rw [hn]
 show some ((z.toNat:Nat):Int)=some z
 congr 1;omega
theorem mask_dec {z:Int} (h:u32R z):Qhu (Lib.decDigits z.toNat)=some z:=by
 obtain⟨h1,h2⟩:=h
 have hn:Qel (Lib.decDigits z.toNat) 4294967295=some z.toNat:=Qqk (by omega)
 unfold Qhu
 rw [hn]
 show some ((z.toNat:Nat):Int)=some z
 congr 1;omega
theorem hex_back:∀ n:Fin 16,Qno (hexD n.val)=some n.val:=by decide
theorem Qfo:∀ n:Fin 16,hexD n.val≠34∧hexD n.val≠92∧hexD n.val≠10:=by decide
theorem hex_byte (c:UInt8):UInt8.ofNat (16*(c.toNat / 16)+c.toNat%16)=c:=by
 rw [show 16*(c.toNat / 16)+c.toNat%16=c.toNat by omega]
 exact UInt8.ofNat_toNat
theorem Qjj (c:UInt8):((c=34∨c=92)∧Qbj c=[92,c])∨(c≠34∧c≠92∧32≤c.toNat∧c.toNat≤126∧Qbj c=[c])∨(c=10∧Qbj c=[92,110])∨(c=9∧Qbj c=[92,116]) ∨
  (∃ a b:Fin 16,Qbj c=[92,120,hexD a.val,hexD b.val]∧UInt8.ofNat (16*a.val+b.val)=c):=by
 unfold Qbj
 by_cases h1:c=34∨c=92
 ·rw [if_pos h1];exact .inl ⟨h1,rfl⟩
 rw [if_neg h1]
 by_cases h2:32≤c.toNat∧c.toNat≤126
 ·rw [if_pos h2];exact .inr (.inl ⟨fun e=>h1 (.inl e),fun e=>h1 (.inr e),h2.1,h2.2,rfl⟩)
 rw [if_neg h2]
 by_cases h3:c=10
 ·rw [if_pos h3];exact .inr (.inr (.inl ⟨h3,rfl⟩))
 rw [if_neg h3]
 by_cases h4:c=9
 ·rw [if_pos h4];exact .inr (.inr (.inr (.inl ⟨h4,rfl⟩)))
 rw [if_neg h4]
 have:=c.toNat_lt
 exact .inr (.inr (.inr (.inr ⟨⟨c.toNat / 16,by omega⟩,⟨c.toNat%16,by omega⟩,rfl,hex_byte c⟩)))
theorem unq_step (c:UInt8) (r:List UInt8):Qcy (Qbj c++r)=(Qcy r).map (c :: ·):=by
 rcases Qjj c with ⟨h,e⟩|⟨h1,h2,h3,h4,e⟩|⟨rfl,e⟩|⟨rfl,e⟩|⟨a,b,e,hc⟩<;>rw [e]
 ·rw [Kca,Kca,Kna,Qkv]
  rcases h with rfl|rfl<;>rfl
 ·rw [Kca,Kna,Qmr r ⟨h3,h4,h1⟩ h2]
 ·rw [Kca,Kca,Kna,Qkv,if_pos rfl]
 ·rw [Kca,Kca,Kna,Qkv,if_neg (by decide),if_pos rfl]
 ·rw [Kca,Kca,Kca,Kca,Kna,Qkv,if_neg (by decide),if_neg (by decide),if_neg (by decide),if_pos rfl]
  simp only [hex_back,hc]
theorem Qrn:∀ d:List UInt8,Qcy (d.flatMap Qbj)=some d
 | []=>rfl
 |c::d=>by rw [List.flatMap_cons,unq_step,Qrn d];rfl
theorem Qwo (d:List UInt8):Qec (Qde d)=some d:=by
 unfold Qec Qde
 rw [if_pos ⟨by simp,rfl,by simp [List.getLast?_cons]⟩]
 simp only [List.drop_succ_cons,List.drop_zero,List.dropLast_concat]
 exact Qrn d
theorem qByte_nl (c:UInt8):∀ x∈Qbj c,x≠10:=by
 intro x hx
 rcases Qjj c with ⟨h,e⟩|⟨h1,h2,h3,h4,e⟩|⟨rfl,e⟩|⟨rfl,e⟩|⟨a,b,e,hc⟩<;>rw [e] at hx<;>simp only [List.mem_cons,List.not_mem_nil,or_false] at hx
 ·rcases hx with rfl|rfl
  ·decide
  ·rcases h with rfl|rfl<;>decide
 ·subst hx;rintro rfl;revert h3;decide
 ·rcases hx with rfl|rfl<;>decide
 ·rcases hx with rfl|rfl<;>decide
 ·rcases hx with rfl|rfl|rfl|rfl
  ·decide
  ·decide
  ·exact (Qfo a).2.2
  ·exact (Qfo b).2.2
def Jcd (w:List UInt8):Prop:=w≠[]∧(∀ c∈w,isBl c=false)∧w.head? ≠ some 34
def Qlh (w:List UInt8):Prop:=Jcd w∨∃ d,w=Qde d
theorem Qmu:∀ (w r:List UInt8) (acc:List (List UInt8)) (v:List UInt8),(∀ c∈w,isBl c=false)→Qar (w++r) acc (some v) false false=Qar r acc (some (v++w)) false false
 | [],r,acc,v,_=>by simp
 |c::w,r,acc,v,h=>by
  rw [Kca,Qar]
  simp only [Bool.false_eq_true,if_false,h c (.head _)]
  rw [Qmu w r acc (v++[c]) fun x hx=>h x (.tail _ hx)]
  simp
theorem split_q (c:UInt8) (r:List UInt8) (acc:List (List UInt8)) (v:List UInt8):Qar (Qbj c++r) acc (some v) true false=Qar r acc (some (v++Qbj c)) true false:=by
 have esc:∀ (x:UInt8) (r v:List UInt8),Qar (92::x::r) acc (some v) true false=Qar r acc (some (v++[92]++[x])) true false:=by
  intro x r v
  rw [Qar.eq_def]
  simp only [Bool.false_eq_true,if_false,if_true]
  rw [Qar.eq_def]
  simp only [if_true,Option.map_some]
 have pl:∀ (x:UInt8) (r v:List UInt8),x≠34→x≠92→Qar (x::r) acc (some v) true false=Qar r acc (some (v++[x])) true false:=by
  intro x r v h1 h2
  rw [Qar]
  simp only [Bool.false_eq_true,if_false,if_true,h1,h2,Option.map_some]
 rcases Qjj c with ⟨h,e⟩|⟨h1,h2,h3,h4,e⟩|⟨rfl,e⟩|⟨rfl,e⟩|⟨a,b,e,hc⟩<;>rw [e]
 ·rw [Kca,Kca,Kna,esc];simp
 ·rw [Kca,Kna,pl c r v h1 h2]
 ·rw [Kca,Kca,Kna,esc];simp
 ·rw [Kca,Kca,Kna,esc];simp
 ·rw [Kca,Kca,Kca,Kca,Kna,esc,pl _ _ _ (Qfo a).1 (Qfo a).2.1,pl _ _ _ (Qfo b).1 (Qfo b).2.1];simp
theorem Qvi:∀ (d r:List UInt8) (acc:List (List UInt8)) (v:List UInt8),Qar (d.flatMap Qbj++r) acc (some v) true false=Qar r acc (some (v++d.flatMap Qbj)) true false
 | [],r,acc,v=>by simp
 |c::d,r,acc,v=>by
  rw [List.flatMap_cons,List.append_assoc,split_q,Qvi d]
  simp
theorem Qo0 {w:List UInt8} (h:Qlh w) (r:List UInt8) (acc:List (List UInt8)) (hr:atBl r=true) (h35:acc=[]→w.head? ≠ some 35):Qar (w++r) acc none false false=Qar r acc (some w) false false:=by
 rcases h with ⟨h1,h2,h3⟩|⟨d,rfl⟩
 ·cases w with
  |nil=>exact absurd rfl h1
  |cons c w =>
   have hc:c≠34:=fun e=>h3 (by rw [e];rfl)
   have h5:¬ (acc=[]∧c=35):=fun ⟨e,e2⟩=>h35 e (by rw [e2];rfl)
   rw [Kca,Qar]
   have hq:(c==34)=false:=by simpa using hc
   simp only [Bool.false_eq_true,if_false,h2 c (.head _),h5,hq]
   rw [Qmu w r acc [c] fun x hx=>h2 x (.tail _ hx)]
   simp
 ·unfold Qde
  have h5:¬ (acc=[]∧(34:UInt8)=35):=fun ⟨_,e⟩=>absurd e (by decide)
  rw [Kca,Qar]
  have hb:isBl 34=false:=by decide
  simp only [Bool.false_eq_true,if_false,hb,h5,beq_self_eq_true,List.append_assoc]
  rw [Qvi,List.singleton_append,List.singleton_append,Qar]
  have:(34:UInt8)≠92:=by decide
  simp only [Bool.false_eq_true,if_false,if_true,this,hr,Option.map_some]
  simp
theorem Qmt:∀ (ws:List (List UInt8)) (acc:List (List UInt8)) (w:List UInt8),(∀ v∈ws,Qlh v)→Qar (ws.flatMap fun v=>32::v) acc (some w) false false=some (acc++w::ws)
 | [],acc,w,_=>by simp [Qar]
 |v::ws,acc,w,h=>by
  rw [List.flatMap_cons,Kca,Qar]
  have hb:isBl 32=true:=by decide
  simp only [Bool.false_eq_true,if_false,hb,if_true]
  rw [Qo0 (h v (.head _)) _ _ (by cases ws<;>simp [atBl,isBl]) (by simp),Qmt ws (acc++[w]) v fun x hx=>h x (.tail _ hx)]
  simp
theorem Qo1 {w:List UInt8} {ws:List (List UInt8)} (h:Qlh w) (h35:w.head? ≠ some 35) (hs:∀ v∈ws,Qlh v):Qgj (w++ws.flatMap fun v=>32::v)=some (w::ws):=by
 unfold Qgj
 rw [Qo0 h _ _ (by cases ws<;>simp [atBl,isBl]) (fun _=>h35),Qmt ws [] w hs]
 rfl
theorem Qq0:∀ (l r:List UInt8),(∀ c∈l,c≠10)→Qbc (l++10::r)=l::Qbc r
 | [],r,_=>by simp [Qbc]
 |c::l,r,h=>by
  rw [Kca,Qbc,if_neg (h c (.head _)),Qq0 l r fun x hx=>h x (.tail _ hx)]
end Go.Proofs.YtgmkbdmgifdfeaaGreatDoor

namespace Go.Proofs.YtgmkbdmgifdfeaaGreatDoor
open Go
def Fd.words:Fd→Stp→List (List UInt8)
 | .stream,s=>[Lib.itoa s.stream] | .qc,s=>[Lib.itoa s.qc] | .qb,s=>[Lib.itoa s.qb] | .place,s=>[Lib.itoa s.place] | .pos,s=>[Lib.itoa s.pos] | .cursor,s=>[Lib.itoa s.cursor]
 | .time,s=>[Lib.decDigits s.time.toNat] | .life,s=>[Lib.decDigits s.life.toNat] | .seq,s=>[Lib.decDigits s.seq.toNat] | .to,s=>[Lib.decDigits s.to.toNat] | .ticks,s=>[Lib.decDigits s.ticks.toNat] | .mask,s=>[Lib.decDigits s.mask.toNat]
 | .data,s=>[Qde s.data]
 | .way,s=>[if s.way=1 then Qqu else Qqp]
 | .choices,s=>s.choices.map Lib.itoa
theorem Qwn (f:Fd) (s:Stp):f.text s=(f.words s).flatMap fun v=>32::v:=by
 cases f<;>simp only [Fd.text,Fd.words,List.flatMap_cons,List.flatMap_nil,List.append_nil,decI,decU]
 ·split<;>rfl
 ·rw [List.flatMap_map];rfl
theorem Qts (fs:List Fd) (s:Stp):(fs.flatMap fun f=>f.text s)=(fs.flatMap fun f=>f.words s).flatMap fun v=>32::v:=by
 rw [List.flatMap_assoc]
 congr 1;funext f;exact Qwn f s
def Fd.put:Fd→Stp→Stp→Stp
 | .stream,s,a => { a with stream:=s.stream } | .qc,s,a => { a with qc:=s.qc } | .qb,s,a => { a with qb:=s.qb } | .place,s,a => { a with place:=s.place } | .pos,s,a => { a with pos:=s.pos } | .cursor,s,a => { a with cursor:=s.cursor }
 | .time,s,a => { a with time:=s.time } | .life,s,a => { a with life:=s.life } | .seq,s,a => { a with seq:=s.seq } | .to,s,a => { a with to:=s.to } | .ticks,s,a => { a with ticks:=s.ticks } | .mask,s,a => { a with mask:=s.mask }
 | .data,s,a => { a with data:=s.data } | .way,s,a => { a with way:=s.way } | .choices,s,a => { a with choices:=a.choices++s.choices }
theorem Qph:∀ l:List Int,l.any Qam=false→Qc9 (l.map Lib.itoa)=some l
 | [],_=>rfl
 |z::l,h=>by
  simp only [List.any_cons,Bool.or_eq_false_iff] at h
  simp only [List.map_cons,Qc9,Qgg h.1,Qph l h.2,Option.map_some]
theorem read_put {f:Fd} {s:Stp} (a:Stp) (ws:List (List UInt8)) (hR:s.R) (hg:f.great s=false) (hw:f=.way→s.way=1∨s.way=2) (hc:f=.choices→ws=[]):f.read a (f.words s++ws)=some (f.put s a,ws):=by
 cases f<;>simp only [Fd.great] at hg<;>simp only [Fd.words,Fd.read,Fd.put,Kca,Kna]
 case way =>
  rcases hw rfl with h|h<;>rw [h]
  ·rfl
  ·rfl
 case choices =>
  rw [hc rfl,List.append_nil,Qph _ hg];rfl
 case data=>rw [Qwo];rfl
 case mask=>rw [mask_dec hR.mask];rfl
 case time=>rw [Qge hR.time];rfl
 case life=>rw [Qge hR.life];rfl
 case seq=>rw [Qge hR.seq];rfl
 case to=>rw [Qge hR.to];rfl
 case ticks=>rw [Qge hR.ticks];rfl
 all_goals rw [Qgg hg];rfl
def Qpa:List Fd→Bool
 | []=>true
 | .choices::r=>r.isEmpty
 |_::r=>Qpa r
theorem Qr1 {s:Stp} (hR:s.R) (hw:s.way=1∨s.way=2∨True):∀ (fs:List Fd) (a:Stp),Qpa fs=true→(∀ f∈fs,f.great s=false)→(Fd.way∈fs→s.way=1∨s.way=2) →
  Qeq fs a (fs.flatMap fun f=>f.words s)=some (fs.foldl (fun a f=>f.put s a) a,[])
 | [],a,_,_,_=>rfl
 |f::fs,a,hl,hg,hy=>by
  have hc:f=.choices→fs=[]:=by
   rintro rfl
   simp only [Qpa,List.isEmpty_iff] at hl;exact hl
  have hl2:Qpa fs=true:=by
   cases f<;>simp only [Qpa,List.isEmpty_iff] at hl<;>first|exact hl|(subst hl;rfl)
  rw [List.flatMap_cons,Qeq,read_put a _ hR (hg f (.head _)) (fun e=>hy (e▸.head _)) (fun e=>by rw [hc e];rfl)]
  simp only
  rw [Qr1 hR hw fs _ hl2 (fun g h=>hg g (.tail _ h)) (fun h=>hy (.tail _ h))]
  rfl
def Qdh (s:Stp):Stp:=(fieldsOf s.kind.toNat).foldl (fun a f=>f.put s a) { stp0 with kind:=s.kind,node:=if s.kind=1 then 0 else s.node }
def Qe0 (s:Stp):List (List UInt8):=(if s.kind=1 then [] else [Lib.itoa s.node])++Qay s.kind.toNat::(fieldsOf s.kind.toNat).flatMap fun f=>f.words s
theorem Qsk:∀ k:Fin 23,1≤k.val→Qlm (Qay k.val)=some k.val:=by decide
theorem Jar:∀ k:Fin 23,Qpa (fieldsOf k.val)=true:=by decide
theorem Qwk:∀ k:Fin 23,¬ (Qay k.val=[49]∨Qay k.val=[50]):=by decide
theorem Qpy:∀ k:Fin 23,Qay k.val≠Qgt:=by decide
theorem Qwj:∀ k:Fin 23,1≤k.val→Qay k.val≠[]∧(∀ c∈Qay k.val,isBl c=false)∧(Qay k.val).head? ≠ some 34∧(Qay k.val).head? ≠ some 35∧∀ c∈Qay k.val,c≠10:=by decide
theorem Qyn:∀ k:Fin 23,(fieldsOf k.val).any (fun f=>match f with | .way=>true|_=>false)=true→9≤k.val∧k.val≤12:=by decide
theorem way_mem {k:Nat} (h:Fd.way∈fieldsOf k) (hk:k<23):9≤k∧k≤12 :=
 Qyn ⟨k,hk⟩ (List.any_eq_true.2 ⟨_,h,rfl⟩)
theorem Qhb {w:List UInt8} (h:w.all Qkd=true) (hne:w≠[]):Jcd w∧w.head? ≠ some 35∧∀ c∈w,c≠10:=by
 have hd:∀ c∈w,Qkd c=true:=List.all_eq_true.1 h
 refine⟨⟨hne,fun c hc=>?_,fun e=>?_⟩,fun e=>?_,fun c hc=>(Qwb (hd c hc)).2.2.2.2.2⟩
 ·obtain⟨_,_,_,h4,h5,_⟩:=Qwb (hd c hc)
  unfold isBl
  simp [h4,h5]
 ·exact (Qwb (hd _ (List.mem_of_mem_head? e))).2.1 rfl
 ·exact (Qwb (hd _ (List.mem_of_mem_head? e))).2.2.1 rfl
theorem Qg6 (z:Int):Jcd (Lib.itoa z)∧(Lib.itoa z).head? ≠ some 35∧∀ c∈Lib.itoa z,c≠10:=by
 unfold Lib.itoa
 split
 ·obtain⟨⟨h1,h2,h3⟩,h4,h5⟩:=Qhb (Qik z.natAbs) (Qls _)
  refine⟨⟨by simp,fun c hc=>?_,by simp⟩,by simp,fun c hc=>?_⟩
  ·rcases List.mem_cons.1 hc with rfl|hc
   ·decide
   ·exact h2 c hc
  ·rcases List.mem_cons.1 hc with rfl|hc
   ·decide
   ·exact h5 c hc
 ·exact Qhb (Qik _) (Qls _)
theorem quote_nl (d:List UInt8):∀ c∈Qde d,c≠10:=by
 intro c hc
 unfold Qde at hc
 simp only [List.mem_cons,List.mem_append,List.mem_flatMap,List.not_mem_nil,or_false] at hc
 rcases hc with rfl|⟨a,_,h⟩|rfl
 ·decide
 ·exact qByte_nl a c h
 ·decide
theorem Qxy (f:Fd) (s:Stp):∀ w∈f.words s,Qlh w∧∀ c∈w,c≠10:=by
 have hi:∀ z:Int,Qlh (Lib.itoa z)∧∀ c∈Lib.itoa z,c≠10:=fun z=>⟨.inl (Qg6 z).1,(Qg6 z).2.2⟩
 have hu:∀ n:Nat,Qlh (Lib.decDigits n)∧∀ c∈Lib.decDigits n,c≠10:=fun n=>⟨.inl (Qhb (Qik n) (Qls n)).1,(Qhb (Qik n) (Qls n)).2.2⟩
 intro w hw
 cases f<;>simp only [Fd.words,List.mem_cons,List.not_mem_nil,or_false,List.mem_map] at hw
 case data=>subst hw;exact⟨.inr ⟨_,rfl⟩,quote_nl _⟩
 case way =>
  subst hw
  split
  ·exact⟨.inl ⟨by decide,by decide,by decide⟩,by decide⟩
  ·exact⟨.inl ⟨by decide,by decide,by decide⟩,by decide⟩
 case choices=>obtain⟨z,_,rfl⟩:=hw;exact hi z
 all_goals subst hw;first|exact hi _|exact hu _
theorem Quq (fs:List Fd) (s:Stp):∀ w∈fs.flatMap (fun f=>f.words s),Qlh w∧∀ c∈w,c≠10:=by
 intro w hw
 obtain⟨f,_,h⟩:=List.mem_flatMap.1 hw
 exact Qxy f s w h
def Ql2:List (List UInt8)→List UInt8
 | []=>[]
 |w::ws=>w++ws.flatMap fun v=>32::v
theorem Qy5 (s:Stp):Qbo s=Ql2 (Qe0 s)++[10]:=by
 unfold Qbo Qe0
 rw [Qts]
 split<;>simp [Ql2]
theorem Qje {s:Stp} (h:Qbr s=true):∃ k:Nat,s.kind=k∧1≤k∧k<23∧(k=1∨s.node=1∨s.node=2)∧(9≤k∧k≤12→s.way=1∨s.way=2):=by
 simp only [Qbr,Kba,Bool.or_eq_true,decide_eq_true_eq,Bool.not_eq_true',decide_eq_false_iff_not] at h
 obtain⟨⟨⟨h1,h2⟩,h3⟩,h4⟩:=h
 refine⟨s.kind.toNat,by omega,by omega,by omega,?_,fun hk=>?_⟩
 ·rcases h3 with (h|h)|h
  ·exact .inl (by omega)
  ·exact .inr (.inl h)
  ·exact .inr (.inr h)
 ·rcases h4 with (h|h)|h
  ·omega
  ·exact .inl h
  ·exact .inr h
theorem Qi5 {s:Stp} (h:Qbr s=true):∃ w ws,Qe0 s=w::ws∧Qlh w∧w.head? ≠ some 35∧w≠Qgt∧(∀ v∈ws,Qlh v)∧(∀ c∈Ql2 (w::ws),c≠10):=by
 obtain⟨k,hk,h1,h2,h3,-⟩:=Qje h
 have hkn:s.kind.toNat=k:=by omega
 obtain⟨p1,p2,p3,p4,p5⟩:=Qwj ⟨k,h2⟩ h1
 have jn:∀ (w:List UInt8) (ws:List (List UInt8)),(∀ c∈w,c≠10)→(∀ v∈ws,∀ c∈v,c≠10)→∀ c∈Ql2 (w::ws),c≠10:=by
  intro w ws a b c hc
  rcases List.mem_append.1 hc with h|h
  ·exact a c h
  ·obtain⟨v,hv,h⟩:=List.mem_flatMap.1 h
   rcases List.mem_cons.1 h with rfl|h
   ·decide
   ·exact b v hv c h
 have hf:=Quq (fieldsOf k) s
 unfold Qe0
 rw [hkn]
 by_cases e:s.kind=1
 ·rw [if_pos e]
  exact⟨_,_,rfl,.inl ⟨p1,p2,p3⟩,p4,Qpy ⟨k,h2⟩,fun v hv=>(hf v hv).1,jn _ _ p5 fun v hv=>(hf v hv).2⟩
 ·rw [if_neg e]
  obtain⟨q1,q2,q3⟩:=Qg6 s.node
  refine⟨_,_,rfl,.inl q1,q2,?_,fun v hv=>?_,jn _ _ q3 fun v hv=>?_⟩
  ·rcases h3 with h|h|h
   ·omega
   ·rw [h];decide +kernel
   ·rw [h];decide +kernel
  ·rcases List.mem_cons.1 hv with rfl|hv
   ·exact .inl ⟨p1,p2,p3⟩
   ·exact (hf v hv).1
  ·rcases List.mem_cons.1 hv with rfl|hv
   ·exact p5
   ·exact (hf v hv).2
theorem itoa1:Lib.itoa 1=[49]:=by
 unfold Lib.itoa;rw [if_neg (by decide)]
 exact Lib.decDigits_one (by decide)
theorem itoa2:Lib.itoa 2=[50]:=by
 unfold Lib.itoa;rw [if_neg (by decide)]
 exact Lib.decDigits_one (by decide)
theorem Qy3 {s:Stp} (hR:s.R) (h:Qbr s=true) (hg:Qbe s=false):Qe1 (Qe0 s)=some (Qdh s):=by
 obtain⟨k,hk,h1,h2,h3,h4⟩:=Qje h
 have hkn:s.kind.toNat=k:=by omega
 have hgr:∀ f∈fieldsOf k,f.great s=false:=by
  unfold Qbe at hg
  rw [hkn] at hg
  intro f hf
  simpa using (List.any_eq_false.1 hg) f hf
 have hrd:=fun a=>Qr1 hR (.inr (.inr trivial)) (fieldsOf k) a (Jar ⟨k,h2⟩) hgr (fun hm=>h4 (way_mem hm h2))
 unfold Qe1 Qe0 Qdh
 rw [hkn]
 by_cases e:s.kind=1
 ·have hk1:k=1:=by omega
  subst hk1
  rw [if_pos e,Kna]
  have hn:Qfx (Qay 1::(fieldsOf 1).flatMap fun f=>f.words s)=some (0,Qay 1,(fieldsOf 1).flatMap fun f=>f.words s):=by
   unfold Qfx
   simp only
   rw [if_neg (Qwk ⟨1,h2⟩)]
  rw [hn]
  simp only
  rw [Qsk ⟨1,h2⟩ h1]
  simp only
  rw [if_pos (by decide),if_pos e]
  have hcast:((1:Nat):Int)=s.kind:=by omega
  rw [hcast,hrd]
 ·rw [if_neg e,if_neg e]
  have hn:Qfx ([Lib.itoa s.node]++Qay k::(fieldsOf k).flatMap fun f=>f.words s)=some (s.node,Qay k,(fieldsOf k).flatMap fun f=>f.words s):=by
   unfold Qfx
   rcases h3 with h|h|h
   ·omega
   ·rw [h,itoa1];rfl
   ·rw [h,itoa2];rfl
  rw [hn]
  simp only
  rw [Qsk ⟨k,h2⟩ h1]
  simp only
  have hpos:0<s.node:=by rcases h3 with h|h|h<;>omega
  have hk1:k≠1:=by omega
  rw [if_pos (by simp [hk1,hpos]),← hk,hrd]
theorem Qpg (w:List UInt8) (ws:List (List UInt8)):Ql2 (w::ws)=w++ws.flatMap fun v=>32::v:=rfl
theorem Jal {s:Stp} (hR:s.R) (h:Qbr s=true) (hg:Qbe s=false):Qd1 (Ql2 (Qe0 s))=some (.step (Qdh s)):=by
 have hr:=Qy3 hR h hg
 obtain⟨w,ws,e,g1,g2,g3,g4,g5⟩:=Qi5 h
 rw [e] at hr ⊢
 unfold Qd1
 rw [Qpg,Qo1 g1 g2 g4]
 simp only
 rw [if_neg g3,hr];rfl
def Qeh (x:Stu):List (List UInt8):=[Lib.itoa x.sectors,Lib.itoa x.room,Lib.decDigits x.start.toNat,Lib.itoa x.mtu,Lib.decDigits x.ack.toNat,Lib.decDigits x.retry.toNat,Lib.itoa x.retries,Lib.itoa x.window,Lib.itoa x.inbox]
theorem Ja3 (x:Stu):Qcg x=Ql2 (Qgt::Qeh x)++[10]:=by
 unfold Qcg Qeh
 simp [Ql2,decI,decU,Qgt]
theorem Qi9 (x:Stu):∀ w∈Qeh x,Qlh w∧∀ c∈w,c≠10:=by
 have hi:∀ z:Int,Qlh (Lib.itoa z)∧∀ c∈Lib.itoa z,c≠10:=fun z=>⟨.inl (Qg6 z).1,(Qg6 z).2.2⟩
 have hu:∀ n:Nat,Qlh (Lib.decDigits n)∧∀ c∈Lib.decDigits n,c≠10:=fun n=>⟨.inl (Qhb (Qik n) (Qls n)).1,(Qhb (Qik n) (Qls n)).2.2⟩
 intro w hw
 simp only [Qeh,List.mem_cons,List.not_mem_nil,or_false] at hw
 rcases hw with rfl|rfl|rfl|rfl|rfl|rfl|rfl|rfl|rfl<;>first|exact hi _|exact hu _
theorem Ja2 {x:Stu} (hR:x.R) (hg:Qcd x=false):Qih (Qeh x)=some x:=by
 simp only [Qcd,Bool.or_eq_false_iff] at hg
 obtain⟨⟨⟨⟨⟨h1,h2⟩,h3⟩,h4⟩,h5⟩,h6⟩:=hg
 simp only [Qih,Qeh,Qgg h1,Qgg h2,Qgg h3,Qgg h4,Qgg h5,Qgg h6,Qge hR.start,Qge hR.ack,Qge hR.retry]
theorem Qxt {x:Stu} (hR:x.R) (hg:Qcd x=false):Qd1 (Ql2 (Qgt::Qeh x))=some (.head x):=by
 unfold Qd1
 rw [Qpg,Qo1 (.inl ⟨by decide,by decide,by decide⟩) (by decide) fun v hv=>(Qi9 x v hv).1]
 simp only [if_true,Ja2 hR hg,Option.map_some]
theorem hline_nl (x:Stu):∀ c∈Ql2 (Qgt::Qeh x),c≠10:=by
 intro c hc
 rcases List.mem_append.1 hc with h|h
 ·have hw:∀ c∈Qgt,c≠10:=by decide
  exact hw c h
 ·obtain⟨v,hv,h⟩:=List.mem_flatMap.1 h
  rcases List.mem_cons.1 h with rfl|h
  ·decide
  ·exact (Qi9 x v hv).2 c h
theorem Qvg (x:Stu):∀ (l:List Stp) (done:List Stp) (n:Int),(∀ s∈l,s.R∧Qbr s=true∧Qbe s=false) →
  Qcr ⟨x,done,true⟩ n (Qbc (l.flatMap Qbo))=(x,done++l.map Qdh,0,0)
 | [],done,n,_=>by
   have:Qd1 []=some .nothing:=rfl
   simp [Qbc,Qcr,Qc5,this]
 |s::l,done,n,h=>by
  obtain⟨h1,h2,h3⟩:=h s (.head _)
  obtain⟨w,ws,e,-,-,-,-,g5⟩:=Qi5 h2
  rw [List.flatMap_cons,Qy5,List.append_assoc,List.singleton_append,Qq0 _ _ (by rw [e];exact g5),Qcr]
  have:Qc5 ⟨x,done,true⟩ (Ql2 (Qe0 s))=some ⟨x,done++[Qdh s],true⟩:=by
   unfold Qc5
   rw [Jal h1 h2 h3];rfl
  rw [this]
  simp only
  rw [Qvg x l (done++[Qdh s]) (n+1) fun t ht=>h t (.tail _ ht)]
  simp
theorem Que {x:Stu} {l:List Stp} (hx:x.R) (hl:∀ s∈l,s.R) {t:List UInt8} (h:Qa8 x l=(t,0)):t=Qba x l∧t.length≤1048576∧Qbb t=(x,l.map Qdh,0,0)∧(∀ s∈l,Qbr s=true∧Qbe s=false)∧Qcd x=false:=by
 unfold Qa8 at h
 split at h
 ·rename_i hok
  split at h
  ·cases h
  ·rename_i hgr
   split at h
   ·cases h
   ·rename_i hlen
    obtain rfl:Qba x l=t:=(Prod.mk.inj h).1
    simp only [Qdv,Bool.not_eq_true,Bool.or_eq_false_iff] at hgr
    have hs:∀ s∈l,Qbr s=true∧Qbe s=false:=fun s hs=>⟨List.all_eq_true.1 hok s hs,by simpa using (List.any_eq_false.1 hgr.2) s hs⟩
    refine⟨rfl,by omega,?_,hs,hgr.1⟩
    unfold Qbb
    rw [if_neg hlen]
    unfold Qba
    rw [Ja3,List.append_assoc,List.singleton_append,Qq0 _ _ (hline_nl x),Qcr]
    have:Qc5 ⟨stu0,[],false⟩ (Ql2 (Qgt::Qeh x))=some ⟨x,[],true⟩:=by
     unfold Qc5
     rw [Qxt hx hgr.1];rfl
    rw [this]
    simp only
    rw [Qvg x l [] _ fun s h=>⟨hl s h,hs s h⟩]
    rfl
 ·cases h
end Go.Proofs.YtgmkbdmgifdfeaaGreatDoor

namespace Go.Proofs.YtgmkbdmgifdfeaaGreatDoor
open Go
theorem Qu1 {k:Nat} {s:Stp} (h1:1≤k) (h2:k<23) (hk:s.kind=k):Qbo (Qdh s)=Qbo s∧Qbe (Qdh s)=Qbe s∧(Qdh s).kind=s.kind∧((Qdh s).node=0∨(Qdh s).node=s.node)∧((Qdh s).data=[]∨(Qdh s).data=s.data)∧(9≤k∧k≤12→(Qdh s).way=s.way)∧(k≠1→(Qdh s).node=s.node):=by
 have:k=1∨k=2∨k=3∨k=4∨k=5∨k=6∨k=7∨k=8∨k=9∨k=10∨k=11∨k=12∨k=13∨k=14∨k=15∨k=16∨k=17∨k=18∨k=19∨k=20∨k=21∨k=22:=by omega
 rcases this with rfl|rfl|rfl|rfl|rfl|rfl|rfl|rfl|rfl|rfl|rfl|rfl|rfl|rfl|rfl|rfl|rfl|rfl|rfl|rfl|rfl|rfl <;>
  simp [Qbo,Qbe,Qdh,hk,fieldsOf,Fd.put,Fd.text,Fd.great,stp0]
theorem Qkk {s:Stp} (h:Qbr s=true):Qbr (Qdh s)=true∧Qbo (Qdh s)=Qbo s∧Qbe (Qdh s)=Qbe s∧(Qdh s).kind=s.kind∧((Qdh s).node=0∨(Qdh s).node=s.node)∧((Qdh s).data=[]∨(Qdh s).data=s.data):=by
 obtain⟨k,hk,h1,h2,h3,h4⟩:=Qje h
 obtain⟨g1,g2,g3,g4,g5,g6,g7⟩:=Qu1 h1 h2 hk
 refine⟨?_,g1,g2,g3,g4,g5⟩
 simp only [Qbr,Kba,Bool.or_eq_true,decide_eq_true_eq,Bool.not_eq_true',decide_eq_false_iff_not,g3]
 refine⟨⟨by omega,?_⟩,?_⟩
 ·rcases Nat.lt_or_ge 1 k with h|h
  ·rw [g7 (by omega)]
   rcases h3 with h3|h3|h3
   ·omega
   ·exact .inl (.inr h3)
   ·exact .inr h3
  ·exact .inl (.inl (by omega))
 ·by_cases hw:9≤k∧k≤12
  ·rw [g6 hw]
   rcases h4 hw with h|h
   ·exact .inl (.inr h)
   ·exact .inr h
  ·exact .inl (.inl (by omega))
theorem Qud {x:Stu} {l:List Stp} (h:∀ s∈l,Qbr s=true):Qba x (l.map Qdh)=Qba x l∧Qa8 x (l.map Qdh)=Qa8 x l:=by
 have h1:(l.map Qdh).all Qbr=true:=by
  rw [List.all_map];exact List.all_eq_true.2 fun s hs=>(Qkk (h s hs)).1
 have h1':l.all Qbr=true:=List.all_eq_true.2 h
 have h2:(l.map Qdh).any Qbe=l.any Qbe:=by
  rw [List.any_map]
  rw [Bool.eq_iff_iff,List.any_eq_true,List.any_eq_true]
  constructor
  ·rintro⟨s,hs,e⟩;exact⟨s,hs,by rw [← (Qkk (h s hs)).2.2.1];exact e⟩
  ·rintro⟨s,hs,e⟩;exact⟨s,hs,by show Qbe (Qdh s)=true;rw [(Qkk (h s hs)).2.2.1];exact e⟩
 have h3:(l.map Qdh).flatMap Qbo=l.flatMap Qbo:=by
  rw [List.flatMap_map]
  rw [List.flatMap_def,List.flatMap_def]
  congr 1
  exact List.map_congr_left fun s hs=>(Qkk (h s hs)).2.1
 have h4:Qba x (l.map Qdh)=Qba x l:=by unfold Qba;rw [h3]
 refine⟨h4,?_⟩
 unfold Qa8 Qdv
 rw [h1,h1',h2,h4]
theorem Qe4 {α β : Type} {x:Option α} {f : α → β} {b : β} (h:x.map f=some b):∃ a,x=some a∧f a=b:=Option.map_eq_some_iff.1 h
end Go.Proofs.YtgmkbdmgifdfeaaGreatDoor

namespace Go.Proofs.YtgmkbdmgifdfeaaGreatDoor
open Go
theorem headOf_R {ws:List (List UInt8)} {x:Stu} (h:Qih ws=some x):x.R:=by
 unfold Qih at h
 split at h
 ·split at h
  ·cases h
   rename_i h1 h2 h3 h4 h5 h6 h7 h8 h9
   exact⟨Qes h4,Qgf h5,Qgf h6,Qes h7,Qes h8,Qes h9,Qes h1,Qes h2,Qgf h3⟩
  ·cases h
 ·cases h
theorem Qve:stu0.R:=by constructor<;>(constructor<;>decide)
theorem Qse {o:Option (List UInt8)} {f:List UInt8→List UInt8} {v:List UInt8} {a b:Nat} (h:o.map f=some v) (ho:∀ u,o=some u→u.length≤a) (hf:∀ u,(f u).length≤u.length+b):v.length≤a+b:=by
 obtain⟨u,h1,rfl⟩:=Qe4 h
 have:=ho u h1
 have:=hf u
 omega
theorem Qvb:∀ (n:Nat) (l v:List UInt8),l.length≤n→Qcy l=some v→v.length≤l.length
 |_,[],v,_,h=>by cases h;simp
 |0,c::r,v,hn,h=>by simp at hn
 |n+1,c::r,v,hn,h=>by
  simp only [Klc] at hn ⊢
  by_cases h1:32≤c.toNat∧c.toNat≤126∧c≠34
  ·by_cases h2:c=92
   ·subst h2
    cases r with
    |nil=>rw [Qvc] at h;cases h
    |cons d r2 =>
     simp only [Klc] at hn ⊢
     rw [Qkv] at h
     have hr:=fun u (hu:Qcy r2=some u)=>Qvb n r2 u (by omega) hu
     split at h
     ·have:=Qse (b:=1) h hr (by simp);omega
     split at h
     ·have:=Qse (b:=1) h hr (by simp);omega
     split at h
     ·have:=Qse (b:=1) h hr (by simp);omega
     split at h
     ·split at h
      ·rename_i a b r3
       simp only [Klc] at hn ⊢
       split at h
       ·have:=Qse (b:=1) h (fun u hu=>Qvb n r3 u (by omega) hu) (by simp);omega
       ·cases h
      ·cases h
     ·cases h
   ·rw [Qmr r h1 h2] at h
    have:=Qse (b:=1) h (fun u hu=>Qvb n r u (by omega) hu) (by simp);omega
  ·rw [Qys r h1] at h;cases h
theorem text_le {w v:List UInt8} (h:Qec w=some v):v.length≤w.length:=by
 unfold Qec at h
 split at h
 ·have:=Qvb _ _ _ (Knr _) h
  simp at this;omega
 ·cases h
theorem read_D {B:Nat} {f:Fd} {a b:Stp} {ws ws':List (List UInt8)} (h:f.read a ws=some (b,ws')) (ha:a.data.length≤B) (hw:∀ w∈ws,w.length≤B):b.data.length≤B∧∀ w∈ws',w.length≤B:=by
 cases f
 case choices =>
  obtain⟨l,h1,h2⟩:=Qe4 h
  cases h2
  exact⟨ha,by simp⟩
 case data =>
  cases ws with
  |nil=>cases h
  |cons w ws =>
   obtain⟨v,h1,h2⟩:=Qe4 h
   cases h2
   exact⟨Knt (text_le h1) (hw w (.head _)),fun x hx=>hw x (.tail _ hx)⟩
 all_goals
  cases ws with
  |nil=>cases h
  |cons w ws =>
   obtain⟨v,h1,h2⟩:=Qe4 h
   cases h2
   exact⟨ha,fun x hx=>hw x (.tail _ hx)⟩
theorem Qzx {B:Nat}:∀ {fs:List Fd} {a b:Stp} {ws ws':List (List UInt8)},Qeq fs a ws=some (b,ws')→a.data.length≤B→(∀ w∈ws,w.length≤B)→b.data.length≤B
 | [],a,b,ws,ws',h,ha,_=>by cases h;exact ha
 |f::fs,a,b,ws,ws',h,ha,hw=>by
  rw [Qeq] at h
  cases hr:f.read a ws with
  |none=>rw [hr] at h;cases h
  |some y =>
   rw [hr] at h
   obtain⟨h1,h2⟩:=read_D hr ha hw
   exact Qzx h h1 h2
theorem stepOf_D {B:Nat} {ws:List (List UInt8)} {s:Stp} (h:Qe1 ws=some s) (hw:∀ w∈ws,w.length≤B):s.data.length≤B:=by
 unfold Qe1 at h
 cases hn:Qfx ws with
 |none=>rw [hn] at h;cases h
 |some y =>
  obtain⟨n,w,vs⟩:=y
  rw [hn] at h
  simp only at h
  have hv:∀ v∈vs,v∈ws:=by
   unfold Qfx at hn
   split at hn
   ·cases hn
   ·split at hn
    ·split at hn
     ·cases hn
     ·cases hn;exact fun v hv=>.tail _ (.tail _ hv)
    ·cases hn;exact fun v hv=>.tail _ hv
  split at h
  ·cases h
  ·split at h
   ·split at h
    ·rename_i hr
     cases h
     exact Qzx hr (Nat.zero_le _) fun v h=>hw v (hv v h)
    ·cases h
   ·cases h
theorem line_W {l:List UInt8}:(∀ s,Qd1 l=some (.step s)→Qfe s≤310*(l.length+1))∧∀ x,Qd1 l=some (.head x)→x.R:=by
 constructor
 ·intro s h
  obtain⟨h1,h2⟩:=line_R h
  have hne:l≠[]:=by rintro rfl;cases h
  have hd:s.data.length≤l.length:=by
   unfold Qd1 at h
   cases hs:Qgj l with
   |none=>rw [hs] at h;cases h
   |some ws =>
    have hl:=(Qjz l [] none false false ws l.length hs (by simp) (by simp) (Knr _)).2
    rw [hs] at h
    cases ws with
    |nil=>cases h
    |cons w ws =>
     simp only at h
     split at h
     ·obtain⟨y,k1,k2⟩:=Qe4 h;cases k2
     ·obtain⟨y,k1,k2⟩:=Qe4 h
      cases k2
      exact stepOf_D k1 hl
  have:0<l.length:=by cases l<;>simp at hne ⊢
  unfold Qfe
  omega
 ·intro x h
  unfold Qd1 at h
  split at h
  ·cases h
  ·cases h
  ·split at h
   ·obtain⟨y,k1,k2⟩:=Qe4 h
    cases k2
    exact headOf_R k1
   ·obtain⟨y,k1,k2⟩:=Qe4 h;cases k2
def lens (ls:List (List UInt8)):Nat:=(ls.map fun l=>l.length+1).sum
theorem Qwd:∀ t:List UInt8,lens (Qbc t)=t.length+1
 | []=>rfl
 |c::t=>by
  have ih:=Qwd t
  unfold Qbc
  split
  ·simp only [lens,List.map_cons,List.sum_cons,Kln,Klc] at ih ⊢;omega
  ·split
   ·rename_i x r hc
    rw [hc] at ih
    simp only [lens,List.map_cons,List.sum_cons,Klc] at ih ⊢;omega
   ·rename_i hc;exact absurd hc (Quy t)
theorem Qrl (l:List Stp) (s:Stp):Qbg (l++[s])=Qbg l+Qfe s:=by simp [Qbg]
theorem go_W:∀ (ls:List (List UInt8)) (s:Scr) (n:Int) (c:Nat),s.setup.R→Qbg s.steps≤310*c→(Qcr s n ls).1.R∧Qbg (Qcr s n ls).2.1≤310*(c+lens ls)
 | [],s,n,c,h1,h2=>by
   unfold Qcr
   split
   ·exact⟨h1,by simp only [lens,List.map_nil,List.sum_nil];omega⟩
   ·exact⟨Qve,by simp [Qbg]⟩
 |l::ls,s,n,c,h1,h2=>by
  rw [Qcr]
  obtain⟨w1,w2⟩:=line_W (l:=l)
  cases ht:Qc5 s l with
  |none=>exact⟨Qve,by simp [Qbg]⟩
  |some s' =>
   simp only
   have h':s'.setup.R∧Qbg s'.steps≤310*(c+(l.length+1)):=by
    unfold Qc5 at ht
    cases hl:Qd1 l with
    |none=>rw [hl] at ht;cases ht
    |some y =>
     rw [hl] at ht
     cases y with
     |nothing=>cases ht;exact⟨h1,by omega⟩
     |head x =>
      simp only at ht
      split at ht
      ·cases ht
      ·cases ht;exact⟨w2 x hl,by show Qbg s.steps≤_;omega⟩
     |step t =>
      simp only at ht
      split at ht
      ·cases ht
       have:=w1 t hl
       exact⟨h1,by show Qbg (s.steps++[t])≤_;rw [Qrl];omega⟩
      ·cases ht
   obtain⟨g1,g2⟩:=go_W ls s' (n+1) _ h'.1 h'.2
   refine⟨g1,Knt g2 ?_⟩
   simp only [lens,List.map_cons,List.sum_cons];omega
theorem Qz9 (t:List UInt8):(Qbb t).1.R∧Qbg (Qbb t).2.1≤330000000:=by
 unfold Qbb
 split
 ·exact⟨Qve,by simp [Qbg]⟩
 ·obtain⟨h1,h2⟩:=go_W (Qbc t) ⟨stu0,[],false⟩ 0 0 Qve (by simp [Qbg])
  rw [Qwd] at h2
  exact⟨h1,by omega⟩
end Go.Proofs.YtgmkbdmgifdfeaaGreatDoor

set_option maxRecDepth 8000
namespace Go.Proofs.YtgmkbdmgifdfeaaGreatDoor
open Go Go.Ev
theorem Jb3 (m1:Mem) (x:Stu):∃ m2,m2=stM (Qah m1 (Qcf 26 9 [.int .i64 0,.int .u64 0,.int .u64 0,.int .i64 0,.int .i64 0,.int .i64 0,.int .i64 0,.int .i64 0,.int .u64 0])) m1.next 0 [.int .i64 x.mtu,.int .u64 x.ack,.int .u64 x.retry,.int .i64 x.retries,.int .i64 x.window,.int .i64 x.inbox,.int .i64 x.sectors,.int .i64 x.room,.int .u64 x.start] ∧
  m2.next=m1.next+1∧vw m2 m1.next=some ⟨true,26,false,[.int .i64 x.mtu,.int .u64 x.ack,.int .u64 x.retry,.int .i64 x.retries,.int .i64 x.window,.int .i64 x.inbox,.int .i64 x.sectors,.int .i64 x.room,.int .u64 x.start]⟩∧(∀ y,y<m1.next→m2.objs.get y=m1.objs.get y)∧Old m1.next m1 m2:=by
 obtain⟨m2,h1,h2,h3,h4⟩:=Qkm m1 26 9 [.int .i64 0,.int .u64 0,.int .u64 0,.int .i64 0,.int .i64 0,.int .i64 0,.int .i64 0,.int .i64 0,.int .u64 0] [.int .i64 x.mtu,.int .u64 x.ack,.int .u64 x.retry,.int .i64 x.retries,.int .i64 x.window,.int .i64 x.inbox,.int .i64 x.sectors,.int .i64 x.room,.int .u64 x.start] rfl rfl rfl
 exact⟨m2,h1,h2,h3,h4,by omega,h4⟩
def Qsj:List UInt8:=[119,111,114,108,100,32,50,53,54,32,49,54,32,49,48,48,32,54,52,32,49,48,32,50,48,32,50,32,50,32,52,10,10,49,32,99,114,97,115,104,32,49,32,45,50,10,35,32,101,110,100]
def Jap:List UInt8:=[119,111,114,108,100,32,50,53,54,32,49,54,32,49,48,48,32,54,52,32,49,48,32,50,48,32,50,32,50,32,52,10,49,32,99,114,97,115,104,32,49,32,45,50,10]
def Qng:Stu:=⟨64,10,20,2,2,4,256,16,100⟩
def Qpb:Stp := { stp0 with kind:=14,node:=1,choices:=[1,-2] }
theorem Qjm:Qbb Qsj=(Qng,[Qpb],0,0):=by kernel_rfl
theorem Qun:Qa8 Qng [Qpb]=(Jap,0):=by
 have h:Qba Qng [Qpb]=Jap:=by decide +kernel
 unfold Qa8
 rw [if_pos (by decide +kernel),if_neg (by decide +kernel),h,if_neg (by decide)]
end Go.Proofs.YtgmkbdmgifdfeaaGreatDoor

set_option maxRecDepth 8000
namespace Go.Proofs.YtgmkbdmgifdfeaaGreatDoor
open Go Go.Ev
theorem Qy2 {n0:Nat} {m:Mem} {v:Value} {s:Stp} (h:Qd9 n0 m v [s]):∃ b d c,v=.slice (some ⟨b,0,none⟩) 1 1∧b<m.next∧vw m b=some ⟨true,36,true,Qaa s d c⟩∧Own n0 m d 5 s.data.length (u8s s.data)∧Own n0 m c 3 s.choices.length (i64s s.choices):=by
 obtain⟨cells,h1,h2,h3⟩:=h
 obtain⟨d,c,h4,h5,h6⟩:=h3 0 s rfl
 rcases h1 with ⟨_,h,_⟩|⟨b,rfl,hb0,hb,hv⟩
 ·cases h
 ·have:cells=Qaa s d c:=by
   rw [← h4];unfold Qbv
   rw [Nat.zero_mul,List.drop_zero,List.take_of_length_le (by simp at h2;omega)]
  rw [this] at hv
  exact⟨b,d,c,rfl,hb,hv,h5,h6⟩
theorem own_two {n0:Nat} {m:Mem} {v:Value} {a b:Int} (h:Own n0 m v 3 2 (i64s [a,b])):∃ p,v=.slice (some ⟨p,0,none⟩) 2 2∧p<m.next∧vw m p=some ⟨true,3,true,[.int .i64 a,.int .i64 b]⟩:=by
 rcases h with ⟨_,h,_⟩|⟨p,rfl,h0,h1,h2⟩
 ·cases h
 ·exact⟨p,rfl,h1,h2⟩
theorem Qvz {m:Mem} (hE:Qcv m) (hP:Qb4 m) (hm8:8≤m.next):Qaw tb 21 [] m (retR fun r m'=>r=.bool true∧Old m.next m m'):=by
 refine Qa5 Tryz.func21 e21 rfl rfl ?_
 simp only [s21,List.replicate,Klc,Kln,Kca,Kna,Nat.reduceAdd,Nat.reduceSub]
 refine xsr fun Q' hQ=>?_
 simp
 subst hQ
 refine xsr fun Q' hQ=>?_
 simp
 refine Qak (Qad (by decide)) (Qvv (tx:=Qsj) hE (by decide)) ?_ (fun ch m' h=>h.elim)
 rintro r m1 ⟨v1,rfl,hs1,hO1⟩
 rw [Qjm] at hs1 ⊢
 simp only at hs1 ⊢
 simp only [Qa4]
 simp [stOk,oneC]
 subst hQ
 obtain⟨m2,hm2,hn2,hv2,hg2,hO2⟩:=Jb3 m1 Qng
 obtain⟨q1,hq1⟩:∃ q1,q1=m1.next:=⟨_,rfl⟩
 rw [← hm2,← hq1]
 rw [← hq1] at hn2 hv2 hg2
 clear hm2
 have hs2:Qd9 m.next m2 v1 [Qpb]:=hs1.ex (by omega) fun y V hy _ _ _=>hg2 y (by omega)
 have hO12:Old m.next m m2:=hO1.trans (hO2.le hO1.1)
 obtain⟨b,d,c,rfl,hb,hvb,hd,hc⟩:=Qy2 hs2
 refine xseq (xseq (Qal fun Q' hQ=>?_))
 simp
 refine Qak (Qad (by decide)) (Qo6 m2 0) ?_ (fun ch m' h=>h.elim)
 rintro r m3 ⟨rfl,rfl⟩
 obtain⟨p,rfl,hp,hvp⟩:=own_two hc
 simp only [Qng] at hv2
 simp only [Qpb,stp0,Qaa] at hvb
 simp [hv2,hvb,hvp]
 subst hQ
 refine xno rfl (Qbd ?_)
 refine xsr fun Q' hQ=>?_
 simp [hv2]
 refine Qak (Qad (by decide)) (Qqf (m:=m3) (x:=Qng) (ss:=[Qpb]) (by have:=hO12.1;omega) (hP.old hO12 (by omega)) (by rw [show Qng=(Qbb Qsj).1 by rw [Qjm]];exact (Qz9 Qsj).1) (Qrt hs2 (fun s hs=>((Jaa Qsj).1 s (by rw [Qjm];exact hs)).1)) (by decide)) ?_ (fun ch m' h=>h.elim)
 rintro r m4 ⟨rfl,hO4⟩
 rw [Qun]
 simp
 subst hQ
 refine xsr fun Q' hQ=>?_
 simp
 refine Qak (Qad (by decide)) (Qo6 m4 0) ?_ (fun ch m' h=>h.elim)
 rintro r m5 ⟨rfl,rfl⟩
 simp [Jap]
 subst hQ
 exact xret ⟨rfl,_,Qat _,rfl,hO12.trans (hO4.le hO12.1)⟩
end Go.Proofs.YtgmkbdmgifdfeaaGreatDoor

set_option maxRecDepth 8000
namespace Go.Proofs.YtgmkbdmgifdfeaaGreatDoor
open Go Go.Ev
theorem b_neq26 (m:Mem) (x y:Operand) (s:Stu):binA tb m .neq 26 x y (.agg ⟨[.int .i64 s.mtu,.int .u64 s.ack,.int .u64 s.retry,.int .i64 s.retries,.int .i64 s.window,.int .i64 s.inbox,.int .i64 s.sectors,.int .i64 s.room,.int .u64 s.start]⟩) (.agg ⟨[.int .i64 s.mtu,.int .u64 s.ack,.int .u64 s.retry,.int .i64 s.retries,.int .i64 s.window,.int .i64 s.inbox,.int .i64 s.sectors,.int .i64 s.room,.int .u64 s.start]⟩)=some (.bool false):=by
 have h:=b_eql26 m x y s
 unfold binA at h ⊢
 simp only at h ⊢
 generalize eqOp tb m 26 x y _ _=o at h ⊢
 cases o with
 |none=>cases h
 |some b=>cases h;rfl
end Go.Proofs.YtgmkbdmgifdfeaaGreatDoor

set_option maxRecDepth 8000
namespace Go.Proofs.YtgmkbdmgifdfeaaGreatDoor
open Go Go.Ev
theorem Qbx.cell {n0:Nat} {m:Mem} {v:Value} {ss:List Stp} (h:Qbx n0 m v ss) (hn:n0≤m.next) {k:Nat} {s:Stp} (hk:ss[k]? = some s) :
  ∃ b o c ad dc,v=.slice (some ⟨b,o,none⟩) ss.length c∧SlAt m (.slice ad s.data.length dc) s.data.length (u8s s.data)∧Qdz tb 3 m (.pointer (some ⟨b,o+k*17,none⟩))=.r (.int .i64 s.kind) ∧
    Qdz tb 3 m (.pointer (some ⟨b,o+k*17+1,none⟩))=.r (.int .i64 s.node)∧Qdz tb 29 m (.pointer (some ⟨b,o+k*17+5,none⟩))=.r (.slice ad s.data.length dc):=by
 obtain⟨cells,h1,h2,h3⟩:=h
 obtain⟨h4,d,c,h5,h6,h7⟩:=h3 k s hk
 have hk1:=(Kgs.1 hk).1
 obtain⟨ad,dc,rfl⟩:=(h6.at hn).shape
 have hc:∀ j w,(Qaa s (.slice ad s.data.length dc) c)[j]? = some w→cells[k*17+j]? = some w:=by
  intro j w hj
  have hj2:j<17:=(Kgs.1 hj).1
  rw [← h5] at hj
  unfold Qbv at hj
  rw [List.getElem?_take_of_lt hj2,List.getElem?_drop] at hj
  exact hj
 obtain⟨b,o,c',e,g1,g2,g3,g4⟩:=(h1.at hn).load (hc 0 _ rfl)
 obtain⟨b',o',c'',e',g1',g2',g3',g4'⟩:=(h1.at hn).load (hc 1 _ rfl)
 obtain⟨b2,o2,c2,e2,f1,f2,f3,f4⟩:=(h1.at hn).load (hc 5 _ rfl)
 subst e
 cases e';cases e2
 exact⟨b,o,c',ad,dc,rfl,h6.at hn,g4 Ty.ti3 Ty.g3,by rw [Nat.add_assoc];exact g4' Ty.ti3 Ty.g3,by rw [Nat.add_assoc];exact f4 Ty.ti29 Ty.g29⟩
theorem vEq_stu (x:Stu):vEq 100 (.agg ⟨[.int .i64 x.mtu,.int .u64 x.ack,.int .u64 x.retry,.int .i64 x.retries,.int .i64 x.window,.int .i64 x.inbox,.int .i64 x.sectors,.int .i64 x.room,.int .u64 x.start]⟩) (.agg ⟨[.int .i64 x.mtu,.int .u64 x.ack,.int .u64 x.retry,.int .i64 x.retries,.int .i64 x.window,.int .i64 x.inbox,.int .i64 x.sectors,.int .i64 x.room,.int .u64 x.start]⟩)=true:=by
 refine vEq_a (d:=99) fun v hv=>?_
 simp only [List.mem_cons,List.not_mem_nil,or_false] at hv
 rcases hv with rfl|rfl|rfl|rfl|rfl|rfl|rfl|rfl|rfl<;>exact Qyq _ _ _
theorem vEq_ti (a:ByteArray) (k:IntKind) (n:Int):vEq 100 (.tuple ⟨[.string a,.int k n]⟩) (.tuple ⟨[.string a,.int k n]⟩)=true:=vEq_t2' 99 _ _ (vEq_s _ _) (Qyq _ _ _)
set_option maxHeartbeats 4000000 in
theorem Qra {m:Mem} {v:Value} {x:Stu} {ss:List Stp} (hE:Qcv m) (hP:Qb4 m) (hm8:8≤m.next) (hx:x.R) (hs:Qbx m.next m v ss) (hb:Qbg ss≤400000000) :
  Qaw tb 6 [.agg ⟨Qai x⟩,v] m (retR fun r m'=>r=.bool true):=by
 have hwl:=Qhe ss
 have hRR:∀ s∈ss,s.R:=fun s hs'=>by
  obtain⟨k,hk⟩:=List.getElem?_of_mem hs'
  obtain⟨_,_,_,h3⟩:=hs
  exact (h3 k s hk).1
 obtain⟨av,cv,rfl⟩:=hs.shape
 refine Qa5 Tryz.func6 e6 rfl rfl ?_
 simp only [s6,List.replicate,Klc,Kln,Kca,Kna,Nat.reduceAdd,Nat.reduceSub]
 obtain⟨q0,hq0⟩:∃ q0,q0=m.next:=⟨_,rfl⟩
 refine Qek (fun l ds m1=>ds=[]∧Old m.next m m1∧m1.next=q0+1∧vw m1 q0=some ⟨true,26,false,Qai x⟩∧Sl [.agg ⟨Qai x⟩,.slice av ss.length cv,.pointer (some ⟨q0,0,none⟩),undef,.bool false] 141 l) ?_ ?_
 rotate_left
 ·refine Qal fun Q' hQ=>?_
  simp
  subst hQ
  subst hq0
  refine⟨rfl,(Old.refl _ _).new (Knr _) _,rfl,?_,Sl.mk rfl rfl⟩
  rw [Qcs,if_pos rfl];rfl
 rintro l ds m1 ⟨rfl,hO1,hn1,hv1,us,hus,rfl⟩
 have hE1:Qcv m1:=hE.old hO1 (by omega)
 have hP1:Qb4 m1:=hP.old hO1 (by omega)
 refine Qek (fun l ds m3=>ds=[]∧Old m1.next m1 m3∧Sl [.agg ⟨Qai x⟩,.slice av ss.length cv,.pointer (some ⟨q0,0,none⟩),undef,.bool false,.string ⟨⟨(Qa8 x ss).1⟩⟩,.int .i64 (Qa8 x ss).2] 139 l) ?_ ?_
 rotate_left
 ·obtain⟨y5,y6,ts,rfl,hts⟩:∃ a b r,us=a::b::r∧r.length=139:=by
   match us,hus with
   |a::b::r,h=>exact⟨a,b,r,rfl,by simpa using h⟩
  simp only [Qai] at hv1
  refine xdrw 6 fun Q' hQ=>?_
  simp [hts,hv1,Qai]
  refine Qak (Qad (by decide)) (Qx7 (m:=m1) (ss:=ss) ((hs.old hO1).up hO1.1) (by omega)) ?_ (fun ch m' h=>h.elim)
  rintro r m2 ⟨hO2,hs2⟩
  have hv2:=hO2.vw (show q0<m1.next by omega)▸hv1
  obtain⟨aw,cw,rfl⟩:=hs2.shape
  simp [hts,hv2,vEq_stu,vEq_l]
  refine Qak (Qad (by decide)) (Qqf (m:=m2) (x:=x) (ss:=ss) (by have:=hE1.1;have:=hO2.1;omega) (hP1.old hO2 (by omega)) hx hs2 (by omega)) ?_ (fun ch m' h=>h.elim)
  rintro r m3 ⟨rfl,hO3⟩
  simp [hts,vEq_ti,vEq_l]
  subst hQ
  exact⟨rfl,hO2.trans (hO3.le hO2.1),Sl.mk rfl (by simp [hts])⟩
 rintro l ds m3 ⟨rfl,hO3,vs,hvs,rfl⟩
 have hO13:Old m.next m m3:=hO1.trans (hO3.le hO1.1)
 have hv3:=hO3.vw (show q0<m1.next by omega)▸hv1
 have hE3:Qcv m3:=hE1.old hO3 (by omega)
 have hP3:Qb4 m3:=hP1.old hO3 (by omega)
 have h83:8≤m3.next:=by have:=hE3.1;omega
 have hs3:Qbx m3.next m3 (.slice av ss.length cv) ss:=(hs.old hO13).up hO13.1
 simp only [Qai] at hv3
 obtain⟨t,e,hpo⟩:∃ t e,Qa8 x ss=(t,e):=⟨_,_,rfl⟩
 rw [hpo]
 simp only
 refine xseq (xseq (Qal fun Q' hQ=>?_))
 simp [hvs]
 refine Qak (Qad (by decide)) (Qo6 m3 e) ?_ (fun ch m' h=>h.elim)
 rintro r m4 ⟨rfl,rfl⟩
 simp [hvs]
 subst hQ
 refine xif (v:=!decide (e=0)) (by simp [hvs]) (fun he=>?_) (fun he=>Qbd ?_)
 ·have he':e≠0:=by simpa using he
  have ht:t=[]:=by
   have h:=hpo
   unfold Qa8 at h
   split at h
   ·split at h
    ·exact (Prod.mk.inj h).1.symm
    ·split at h
     ·exact (Prod.mk.inj h).1.symm
     ·exact absurd (Prod.mk.inj h).2.symm he'
   ·exact (Prod.mk.inj h).1.symm
  subst ht
  refine xsr fun Q' hQ=>?_
  simp [hvs,hv3]
  refine Qak (Qad (by decide)) (Qzo (m:=m4) (x:=x) (ss:=ss) h83 hP3 hx hs3 (by omega)) ?_ (fun ch m' h=>h.elim)
  rintro r m5 ⟨rfl,hO5⟩
  rw [hpo]
  simp [hvs]
  subst hQ
  refine xsr fun Q' hQ=>?_
  simp [hvs]
  refine Qak (Qad (by decide)) (Qo6 m5 e) ?_ (fun ch m' h=>h.elim)
  rintro r m6 ⟨rfl,rfl⟩
  simp [hvs]
  refine Qak (Qad (by decide)) (Qvz (hE3.old hO5 (by omega)) (hP3.old hO5 (by omega)) (by have:=hO5.1;omega)) ?_ (fun ch m' h=>h.elim)
  rintro r m7 ⟨rfl,hO7⟩
  subst hQ
  exact xret ⟨rfl,_,Qat _,by simp [hvs]⟩
 have he':e=0:=by simpa using he
 subst he'
 obtain⟨rfl,htl,hpar,hok,hhg⟩:=Que hx hRR hpo
 obtain⟨tx,htx⟩:∃ tx,tx=Qba x ss:=⟨_,rfl⟩
 rw [← htx] at htl hpar hpo
 rw [← htx]
 have hcan:=Qud (x:=x) (l:=ss) fun s hs=>(hok s hs).1
 obtain⟨hR,hln⟩:=Jaa tx
 obtain⟨hxR,hW⟩:=Qz9 tx
 rw [hpar] at hR hln hW
 simp only at hR hln hW
 obtain⟨cs,hcs⟩:∃ cs,cs=ss.map Qdh:=⟨_,rfl⟩
 have hcl:cs.length=ss.length:=by rw [hcs,List.length_map]
 rw [← hcs] at hpar hR hln hW hcan
 refine xsr fun Q' hQ=>?_
 simp [hvs]
 refine Qak (Qad (by decide)) (Qvv hE3 (tx:=tx) (by omega)) ?_ (fun ch m' h=>h.elim)
 rintro r m5 ⟨v1,rfl,hs5,hO5⟩
 rw [hpar] at hs5 ⊢
 simp only at hs5 ⊢
 simp only [Qa4]
 simp [stOk,oneC,hvs]
 subst hQ
 obtain⟨m6,hm6,hn6,hv6,hg6,hO6⟩:=Jb3 m5 x
 obtain⟨q1,hq1⟩:∃ q1,q1=m5.next:=⟨_,rfl⟩
 rw [← hm6,← hq1]
 rw [← hq1] at hn6 hv6 hg6
 clear hm6
 have hs6:Qd9 m4.next m6 v1 cs:=hs5.ex (by omega) fun y V hy _ _ _=>hg6 y (by omega)
 have hO46:Old m4.next m4 m6:=hO5.trans (hO6.le hO5.1)
 have hv61:=hO46.vw (show q0<m4.next by have:=hO3.1;omega)▸hv3
 have hE6:Qcv m6:=hE3.old hO46 (by omega)
 have hP6:Qb4 m6:=hP3.old hO46 (by omega)
 have h86:8≤m6.next:=by have:=hE6.1;omega
 have hs66:Qbx m6.next m6 (.slice av ss.length cv) ss:=(hs3.old hO46).up hO46.1
 have hRc:∀ s∈cs,s.R:=fun s hs=>(hR s hs).1
 obtain⟨a1,rfl⟩:=hs6.shape
 have hsc:Qbx m6.next m6 (.slice a1 cs.length cs.length) cs:=Qrt hs6 hRc
 obtain⟨y7,y8,y9,y10,y11,y12,y13,ws,rfl,hws⟩:∃ a b c d e f g r,vs=a::b::c::d::e::f::g::r∧r.length=132:=by
  match vs,hvs with
  |a::b::c::d::e::f::g::r,h=>exact⟨a,b,c,d,e,f,g,r,rfl,by simpa using h⟩
 refine Qek (fun l ds m7=>ds=[]∧m7=m6∧Sl [.agg ⟨Qai x⟩,.slice av ss.length cv,.pointer (some ⟨q0,0,none⟩),undef,.bool false,.string ⟨⟨tx⟩⟩,.int .i64 0,y7,y8,.pointer (some ⟨q1,0,none⟩),.slice a1 cs.length cs.length,.int .i64 0] 134 l) ?_ ?_
 rotate_left
 ·refine xsr fun Q' hQ=>?_
  simp [hws]
  refine Qak (Qad (by decide)) (Qo6 m6 0) ?_ (fun ch m' h=>h.elim)
  rintro r m7 ⟨rfl,rfl⟩
  simp [hws,hv6,hv61,b_neq26,hcl]
  subst hQ
  refine xno (by simp [hws]) (Qbd ?_)
  exact⟨rfl,rfl,Sl.mk (by rw [hcl];rfl) (by simp [hws])⟩
 rintro l ds m7 ⟨rfl,rfl,zs,hzs,rfl⟩
 refine Qek (fun l ds m8=>ds=[]∧Old m7.next m7 m8∧Sl [.agg ⟨Qai x⟩,.slice av ss.length cv,.pointer (some ⟨q0,0,none⟩),undef,.bool false,.string ⟨⟨tx⟩⟩,.int .i64 0,y7,y8,.pointer (some ⟨q1,0,none⟩),.slice a1 cs.length cs.length,.int .i64 0] 134 l) ?_ ?_
 rotate_left
 ·refine xsr fun Q' hQ=>?_
  simp [hzs]
  subst hQ
  refine Qax (Qem (N:=cs.length) (I:=fun n l ds m8=>∃ k:Nat,n=cs.length-k∧k≤cs.length∧ds=[]∧Old m7.next m7 m8∧Sl [.agg ⟨Qai x⟩,.slice av ss.length cv,.pointer (some ⟨q0,0,none⟩),undef,.bool false,.string ⟨⟨tx⟩⟩,.int .i64 0,y7,y8,.pointer (some ⟨q1,0,none⟩),.slice a1 cs.length cs.length,.int .i64 0,.int .i64 (k:Nat)] 133 l) ?_ ?_)
  ·obtain⟨z,zs',rfl,hzs'⟩:=Qe9 (n:=133) hzs
   exact⟨0,rfl,by omega,rfl,.refl _ _,Sl.mk rfl (by simp [hzs'])⟩
  rintro n l ds m8 ⟨k,rfl,hk,rfl,hO8,us2,hus2,rfl⟩
  refine xseq (xseq (Qal fun Q' hQ=>?_))
  simp [hus2]
  subst hQ
  refine xif (v:=decide ((k:Int)<(cs.length:Int))) (by simp [hus2]) (fun h=>Qbd ?_) (fun h=>Qdy ?_)
  ·simp only [decide_eq_true_eq] at h
   have hk2:k<cs.length:=by omega
   have hk3:k<ss.length:=by omega
   have hss:ss[k]? = some ss[k]:=Kge hk3
   generalize ss[k]=s at hss
   have hcc:cs[k]? = some (Qdh s):=by rw [hcs,List.getElem?_map,hss];rfl
   obtain⟨-,-,-,c4,c5,c6⟩:=Qkk (hok s (List.mem_of_getElem? hss)).1
   obtain⟨b1,o1,k1,ad,dc,e1,hd1,l1,l2,l3⟩:=(hsc.old hO8).cell hO8.1 hcc
   obtain⟨b2,o2,k2,ad',dc',e2,hd2,l4,l5,l6⟩:=(hs66.old hO8).cell hO8.1 hss
   cases e1;cases e2
   have f1:=c29_9 hd1
   have f2:=c29_9 hd2
   rw [c4] at l1
   refine xseq (Qax (Qek (fun l ds m9=>ds=[]∧m9=m8∧gx l 128=.bool false∧Sl [.agg ⟨Qai x⟩,.slice (some ⟨b2,o2,none⟩) ss.length cv,.pointer (some ⟨q0,0,none⟩),undef,.bool false,.string ⟨⟨tx⟩⟩,.int .i64 0,y7,y8,.pointer (some ⟨q1,0,none⟩),.slice (some ⟨b1,o1,none⟩) cs.length cs.length,.int .i64 0,.int .i64 (k:Nat)] 133 l) ?_ ?_))
   rotate_left
   ·refine xdrw 1 fun Q' hQ=>?_
    by_cases hz:(Qdh s).node=0<;>by_cases hd:(Qdh s).data=[]
    ·rw [hz] at l2
     rw [hd] at l3 f1
     simp [hus2,h,hk2,hk3,l1,l2,l3,l4,l5,l6,f1,f2]
     subst hQ
     exact⟨rfl,rfl,by simp [hus2],Sl.mk rfl (by simp [hus2])⟩
    ·have e5:=c6.resolve_left hd
     have hd0:¬ s.data=[]:=e5▸hd
     rw [hz] at l2
     rw [e5] at l3 f1
     simp [hus2,h,hk2,hk3,l1,l2,l3,l4,l5,l6,f1,f2,hd0]
     subst hQ
     exact⟨rfl,rfl,by simp [hus2],Sl.mk rfl (by simp [hus2])⟩
    ·have e4:=c5.resolve_left hz
     have hz0:¬ s.node=0:=e4▸hz
     rw [e4] at l2
     rw [hd] at l3 f1
     simp [hus2,h,hk2,hk3,l1,l2,l3,l4,l5,l6,f1,f2,hz0]
     subst hQ
     exact⟨rfl,rfl,by simp [hus2],Sl.mk rfl (by simp [hus2])⟩
    ·have e4:=c5.resolve_left hz
     have hz0:¬ s.node=0:=e4▸hz
     have e5:=c6.resolve_left hd
     have hd0:¬ s.data=[]:=e5▸hd
     rw [e4] at l2
     rw [e5] at l3 f1
     simp [hus2,h,hk2,hk3,l1,l2,l3,l4,l5,l6,f1,f2,hz0,hd0]
     subst hQ
     exact⟨rfl,rfl,by simp [hus2],Sl.mk rfl (by simp [hus2])⟩
   rintro l ds m9 ⟨rfl,rfl,hg,us3,hus3,rfl⟩
   refine xif (v:=false) (by rw [Qei];exact hg) (fun h=>by cases h) (fun _=>Qbd ?_)
   refine Qal fun Q' hQ=>?_
   simp [hus3]
   rw [wr64 _ (by omega) (by omega)]
   subst hQ
   exact⟨cs.length-(k+1),by omega,k+1,rfl,by omega,rfl,hO8,Sl.mk rfl (by simp [hus3])⟩
  ·simp only [decide_eq_false_iff_not] at h
   exact⟨rfl,hO8,Sl.mk rfl (by simp [hus2])⟩
 rintro l ds m8 ⟨rfl,hO8,us2,hus2,rfl⟩
 have hv8:=hO8.vw (show q1<m7.next by omega)▸hv6
 refine xsr fun Q' hQ=>?_
 simp [hus2,hv8]
 refine Qak (Qad (by decide)) (Qqf (m:=m8) (x:=x) (ss:=cs) (by have:=hO8.1;omega) (hP6.old hO8 (by omega)) hx ((hsc.old hO8).up hO8.1) (by omega)) ?_ (fun ch m' h=>h.elim)
 rintro r m9 ⟨rfl,hO9⟩
 rw [hcan.2,hpo]
 simp [hus2]
 subst hQ
 refine xsr fun Q' hQ=>?_
 simp [hus2]
 refine Qak (Qad (by decide)) (Qo6 m9 0) ?_ (fun ch m' h=>h.elim)
 rintro r m10 ⟨rfl,rfl⟩
 simp [hus2]
 refine Qak (Qad (by decide)) (Qvz ((hE6.old hO8 (by omega)).old hO9 (by have:=hO8.1;omega)) ((hP6.old hO8 (by omega)).old hO9 (by have:=hO8.1;omega)) (by have:=hO8.1;have:=hO9.1;omega)) ?_ (fun ch m' h=>h.elim)
 rintro r m11 ⟨rfl,hO11⟩
 subst hQ
 exact xret ⟨rfl,_,Qat _,by simp [hus2]⟩
end Go.Proofs.YtgmkbdmgifdfeaaGreatDoor

set_option maxRecDepth 100000
namespace Go.Proofs.YtgmkbdmgifdfeaaGreatDoor
open Go Go.Ev Go.RowKit
theorem Qll {P:Program} {w:World}:∀ {l:List (String × DataW Unit)} {ps:List MemPlace},DataW.LaidVars P w l ps→∀ n d,(n,d)∈l →
  ∃ g t cs fuel p,P.globalNamed n=some g∧(P.globals[g]?).map (·.type)=some t∧w.var? P n=some cs∧DataW.trod (fun _=>()) P w 0 (fun _=>true) false fuel t cs.toList=some (d,p)∧∀ x∈MemPlace.row ⟨g,0,none⟩ cs.size,x∈ps
 | [],_,_,_,_,hm=>by cases hm
 | (n',d')::r,ps,h,n,d,hm=>by
   obtain⟨g,t,cs,fuel,p,q,h1,h2,h3,h4,h5,h6⟩:=h
   rcases List.mem_cons.1 hm with e|e
   ·cases e
    exact⟨g,t,cs,fuel,p,h1,h2,h3,h4,fun x hx=>by rw [h6];simp [hx]⟩
   ·obtain⟨g',t',cs',fuel',p',k1,k2,k3,k4,k5⟩:=Qll h5 n d e
    exact⟨g',t',cs',fuel',p',k1,k2,k3,k4,fun x hx=>by rw [h6];simp [k5 x hx]⟩
theorem Qvy {P:Program} {w:World} {l:List (String × DataW Unit)} (h:laidMet P l w) {n:String} {d:DataW Unit} (hm:(n,d)∈l) {g0:Nat} (hg:P.globalNamed n=some g0) :
  ∃ t cs fuel p,(P.globals[g0]?).map (·.type)=some t∧w.var? P n=some cs∧DataW.trod (fun _=>()) P w 0 (fun _=>true) false fuel t cs.toList=some (d,p)∧(0<cs.size→∃ t',w.heap[g0]? = some (.cells cs t' (0,0))):=by
 obtain⟨ps,hv,hn,hr⟩:=h
 obtain⟨g,t,cs,fuel,p,k1,k2,k3,k4,k5⟩:=Qll hv n d hm
 obtain rfl:=Kai (hg.symm.trans k1)
 refine⟨t,cs,fuel,p,k2,k3,k4,fun hpos=>?_⟩
 obtain⟨⟨c,t',hc⟩,_⟩:=hr g0 0 (k5 _ (MemPlace.mem_row.2 ⟨0,hpos,by simp⟩))
 have:=k3
 simp only [World.var?,hg,Option.bind_some,hc,Kaj] at this
 subst this
 exact⟨t',hc⟩
theorem Qxf:(Rows.laid_internal_strconv_uint64pow10:DataW Unit)=Lib.tabData .u64 ((List.range 20).map fun i=>((10 ^ i:Nat):Int)):=by kernel_rfl
theorem und165:Tryz.prog.underlying 177=some (.array 20 22):=by kernel_rfl
theorem cells177:Tryz.prog.cellsOf 177=20:=by kernel_rfl
theorem tPow10:(Tryz.prog.globals[0]?).map (·.type)=some 177:=by kernel_rfl
theorem Qss:Tryz.prog.globalNamed "strconv.ErrRange" = some 7:=by kernel_rfl
theorem of_laid {laid:List (String × DataW Unit)} {W:World} (h:laidMet Tryz.prog laid W) (h1:("internal/strconv.uint64pow10",Rows.laid_internal_strconv_uint64pow10)∈laid) (h2:("strconv.ErrRange",Rows.laid_strconv_ErrRange)∈laid) :
  8≤W.heap.size∧∃ t,W.heap[0]? = some (.cells ⟨Qbp⟩ t (0,0)):=by
 constructor
 ·obtain⟨t,cs,fuel,p,_,hv,_⟩:=Qvy h h2 Qss
  simp only [World.var?,Qss,Option.bind_some] at hv
  split at hv<;>first|(simp at hv;done)|skip
  rename_i hb
  have:=(Array.getElem?_eq_some_iff.1 hb).1
  omega
 ·obtain⟨t,cs,fuel,p,ht,hv,hd,hr⟩:=Qvy h h1 Qr4
  obtain rfl:=Kai (tPow10.symm.trans ht)
  rw [Qxf] at hd
  have hc:=Lib.cells_of_tab und165 Tryz.underlying22 (by kernel_rfl) cells177 hd
  have hc2:cs=⟨Qbp⟩:=by
   apply Array.ext'
   rw [hc,List.map_map]
   rfl
  subst hc2
  exact hr (by simp [Qbp])
theorem pow_abs {W:World} {t:TypeId} (h8:8≤W.heap.size) (h:W.heap[0]? = some (.cells ⟨Qbp⟩ t (0,0))):Qb4 (absM W):=by
 refine⟨by show 0<W.heap.size;omega,t,?_⟩
 unfold vw
 rw [Qko,h]
 show Qjc false (Qhw W.heap.size ⟨Qbp⟩ t (0,0))=_
 refine Qir (cs:=Qbp) (by rfl) (by simp [Qhw]) fun i=>?_
 rw [Qhp]
 by_cases hi:i<20
 ·have hl:i<Qbp.length:=by simpa [Qbp] using hi
  rw [show (⟨Qbp⟩:Array Value)[i]? = some Qbp[i] from by simp [hl],Kge hl]
  simp [Qbp,absC]
 ·rw [Array.getElem?_eq_none (by simp [Qbp];omega),List.getElem?_eq_none (by simp [Qbp];omega)];rfl
end Go.Proofs.YtgmkbdmgifdfeaaGreatDoor

set_option maxRecDepth 8000
namespace Go.Proofs.YtgmkbdmgifdfeaaGreatDoor
open Go Go.Ev Go.Deep
section
variable {H:Type}
theorem Qc3 (d:DataW H):1≤Rows.uptoBulk d:=by
 cases d with
 |lit l=>cases l<;>simp [Rows.uptoBulk]
 |nil=>simp [Rows.uptoBulk]
 |ptr d=>simp [Rows.uptoBulk]
 |slice elems spare=>simp [Rows.uptoBulk]
 |agg parts=>simp [Rows.uptoBulk]
 |iface t d=>simp [Rows.uptoBulk]
 |map entries=>simp [Rows.uptoBulk]
 |held h=>simp [Rows.uptoBulk]
theorem bulk_app (l r:List (DataW H)):Rows.uptoBulkAll (l++r)=Rows.uptoBulkAll l+Rows.uptoBulkAll r:=by
 induction l with
 |nil=>simp [Rows.uptoBulkAll]
 |cons x l ih=>simp only [Kca,Rows.uptoBulkAll,ih];omega
theorem bulk_len (l:List (DataW H)):l.length≤Rows.uptoBulkAll l:=by
 induction l with
 |nil=>simp
 |cons x r ih=>have:=Qc3 x;simp only [Rows.uptoBulkAll,Klc];omega
end
theorem Jb8 (b o i:Nat):(⟨b,o,none⟩:Addr).add i=⟨b,o+i,none⟩:=by
 unfold Addr.add
 split
 ·rename_i h;subst h;rfl
 ·rfl
def intAt:Value→Int
 | .int _ n=>n
 |_=>0
theorem Qru {W:World} {a:Addr} {v:Value} (h:W.cell? a=some v):a.spot=none∧a.block<W.heap.size:=by
 obtain⟨b,o,s⟩:=a
 unfold World.cell? at h
 split at h
 ·rename_i c t fr hb
  simp only at hb h
  refine⟨?_,(Array.getElem?_eq_some_iff.1 hb).1⟩
  cases s with
  |none=>rfl
  |some s=>simp at h
 ·cases h
section
variable {H:Type} {enc:TypeId × Value→H} {W:World} {held:Bool}
theorem Qr2 {t e:TypeId} {k:IntKind} {fuel:Nat} {v:Value} {x:DataW H × List MemPlace} (ht:Tryz.prog.underlying t=some (.slice e)) (he:Tryz.prog.underlying e=some (.int k)) (hc:Tryz.prog.cellsOf e=1)
  (h:DataW.trod enc Tryz.prog W 0 (fun _=>true) held fuel t [v]=some x) :
  ∃ (zs:List Int) (v':Value),absC W.heap.size v=some v'∧(∀ z∈zs,(Lit.int k z).wf=true)∧SlOld W.heap.size (absM W) v' zs.length (zs.map (Value.int k ·))∧zs.length+1≤Rows.uptoBulk x.1:=by
 rcases open_slice1 ht hc h with ⟨e1,rfl⟩|⟨a,len,cap,m,n,V,D,Pl,e1,hb,hl,hm,hmm,rfl,hx⟩
 ·cases e1
  exact⟨[],_,rfl,by simp,.inl ⟨rfl,rfl,rfl⟩,by simp [Rows.uptoBulk]⟩
 ·cases e1
  simp only [if_true] at hmm
  subst hmm
  have hV:∀ i,i<m→W.cell? (a.add i)=some (.int k (intAt (V i)))∧(Lit.int k (intAt (V i))).wf=true:=by
   intro i hi
   obtain⟨h1,h2⟩:=hx i hi
   obtain⟨z,h3,_,h4⟩:=DataW.trod_int he h2
   simp only [List.cons.injEq,and_true] at h3
   rw [h3] at h1
   rw [h3]
   exact⟨h1,h4⟩
  by_cases h0:m=0
  ·subst h0
   obtain rfl:len=0:=by omega
   refine⟨[],.slice (some ⟨0,0,none⟩) 0 0,by unfold absC;simp,by simp,.inr ⟨0,0,0,rfl,Knr _,.inl rfl⟩,?_⟩
   simp [Rows.uptoBulk]
  ·have hs:=Qru (hV 0 (by omega)).1
   obtain⟨b,o,s⟩:=a
   have hsb:s=none∧b<W.heap.size:=by
    simpa [Addr.add] using hs
   obtain⟨rfl,hb2⟩:=hsb
   refine⟨(List.range len).map fun i=>intAt (V i),.slice (some ⟨b,o,none⟩) len m,?_,?_,?_,?_⟩
   ·unfold absC;simp [h0,hb2]
   ·intro z hz
    obtain⟨i,hi,rfl⟩:=List.mem_map.1 hz
    exact (hV i (by have:=List.mem_range.1 hi;omega)).2
   ·simp only [List.length_map,List.length_range]
    by_cases h1:len=0
    ·subst h1
     exact .inr ⟨b,o,m,rfl,by omega,.inl rfl⟩
    ·refine .inr ⟨b,o,m,rfl,hl,.inr ?_⟩
     refine Jca (by simp;omega) fun i v' hi=>?_
     have hlt:=(Kgs.1 hi).1
     simp only [List.length_map,List.length_range] at hlt
     have:=(hV i (by omega)).1
     rw [Jb8] at this
     refine⟨_,this,?_⟩
     simp [hlt] at hi
     rw [← hi];rfl
   ·have h1:=bulk_len ((List.range len).map D)
    simp only [List.length_map,List.length_range] at h1
    simp only [Rows.uptoBulk,List.length_map,List.length_range]
    omega
theorem u8_map:∀ {zs:List Int},(∀ z∈zs,(Lit.int .u8 z).wf=true)→∃ bs:List UInt8,bs.length=zs.length∧u8s bs=zs.map (Value.int .u8 ·)
 | [],_=>⟨[],rfl,rfl⟩
 |z::zs,h=>by
  obtain⟨bs,h1,h2⟩:=u8_map (zs:=zs) fun y hy=>h y (List.mem_cons_of_mem _ hy)
  have hz:0≤z∧z≤255:=by simpa [Lit.wf,IntKind.min,IntKind.max,IntKind.signed,IntKind.bits] using h z (List.mem_cons_self ..)
  refine⟨UInt8.ofNat z.toNat::bs,by simp [h1],?_⟩
  rw [Qfr] at h2 ⊢
  simp only [List.map_cons,h2,List.cons.injEq,and_true]
  congr 1
  rw [UInt8.toNat_ofNat',Nat.mod_eq_of_lt (by omega)]
  omega
theorem wf64 {z:Int} (h:(Lit.int .i64 z).wf=true):i64R z:=by simpa [Lit.wf,IntKind.min,IntKind.max,IntKind.signed,IntKind.bits,i64R] using h
theorem Qrk {z:Int} (h:(Lit.int .u64 z).wf=true):u64R z:=by simpa [Lit.wf,IntKind.min,IntKind.max,IntKind.signed,IntKind.bits,u64R] using h
theorem wfu32 {z:Int} (h:(Lit.int .u32 z).wf=true):u32R z:=by simpa [Lit.wf,IntKind.min,IntKind.max,IntKind.signed,IntKind.bits,u32R] using h
theorem Qbz {t:TypeId} {k:IntKind} {n:Nat} {c:Value} {x:DataW H × List MemPlace} (ht:Tryz.prog.underlying t=some (.int k)) (h:DataW.trod enc Tryz.prog W 0 (fun _=>true) held n t [c]=some x):∃ z,c=.int k z∧(Lit.int k z).wf=true:=by
 obtain⟨z,h1,_,h2⟩:=DataW.trod_int ht h
 simp only [List.cons.injEq,and_true] at h1
 exact⟨z,h1,h2⟩
theorem cl3:Tryz.prog.cellsOf 3=1:=by kernel_rfl
theorem cl5:Tryz.prog.cellsOf 5=1:=by kernel_rfl
theorem cl22:Tryz.prog.cellsOf 22=1:=by kernel_rfl
theorem cl29:Tryz.prog.cellsOf 29=1:=by kernel_rfl
theorem cl32:Tryz.prog.cellsOf 32=2:=by kernel_rfl
theorem cl33:Tryz.prog.cellsOf 33=1:=by kernel_rfl
theorem cl34:Tryz.prog.cellsOf 34=1:=by kernel_rfl
theorem cl36:Tryz.prog.cellsOf 36=17:=by kernel_rfl
theorem cl26:Tryz.prog.cellsOf 26=9:=by kernel_rfl
theorem cl24:Tryz.prog.cellsOf 24=6:=by kernel_rfl
theorem Qzy {fuel:Nat} {cs:List Value} {x:DataW H × List MemPlace} (h:DataW.trod enc Tryz.prog W 0 (fun _=>true) held fuel 36 cs=some x) :
  ∃ s d c d' c',s.R∧cs=Qaa s d c∧absC W.heap.size d=some d'∧absC W.heap.size c=some c'∧SlOld W.heap.size (absM W) d' s.data.length (u8s s.data)∧SlOld W.heap.size (absM W) c' s.choices.length (i64s s.choices) ∧
    s.data.length+s.choices.length+16≤Rows.uptoBulk x.1:=by
 obtain⟨xs,n,rfl,rfl,hcl,hxl,hf⟩:=DataW.trod_struct Tryz.underlying36 h
 rw [cl36] at hcl
 match cs,hcl with
 | [c0,c1,c2,c3,c4,c5,c6,c7,c8,c9,c10,c11,c12,c13,c14,c15,c16],_ =>
 match xs,hxl with
 | [x0,x1,x2,x3,x4,x5,x6,x7,x8,x9,x10,x11,x12,x13,x14,x15],_ =>
 have h0:=hf 0 _ rfl
 have h1:=hf 1 _ rfl
 have h2:=hf 2 _ rfl
 have h3:=hf 3 _ rfl
 have h4:=hf 4 _ rfl
 have h5:=hf 5 _ rfl
 have h6:=hf 6 _ rfl
 have h7:=hf 7 _ rfl
 have h8:=hf 8 _ rfl
 have h9:=hf 9 _ rfl
 have h10:=hf 10 _ rfl
 have h11:=hf 11 _ rfl
 have h12:=hf 12 _ rfl
 have h13:=hf 13 _ rfl
 have h14:=hf 14 _ rfl
 have h15:=hf 15 _ rfl
 clear hf h
 simp only [cl3,cl22,cl29,cl32,cl33,cl34,List.drop_succ_cons,List.drop_zero,List.take_succ_cons,List.take_zero,List.getElem?_cons_succ,List.getElem?_cons_zero] at h0 h1 h2 h3 h4 h5 h6 h7 h8 h9 h10 h11 h12 h13 h14 h15
 obtain⟨kind,rfl,w0⟩:=Qbz Tryz.underlying3 h0
 obtain⟨node,rfl,w1⟩:=Qbz Tryz.underlying3 h1
 obtain⟨stream,rfl,w2⟩:=Qbz Tryz.underlying3 h2
 obtain⟨time,rfl,w3⟩:=Qbz Tryz.underlying22 h3
 obtain⟨life,rfl,w4⟩:=Qbz Tryz.underlying22 h4
 obtain⟨zs,d',hd,wd,sd,bd⟩:=Qr2 Tryz.underlying29 Tryz.underlying5 cl5 h5
 obtain⟨bs,hbl,hbs⟩:=u8_map wd
 obtain⟨seq,rfl,w6⟩:=Qbz Tryz.underlying22 h6
 obtain⟨ys,n2,_,_,_,hyl,hq⟩:=DataW.trod_struct Tryz.underlying32 h7
 match ys,hyl with
 | [y0,y1],_ =>
 have q0:=hq 0 _ rfl
 have q1:=hq 1 _ rfl
 simp only [cl3,List.drop_succ_cons,List.drop_zero,List.take_succ_cons,List.take_zero,List.getElem?_cons_succ,List.getElem?_cons_zero] at q0 q1
 obtain⟨qc,rfl,wq0⟩:=Qbz Tryz.underlying3 q0
 obtain⟨qb,rfl,wq1⟩:=Qbz Tryz.underlying3 q1
 obtain⟨way,rfl,w8⟩:=Qbz Tryz.underlying3 h8
 obtain⟨place,rfl,w9⟩:=Qbz Tryz.underlying3 h9
 obtain⟨pos,rfl,w10⟩:=Qbz Tryz.underlying3 h10
 obtain⟨mask,rfl,w11⟩:=Qbz Tryz.underlying33 h11
 obtain⟨ticks,rfl,w12⟩:=Qbz Tryz.underlying22 h12
 obtain⟨ch,c',hc,wc,sc,bc⟩:=Qr2 Tryz.underlying34 Tryz.underlying3 cl3 h13
 obtain⟨cursor,rfl,w14⟩:=Qbz Tryz.underlying3 h14
 obtain⟨to,rfl,w15⟩:=Qbz Tryz.underlying22 h15
 refine⟨⟨kind,node,stream,time,life,bs,seq,qc,qb,way,place,pos,mask,ticks,ch,cursor,to⟩,c5,c14,d',c',
  ⟨wf64 w0,wf64 w1,wf64 w2,Qrk w3,Qrk w4,Qrk w6,wf64 wq0,wf64 wq1,wf64 w8,wf64 w9,wf64 w10,wfu32 w11,Qrk w12,fun z hz=>wf64 (wc z hz),wf64 w14,Qrk w15⟩,rfl,hd,hc,?_,sc,?_⟩
 ·show SlOld W.heap.size (absM W) d' bs.length (u8s bs)
  rw [hbl,hbs];exact sd
 ·have b0:=Qc3 x0.1
  have b1:=Qc3 x1.1
  have b2:=Qc3 x2.1
  have b3:=Qc3 x3.1
  have b4:=Qc3 x4.1
  have b6:=Qc3 x6.1
  have b7:=Qc3 x7.1
  have b8:=Qc3 x8.1
  have b9:=Qc3 x9.1
  have b10:=Qc3 x10.1
  have b11:=Qc3 x11.1
  have b12:=Qc3 x12.1
  have b14:=Qc3 x14.1
  have b15:=Qc3 x15.1
  simp only [Rows.uptoBulk,Rows.uptoBulkAll,List.map_cons,List.map_nil]
  omega
end
end Go.Proofs.YtgmkbdmgifdfeaaGreatDoor

