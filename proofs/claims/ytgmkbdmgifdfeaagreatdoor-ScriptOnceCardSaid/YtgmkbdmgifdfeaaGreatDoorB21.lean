/- A part of a proof: ScriptOnce. -/
import Derived.Test.YtgmkbdmgifdfeaaGreatDoorB20
set_option linter.unusedVariables false
set_option linter.unusedSimpArgs false
set_option maxRecDepth 8000
namespace Go.Proofs.YtgmkbdmgifdfeaaGreatDoor
open Go Go.Ev
def stpCells (s:Stp) (d c:Value):List Value :=
 [.int .i64 s.kind,.int .i64 s.node,.int .i64 s.stream,.int .u64 s.time,.int .u64 s.life,d,.int .u64 s.seq,.int .i64 s.qc,.int .i64 s.qb,.int .i64 s.way,.int .i64 s.place,.int .i64 s.pos,.int .u32 s.mask,.int .u64 s.ticks,c,.int .i64 s.cursor,.int .u64 s.to]
def Adr (g o:Nat):Prop:=tb.ov.get g=none∧∀ (m:Mem) (b:Nat),CallsA tb g [.pointer (some ⟨b,0,none⟩)] m (retR fun r m'=>r=.pointer (some ⟨b,o,none⟩)∧m'=m)
theorem adr82:Adr 82 2:=by
 refine⟨ov_none (by decide),fun m b=>?_⟩
 refine callsS Tryz.func82 e82 rfl rfl ?_
 simp only [s82,List.replicate,List.length_cons,List.length_nil,List.cons_append,List.nil_append,Nat.reduceAdd,Nat.reduceSub]
 refine xsr fun Q' hQ=>?_
 simp
 subst hQ
 refine xsr fun Q' hQ=>?_
 simp
 subst hQ
 refine xret ?_
 exact⟨rfl,_,resX_one _,rfl,rfl⟩
theorem adr89:Adr 89 3:=by
 refine⟨ov_none (by decide),fun m b=>?_⟩
 refine callsS Tryz.func89 e89 rfl rfl ?_
 simp only [s89,List.replicate,List.length_cons,List.length_nil,List.cons_append,List.nil_append,Nat.reduceAdd,Nat.reduceSub]
 refine xsr fun Q' hQ=>?_
 simp
 subst hQ
 refine xsr fun Q' hQ=>?_
 simp
 subst hQ
 refine xret ?_
 exact⟨rfl,_,resX_one _,rfl,rfl⟩
theorem adr55:Adr 55 4:=by
 refine⟨ov_none (by decide),fun m b=>?_⟩
 refine callsS Tryz.func55 e55 rfl rfl ?_
 simp only [s55,List.replicate,List.length_cons,List.length_nil,List.cons_append,List.nil_append,Nat.reduceAdd,Nat.reduceSub]
 refine xsr fun Q' hQ=>?_
 simp
 subst hQ
 refine xsr fun Q' hQ=>?_
 simp
 subst hQ
 refine xret ?_
 exact⟨rfl,_,resX_one _,rfl,rfl⟩
theorem adr54:Adr 54 6:=by
 refine⟨ov_none (by decide),fun m b=>?_⟩
 refine callsS Tryz.func54 e54 rfl rfl ?_
 simp only [s54,List.replicate,List.length_cons,List.length_nil,List.cons_append,List.nil_append,Nat.reduceAdd,Nat.reduceSub]
 refine xsr fun Q' hQ=>?_
 simp
 subst hQ
 refine xsr fun Q' hQ=>?_
 simp
 subst hQ
 refine xret ?_
 exact⟨rfl,_,resX_one _,rfl,rfl⟩
theorem adr51:Adr 51 7:=by
 refine⟨ov_none (by decide),fun m b=>?_⟩
 refine callsS Tryz.func51 e51 rfl rfl ?_
 simp only [s51,List.replicate,List.length_cons,List.length_nil,List.cons_append,List.nil_append,Nat.reduceAdd,Nat.reduceSub]
 refine xsr fun Q' hQ=>?_
 simp
 subst hQ
 refine xsr fun Q' hQ=>?_
 simp
 subst hQ
 refine xret ?_
 exact⟨rfl,_,resX_one _,rfl,rfl⟩
theorem adr52:Adr 52 8:=by
 refine⟨ov_none (by decide),fun m b=>?_⟩
 refine callsS Tryz.func52 e52 rfl rfl ?_
 simp only [s52,List.replicate,List.length_cons,List.length_nil,List.cons_append,List.nil_append,Nat.reduceAdd,Nat.reduceSub]
 refine xsr fun Q' hQ=>?_
 simp
 subst hQ
 refine xsr fun Q' hQ=>?_
 simp
 subst hQ
 refine xret ?_
 exact⟨rfl,_,resX_one _,rfl,rfl⟩
theorem adr97:Adr 97 10:=by
 refine⟨ov_none (by decide),fun m b=>?_⟩
 refine callsS Tryz.func97 e97 rfl rfl ?_
 simp only [s97,List.replicate,List.length_cons,List.length_nil,List.cons_append,List.nil_append,Nat.reduceAdd,Nat.reduceSub]
 refine xsr fun Q' hQ=>?_
 simp
 subst hQ
 refine xsr fun Q' hQ=>?_
 simp
 subst hQ
 refine xret ?_
 exact⟨rfl,_,resX_one _,rfl,rfl⟩
theorem adr98:Adr 98 11:=by
 refine⟨ov_none (by decide),fun m b=>?_⟩
 refine callsS Tryz.func98 e98 rfl rfl ?_
 simp only [s98,List.replicate,List.length_cons,List.length_nil,List.cons_append,List.nil_append,Nat.reduceAdd,Nat.reduceSub]
 refine xsr fun Q' hQ=>?_
 simp
 subst hQ
 refine xsr fun Q' hQ=>?_
 simp
 subst hQ
 refine xret ?_
 exact⟨rfl,_,resX_one _,rfl,rfl⟩
theorem adr57:Adr 57 13:=by
 refine⟨ov_none (by decide),fun m b=>?_⟩
 refine callsS Tryz.func57 e57 rfl rfl ?_
 simp only [s57,List.replicate,List.length_cons,List.length_nil,List.cons_append,List.nil_append,Nat.reduceAdd,Nat.reduceSub]
 refine xsr fun Q' hQ=>?_
 simp
 subst hQ
 refine xsr fun Q' hQ=>?_
 simp
 subst hQ
 refine xret ?_
 exact⟨rfl,_,resX_one _,rfl,rfl⟩
theorem adr104:Adr 104 15:=by
 refine⟨ov_none (by decide),fun m b=>?_⟩
 refine callsS Tryz.func104 e104 rfl rfl ?_
 simp only [s104,List.replicate,List.length_cons,List.length_nil,List.cons_append,List.nil_append,Nat.reduceAdd,Nat.reduceSub]
 refine xsr fun Q' hQ=>?_
 simp
 subst hQ
 refine xsr fun Q' hQ=>?_
 simp
 subst hQ
 refine xret ?_
 exact⟨rfl,_,resX_one _,rfl,rfl⟩
theorem adr56:Adr 56 16:=by
 refine⟨ov_none (by decide),fun m b=>?_⟩
 refine callsS Tryz.func56 e56 rfl rfl ?_
 simp only [s56,List.replicate,List.length_cons,List.length_nil,List.cons_append,List.nil_append,Nat.reduceAdd,Nat.reduceSub]
 refine xsr fun Q' hQ=>?_
 simp
 subst hQ
 refine xsr fun Q' hQ=>?_
 simp
 subst hQ
 refine xret ?_
 exact⟨rfl,_,resX_one _,rfl,rfl⟩
theorem dec_le {u:Nat} (h:u<10 ^ 20):(Lib.decDigits u).length≤20:=by
 rw [Lib.decDigits_eq,List.length_map,List.length_range]
 by_cases h0:u<10
 ·rw [Lib.nDigits_small h0];omega
 ·apply Decidable.byContradiction
  intro hn
  have:∀ (k u:Nat),k<Lib.nDigits u→10 ^ k≤u∨k=0:=by
   intro k
   induction k with
   |zero=>intro u _;exact .inr rfl
   |succ k ih =>
    intro u hu
    by_cases h:u<10
    ·rw [Lib.nDigits_small h] at hu;omega
    ·rw [Lib.nDigits_big h] at hu
     refine .inl ?_
     rw [Nat.pow_succ]
     rcases ih (u / 10) (by omega) with h1|h1
     ·omega
     ·subst h1;omega
  rcases this 20 u (by omega) with h1|h1<;>omega
theorem itoa_le {z:Int} (h:i64R z):(Lib.itoa z).length≤21:=by
 obtain⟨h1,h2⟩:=h
 unfold Lib.itoa
 split
 ·have:=dec_le (u:=z.natAbs) (by omega)
  simp only [List.length_cons];omega
 ·have:=dec_le (u:=z.toNat) (by omega)
  omega
theorem decU_le {z:Int} (h:u64R z):(Lib.decDigits z.toNat).length≤20:=dec_le (by obtain⟨h1,h2⟩:=h;omega)
theorem Prn.new {n0 p:Nat} {m:Mem} {v:Value} {out:List UInt8} {g:Bool} (h:Prn n0 m p v out g) (o:AObj):Prn n0 (newObjA m o) p v out g:=by
 obtain⟨a,h⟩:=h
 exact⟨a,h.lift (fun x _ hx=>by rw [get_newObjA,if_neg (by omega)]) (by rw [next_newObjA];omega)⟩
theorem Two.new (m:Mem) (p:Nat) (v:Value) (o:AObj):Two m (newObjA m o) p v v:=⟨by rw [next_newObjA];omega,fun x hx _ h=>⟨by rw [get_newObjA,if_neg (by omega)],h⟩⟩
theorem Prn.keepOld {n0 p:Nat} {m m':Mem} {v:Value} {out:List UInt8} {g:Bool} (h:Prn n0 m p v out g) (k:Old m.next m m'):Prn n0 m' p v out g:=by
 obtain⟨a,h⟩:=h
 exact⟨a,h.lift (fun x _ hx=>k.2 x hx) k.1⟩
theorem Two.ofOld {m m':Mem} {p:Nat} {v:Value} (k:Old m.next m m'):Two m m' p v v:=⟨k.1,fun x hx _ h=>⟨k.2 x hx,h⟩⟩
def PrK (f:Fd) (fn:Nat) (caps:List Value) (n0 p:Nat) (m:Mem):Prop :=
 ∀ (s:Stp) (d c v:Value) (out:List UInt8) (g:Bool),s.R→SlOld n0 m d s.data.length (u8s s.data)→SlOld n0 m c s.choices.length (i64s s.choices)→Prn n0 m p v out g→out.length+25*s.choices.length+10*s.data.length≤800000000 →
   CallsA tb fn ([.pointer (some ⟨p,0,none⟩),.agg ⟨stpCells s d c⟩]++caps) m (retR fun r m'=>∃ v',Prn n0 m' p v' (out++f.text s) (g||f.great s)∧Old n0 m m'∧Two m m' p v v')
theorem int_print {f:Fd} {g0 o n0 p:Nat} {m:Mem} {cb:Nat} (ha:Adr g0 o) (hn:n0≤m.next) (hp:PowAt m) (hp0:0<n0) (hcb:vw m cb=some ⟨true,118,false,[.func (.func g0) ⟨[]⟩ ⟨[]⟩]⟩) (hcl:cb<m.next)
  (hf:∀ s:Stp,∀ d c,s.R→∃ z,(stpCells s d c)[o]? = some (.int .i64 z)∧i64R z∧f.text s=decI z∧f.great s=greatI z):PrK f 85 [.pointer (some ⟨cb,0,none⟩)] n0 p m:=by
 intro s d c v out g hR hd hc hP hb
 obtain⟨z,hz,hzr,ht,hg⟩:=hf s d c hR
 rw [ht,hg]
 refine callsS Tryz.func85 e85 rfl rfl ?_
 simp only [s85,List.replicate,List.length_cons,List.length_nil,List.cons_append,List.nil_append,Nat.reduceAdd,Nat.reduceSub]
 refine xsr fun Q' hQ=>?_
 simp
 subst hQ
 have hP1:=hP.new (rowObj 36 (cellsOfV (.agg ⟨stpCells s d c⟩)) .none false)
 have hne:¬ cb=m.next:=by omega
 have hO1:Old n0 m (newObjA m (rowObj 36 (stpCells s d c) .none false)):=(Old.refl _ _).new hn _
 refine xregQ fun Q' hQ=>?_
 simp [hcb,hne]
 refine xcall ha.1 (ha.2 _ _) ?_ (fun ch m' h=>h.elim)
 rintro r m2 ⟨rfl,rfl⟩
 simp [hz]
 refine xcall (ov_none (by decide)) (whole_ok hP1 (by rw [next_newObjA];omega) (hp.old hO1 hp0) hp0 hzr.1 hzr.2 (by have:=itoa_le hzr;omega)) ?_ (fun ch m' h=>h.elim)
 rintro r m3 ⟨v3,h3,h4,h5⟩
 subst hQ
 exact⟨rfl,_,rfl,v3,by simpa [decI,greatI,Bool.or_assoc] using h3,hO1.trans h4,(Two.new m p v _).trans h5⟩
theorem nat_print {f:Fd} {g0 o n0 p:Nat} {m:Mem} {cb:Nat} (ha:Adr g0 o) (hn:n0≤m.next) (hp:PowAt m) (hp0:0<n0) (hcb:vw m cb=some ⟨true,121,false,[.func (.func g0) ⟨[]⟩ ⟨[]⟩]⟩) (hcl:cb<m.next)
  (hf:∀ s:Stp,∀ d c,s.R→∃ z,(stpCells s d c)[o]? = some (.int .u64 z)∧u64R z∧f.text s=decU z∧f.great s=false):PrK f 88 [.pointer (some ⟨cb,0,none⟩)] n0 p m:=by
 intro s d c v out g hR hd hc hP hb
 obtain⟨z,hz,hzr,ht,hg⟩:=hf s d c hR
 rw [ht,hg]
 refine callsS Tryz.func88 e88 rfl rfl ?_
 simp only [s88,List.replicate,List.length_cons,List.length_nil,List.cons_append,List.nil_append,Nat.reduceAdd,Nat.reduceSub]
 refine xsr fun Q' hQ=>?_
 simp
 subst hQ
 have hP1:=hP.new (rowObj 36 (cellsOfV (.agg ⟨stpCells s d c⟩)) .none false)
 have hne:¬ cb=m.next:=by omega
 have hO1:Old n0 m (newObjA m (rowObj 36 (stpCells s d c) .none false)):=(Old.refl _ _).new hn _
 refine xregQ fun Q' hQ=>?_
 simp [hcb,hne]
 refine xcall ha.1 (ha.2 _ _) ?_ (fun ch m' h=>h.elim)
 rintro r m2 ⟨rfl,rfl⟩
 simp [hz]
 refine xcall (ov_none (by decide)) (long_ok hP1 (by rw [next_newObjA];omega) (hp.old hO1 hp0) hzr.1 hzr.2 (by have:=decU_le hzr;omega)) ?_ (fun ch m' h=>h.elim)
 rintro r m3 ⟨v3,h3,h4,h5⟩
 subst hQ
 exact⟨rfl,_,rfl,v3,by simpa [decU] using h3,hO1.trans h4,(Two.new m p v _).trans h5⟩
theorem mask_print {n0 p:Nat} {m:Mem} (hn:n0≤m.next) (hp:PowAt m) (hp0:0<n0):PrK .mask 101 [] n0 p m:=by
 intro s d c v out g hR hd hc hP hb
 refine callsS Tryz.func101 e101 rfl rfl ?_
 simp only [s101,List.replicate,List.length_cons,List.length_nil,List.cons_append,List.nil_append,List.append_nil,Nat.reduceAdd,Nat.reduceSub]
 refine xsr fun Q' hQ=>?_
 simp
 subst hQ
 have hP1:=hP.new (rowObj 36 (cellsOfV (.agg ⟨stpCells s d c⟩)) .none false)
 have hO1:Old n0 m (newObjA m (rowObj 36 (stpCells s d c) .none false)):=(Old.refl _ _).new hn _
 have hz:(stpCells s d c)[12]? = some (.int .u32 s.mask):=rfl
 have hzr:=hR.mask
 refine xregQ fun Q' hQ=>?_
 simp [hz]
 rw [wru64 _ hzr.1 (by have:=hzr.2;omega)]
 refine xcall (ov_none (by decide)) (long_ok hP1 (by rw [next_newObjA];omega) (hp.old hO1 hp0) hzr.1 (by have:=hzr.2;omega) (by have:=decU_le (z:=s.mask) ⟨hzr.1,by have:=hzr.2;omega⟩;omega)) ?_ (fun ch m' h=>h.elim)
 rintro r m3 ⟨v3,h3,h4,h5⟩
 subst hQ
 exact⟨rfl,_,rfl,v3,by simpa [Fd.text,Fd.great,decU] using h3,hO1.trans h4,(Two.new m p v _).trans h5⟩
theorem data_print {n0 p:Nat} {m:Mem} (hn:n0≤m.next):PrK .data 92 [] n0 p m:=by
 intro s d c v out g hR hd hc hP hb
 refine callsS Tryz.func92 e92 rfl rfl ?_
 simp only [s92,List.replicate,List.length_cons,List.length_nil,List.cons_append,List.nil_append,List.append_nil,Nat.reduceAdd,Nat.reduceSub]
 refine xsr fun Q' hQ=>?_
 simp
 subst hQ
 have hP1:=hP.new (rowObj 36 (cellsOfV (.agg ⟨stpCells s d c⟩)) .none false)
 have hO1:Old n0 m (newObjA m (rowObj 36 (stpCells s d c) .none false)):=(Old.refl _ _).new hn _
 have hOm:Old m.next m (newObjA m (rowObj 36 (stpCells s d c) .none false)):=(Old.refl _ _).new (Nat.le_refl _) _
 have hz:(stpCells s d c)[5]? = some d:=rfl
 refine xregQ fun Q' hQ=>?_
 simp [hz]
 refine xcall (ov_none (by decide)) (quote_ok ((hd.at hn).old hOm) (by omega)) ?_ (fun ch m' h=>h.elim)
 rintro r m2 ⟨rfl,h2⟩
 have hql:(quoteB s.data).length≤4*s.data.length+2:=by
  have:∀ l:List UInt8,(l.flatMap qByte).length≤4*l.length:=by
   intro l
   induction l with
   |nil=>simp
   |cons b l ih =>
    have:(qByte b).length≤4:=by unfold qByte;repeat (split<;>try simp)
    simp only [List.flatMap_cons,List.length_append,List.length_cons];omega
  have:=this s.data
  simp only [quoteB,List.length_cons,List.length_append,List.length_nil];omega
 refine xcall (ov_none (by decide)) (say_ok (hP1.keepOld h2) (by have:=h2.1;rw [next_newObjA] at this;omega) (by omega)) ?_ (fun ch m' h=>h.elim)
 rintro r m3 ⟨v3,h3,h4,h5⟩
 subst hQ
 refine⟨rfl,_,rfl,v3,by simpa [Fd.text,Fd.great] using h3,hO1.trans ((h2.le (by rw [next_newObjA];omega)).trans h4),?_⟩
 exact (Two.new m p v _).trans ((Two.ofOld h2).trans h5)
theorem way_print {n0 p:Nat} {m:Mem} (hn:n0≤m.next):∀ (s:Stp) (d c v:Value) (out:List UInt8) (g:Bool),s.way=1∨s.way=2→Prn n0 m p v out g→out.length≤800000000 →
  CallsA tb 96 [.pointer (some ⟨p,0,none⟩),.agg ⟨stpCells s d c⟩] m (retR fun r m'=>∃ v',Prn n0 m' p v' (out++Fd.text .way s) g∧Old n0 m m'∧Two m m' p v v'):=by
 intro s d c v out g hR hP hb
 refine callsS Tryz.func96 e96 rfl rfl ?_
 simp only [s96,List.replicate,List.length_cons,List.length_nil,List.cons_append,List.nil_append,List.append_nil,Nat.reduceAdd,Nat.reduceSub]
 refine xsr fun Q' hQ=>?_
 simp
 subst hQ
 have hP1:=hP.new (rowObj 36 (cellsOfV (.agg ⟨stpCells s d c⟩)) .none false)
 have hO1:Old n0 m (newObjA m (rowObj 36 (stpCells s d c) .none false)):=(Old.refl _ _).new hn _
 have hz:(stpCells s d c)[9]? = some (.int .i64 s.way):=rfl
 refine xregQ fun Q' hQ=>?_
 rcases hR with hw|hw
 all_goals
  simp [hz,hw,partA]
  refine xcall (ov_none (by decide)) (say_ok hP1 (by rw [next_newObjA];omega) (by simp only [List.length_cons,List.length_nil];omega)) ?_ (fun ch m' h=>h.elim)
  rintro r m3 ⟨v3,h3,h4,h5⟩
  subst hQ
  exact⟨rfl,_,rfl,v3,by simpa [Fd.text,hw] using h3,hO1.trans h4,(Two.new m p v _).trans h5⟩
theorem choices_print {n0 p:Nat} {m:Mem} (hn:n0≤m.next) (hp:PowAt m) (hp0:0<n0):PrK .choices 103 [] n0 p m:=by
 intro s d c v out g hR hd hc hP hb
 obtain⟨ac,cc,rfl⟩:=(hc.at hn).shape
 refine callsS Tryz.func103 e103 rfl rfl ?_
 simp only [s103,List.replicate,List.length_cons,List.length_nil,List.cons_append,List.nil_append,List.append_nil,Nat.reduceAdd,Nat.reduceSub]
 refine xsr fun Q' hQ=>?_
 simp
 subst hQ
 have hP1:=hP.new (rowObj 36 (stpCells s d (.slice ac s.choices.length cc)) .none false)
 have hO1:Old n0 m (newObjA m (rowObj 36 (stpCells s d (.slice ac s.choices.length cc)) .none false)):=(Old.refl _ _).new hn _
 have hOm:Old m.next m (newObjA m (rowObj 36 (stpCells s d (.slice ac s.choices.length cc)) .none false)):=(Old.refl _ _).new (Nat.le_refl _) _
 have hz:(stpCells s d (.slice ac s.choices.length cc))[14]? = some (.slice ac s.choices.length cc):=rfl
 have hT1:=Two.new m p v (rowObj 36 (stpCells s d (.slice ac s.choices.length cc)) .none false)
 refine xsr fun Q' hQ=>?_
 simp [hz]
 subst hQ
 generalize hm1:newObjA m (rowObj 36 (stpCells s d (.slice ac s.choices.length cc)) .none false)=m1 at *
 refine (xblock (xwhile (N:=s.choices.length) (I:=fun n l ds m2=>∃ k v2 y5,n=s.choices.length-k∧k≤s.choices.length∧ds=[] ∧
  Sl [.pointer (some ⟨p,0,none⟩),.agg ⟨stpCells s d (.slice ac s.choices.length cc)⟩,undef,.pointer (some ⟨m.next,0,none⟩),undef,y5,.pointer (some ⟨m.next,14,none⟩),.slice ac s.choices.length cc,.int .i64 (s.choices.length:Nat),.int .i64 (k:Nat)] 7 l ∧
  Prn n0 m2 p v2 (out++(s.choices.take k).flatMap decI) (g||(s.choices.take k).any greatI)∧Old n0 m m2∧Two m m2 p v v2) ?_ ?_))
 ·exact⟨0,v,_,by simp,by omega,rfl,Sl.mk rfl rfl,by simpa using hP1,hO1,hT1⟩
 rintro n l ds m2 ⟨k,v2,y5,rfl,hk,rfl,⟨ts,hts,rfl⟩,hB,hO,hT⟩
 match ts,hts with
 | [x10,x11,x12,x13,x14,x15,x16],_ =>
 refine xsr fun Q' hQ=>?_
 simp
 subst hQ
 have hlen:((s.choices.take k).flatMap decI).length≤22*k:=by
  have:∀ l:List Int,(∀ x∈l,i64R x)→(l.flatMap decI).length≤22*l.length:=by
   intro l hl
   induction l with
   |nil=>simp
   |cons b l ih =>
    have h1:=itoa_le (hl b (by simp))
    have h2:=ih fun x hx=>hl x (by simp [hx])
    simp only [List.flatMap_cons,List.length_append,List.length_cons,decI] at h2 ⊢;omega
  have:=this (s.choices.take k) fun x hx=>hR.choices x (List.mem_of_mem_take hx)
  simp only [List.length_take] at this
  omega
 refine xseq (xif (v:=decide (k<s.choices.length)) rfl (fun h=>xskip ?_) (fun h=>xexit ?_))
 ·simp only [decide_eq_true_eq] at h
  have q:(i64s s.choices)[k]? = some (.int .i64 s.choices[k]):=by rw [i64s_get,List.getElem?_eq_getElem h];rfl
  obtain⟨b2,o,c2,h1,h5,h6,h2,h3⟩:=((hc.old hO).at (Nat.le_trans hn hO.1)).load q
  simp only [Value.slice.injEq] at h1
  obtain⟨rfl,-,rfl⟩:=h1
  have ql:=h3 (t:=3) (s:=none) Ty.ti3 Ty.g3
  have htk:s.choices.take (k+1)=s.choices.take k++[s.choices[k]]:=by rw [List.take_add_one,List.getElem?_eq_getElem h];rfl
  have hzr:=hR.choices _ (List.getElem_mem h)
  generalize hz0:s.choices[k]=z at ql htk hzr
  refine xseq (xblock (xseq (xregQ fun Q' hQ=>?_)))
  simp [ql,h]
  subst hQ
  refine xregQ fun Q' hQ=>?_
  simp
  refine xcall (ov_none (by decide)) (whole_ok hB (Nat.le_trans hn hO.1) (hp.old hO hp0) hp0 hzr.1 hzr.2 (by have:=itoa_le hzr;simp only [List.length_append];omega)) ?_ (fun ch m' h=>h.elim)
  rintro r m3 ⟨v3,g3,g4,g5⟩
  subst hQ
  refine xregQ fun Q' hQ=>?_
  simp
  rw [wr64 _ (by omega) (by omega)]
  subst hQ
  refine⟨s.choices.length-(k+1),by omega,k+1,v3,_,rfl,by omega,rfl,Sl.mk rfl rfl,?_,hO.trans g4,hT.trans g5⟩
  rw [htk]
  simpa [decI,greatI,Bool.or_assoc] using g3
 ·simp only [decide_eq_false_iff_not] at h
  obtain rfl:k=s.choices.length:=by omega
  rw [List.take_length] at hB
  exact⟨rfl,_,rfl,v2,hB,hO,hT⟩
end Go.Proofs.YtgmkbdmgifdfeaaGreatDoor

set_option maxRecDepth 8000
namespace Go.Proofs.YtgmkbdmgifdfeaaGreatDoor
open Go Go.Ev
theorem printable_ok {m:Mem} {s:Stp} {d c:Value}:CallsA tb 25 [.agg ⟨stpCells s d c⟩] m (retR fun r m'=>r=.bool (stepOk s)∧Old m.next m m'):=by
 refine callsS Tryz.func25 e25 rfl rfl ?_
 simp only [s25,List.replicate,List.length_cons,List.length_nil,List.cons_append,List.nil_append,List.append_nil,Nat.reduceAdd,Nat.reduceSub]
 refine xsr fun Q' hQ=>?_
 simp
 subst hQ
 have hO1:Old m.next m (newObjA m (rowObj 36 (stpCells s d c) .none false)):=(Old.refl _ _).new (Nat.le_refl _) _
 have z0:(stpCells s d c)[0]? = some (.int .i64 s.kind):=rfl
 have z1:(stpCells s d c)[1]? = some (.int .i64 s.node):=rfl
 have z9:(stpCells s d c)[9]? = some (.int .i64 s.way):=rfl
 refine xseq (xseq (xregQ fun Q' hQ=>?_))
 by_cases h1:s.kind<1
 ·simp [z0,h1]
  subst hQ
  refine xyes rfl ?_
  refine xsr fun Q' hQ=>?_
  simp
  subst hQ
  exact xret ⟨rfl,_,resX_one _,by simp [gx,stepOk];omega,hO1⟩
 by_cases h2:22<s.kind
 ·simp [z0,h1,h2]
  subst hQ
  refine xyes rfl ?_
  refine xsr fun Q' hQ=>?_
  simp
  subst hQ
  exact xret ⟨rfl,_,resX_one _,by simp [gx,stepOk];omega,hO1⟩
 simp [z0,h1,h2]
 subst hQ
 refine xno rfl (xskip ?_)
 refine xseq (xseq (xregQ fun Q' hQ=>?_))
 have hgo:∀ l':List Value,(∃ ts:List Value,ts.length=14∧∃ us:List Value,us.length=22∧l'=.agg ⟨stpCells s d c⟩::.pointer (some ⟨m.next,0,none⟩)::us++ts)→True:=fun _ _=>trivial
 have hk:(1≤s.kind∧s.kind≤22):=by omega
 by_cases h3:s.kind=1
 ·simp [z0,h3]
  subst hQ
  refine xno rfl (xskip ?_)
  refine xsr fun Q' hQ=>?_
  simp [z0,h3]
  refine xcall (ov_none (by decide)) ways_ok ?_ (fun ch m' h=>h.elim)
  rintro r m2 ⟨rfl,rfl⟩
  simp
  subst hQ
  exact xret ⟨rfl,_,resX_one _,by simp [gx,stepOk,h3],hO1⟩
 have key:(s.node=1∨s.node=2)∨¬ (s.node=1∨s.node=2):=Decidable.em _
 rcases key with key|key
 ·have hn:∃ b:Bool,(!decide (s.node=1))=b∧(b=true→(s.node=2)):=⟨_,rfl,fun h=>by simp at h;omega⟩
  rcases key with hx|hx
  all_goals
   simp [z0,z1,h3,hx]
   subst hQ
   refine xno rfl (xskip ?_)
   refine xsr fun Q' hQ=>?_
   simp [z0]
   refine xcall (ov_none (by decide)) ways_ok ?_ (fun ch m' h=>h.elim)
   rintro r m2 ⟨rfl,rfl⟩
   by_cases hw:9≤s.kind∧s.kind≤12
   ·by_cases hw1:s.way=1
    ·simp [z9,hw,hw1]
     subst hQ
     exact xret ⟨rfl,_,resX_one _,by simp [gx,stepOk,hw,hw1,hx,h3,hk],hO1⟩
    ·simp [z9,hw,hw1]
     subst hQ
     exact xret ⟨rfl,_,resX_one _,by simp [gx,stepOk,hw,hw1,hx,h3,hk],hO1⟩
   ·simp [z9,hw]
    subst hQ
    exact xret ⟨rfl,_,resX_one _,by simp [gx,stepOk,hw,hx,h3,hk],hO1⟩
 ·have hn1:¬ s.node=1:=fun h=>key (.inl h)
  have hn2:¬ s.node=2:=fun h=>key (.inr h)
  simp [z0,z1,h3,hn1,hn2]
  subst hQ
  refine xyes rfl ?_
  refine xsr fun Q' hQ=>?_
  simp
  subst hQ
  exact xret ⟨rfl,_,resX_one _,by simp [gx,stepOk,hn1,hn2,h3],hO1⟩
def adrOf:Fd→Nat
 | .stream=>82 | .qc=>51 | .qb=>52 | .place=>97 | .pos=>98 | .cursor=>104 | .time=>89 | .life=>55 | .seq=>54 | .to=>56 | .ticks=>57
 |_=>0
def IsFd (m:Mem) (k0:Nat) (rv pv:Value):Fd→Prop
 | .data=>rv=.func (.func 90) ⟨[]⟩ ⟨[]⟩∧pv=.func (.func 92) ⟨[]⟩ ⟨[]⟩
 | .way=>rv=.func (.func 94) ⟨[]⟩ ⟨[]⟩∧pv=.func (.func 96) ⟨[]⟩ ⟨[]⟩
 | .mask=>rv=.func (.func 99) ⟨[]⟩ ⟨[]⟩∧pv=.func (.func 101) ⟨[]⟩ ⟨[]⟩
 | .choices=>rv=.func (.func 102) ⟨[]⟩ ⟨[]⟩∧pv=.func (.func 103) ⟨[]⟩ ⟨[]⟩
 | .time=>∃ cb,k0≤cb∧cb<k0+109∧rv=.func (.func 86) ⟨[]⟩ ⟨[.pointer (some ⟨cb,0,none⟩)]⟩∧pv=.func (.func 88) ⟨[]⟩ ⟨[.pointer (some ⟨cb,0,none⟩)]⟩∧vw m cb=some ⟨true,121,false,[.func (.func 89) ⟨[]⟩ ⟨[]⟩]⟩
 | .life=>∃ cb,k0≤cb∧cb<k0+109∧rv=.func (.func 86) ⟨[]⟩ ⟨[.pointer (some ⟨cb,0,none⟩)]⟩∧pv=.func (.func 88) ⟨[]⟩ ⟨[.pointer (some ⟨cb,0,none⟩)]⟩∧vw m cb=some ⟨true,121,false,[.func (.func 55) ⟨[]⟩ ⟨[]⟩]⟩
 | .seq=>∃ cb,k0≤cb∧cb<k0+109∧rv=.func (.func 86) ⟨[]⟩ ⟨[.pointer (some ⟨cb,0,none⟩)]⟩∧pv=.func (.func 88) ⟨[]⟩ ⟨[.pointer (some ⟨cb,0,none⟩)]⟩∧vw m cb=some ⟨true,121,false,[.func (.func 54) ⟨[]⟩ ⟨[]⟩]⟩
 | .to=>∃ cb,k0≤cb∧cb<k0+109∧rv=.func (.func 86) ⟨[]⟩ ⟨[.pointer (some ⟨cb,0,none⟩)]⟩∧pv=.func (.func 88) ⟨[]⟩ ⟨[.pointer (some ⟨cb,0,none⟩)]⟩∧vw m cb=some ⟨true,121,false,[.func (.func 56) ⟨[]⟩ ⟨[]⟩]⟩
 | .ticks=>∃ cb,k0≤cb∧cb<k0+109∧rv=.func (.func 86) ⟨[]⟩ ⟨[.pointer (some ⟨cb,0,none⟩)]⟩∧pv=.func (.func 88) ⟨[]⟩ ⟨[.pointer (some ⟨cb,0,none⟩)]⟩∧vw m cb=some ⟨true,121,false,[.func (.func 57) ⟨[]⟩ ⟨[]⟩]⟩
 |f=>∃ cb,k0≤cb∧cb<k0+109∧rv=.func (.func 83) ⟨[]⟩ ⟨[.pointer (some ⟨cb,0,none⟩)]⟩∧pv=.func (.func 85) ⟨[]⟩ ⟨[.pointer (some ⟨cb,0,none⟩)]⟩∧vw m cb=some ⟨true,118,false,[.func (.func (adrOf f)) ⟨[]⟩ ⟨[]⟩]⟩
def FormAt (m:Mem) (k0:Nat) (kind:Nat):Prop :=
 ∃ tab,vw m (k0+108)=some ⟨true,80,false,tab⟩∧tab[2*kind]? = some (.string ⟨⟨wordOf kind⟩⟩)∧∃ fs,tab[2*kind+1]? = some fs ∧
   ((fs=.slice none 0 0∧fieldsOf kind=[])∨∃ b n cells,fs=.slice (some ⟨b,0,none⟩) n n∧(fieldsOf kind).length=n∧k0≤b∧b<k0+109∧vw m b=some ⟨true,84,false,cells⟩∧cells.length=2*n ∧
     ∀ j f,(fieldsOf kind)[j]? = some f→∃ rv pv,cells[2*j]? = some rv∧cells[2*j+1]? = some pv∧IsFd m k0 rv pv f)
theorem form1 {m:Mem} {k0:Nat} (h:RowsAt formsRows m k0):FormAt m k0 1:=by
 refine⟨_,h 108 _ rfl,rfl,_,rfl,.inr ⟨k0+19,1,_,rfl,rfl,by omega,by omega,h 19 _ rfl,rfl,fun j f hj=>?_⟩⟩
 exact match j,hj with
  |0,hj=>by cases hj;exact⟨_,_,rfl,rfl,k0+17,by omega,by omega,rfl,rfl,h 17 _ rfl⟩
  |j+1,hj=>absurd hj (by simp [fieldsOf])
theorem form2 {m:Mem} {k0:Nat} (h:RowsAt formsRows m k0):FormAt m k0 2:=by
 refine⟨_,h 108 _ rfl,rfl,_,rfl,.inr ⟨k0+7,3,_,rfl,rfl,by omega,by omega,h 7 _ rfl,rfl,fun j f hj=>?_⟩⟩
 exact match j,hj with
  |0,hj=>by cases hj;exact⟨_,_,rfl,rfl,k0+1,by omega,by omega,rfl,rfl,h 1 _ rfl⟩
  |1,hj=>by cases hj;exact⟨_,_,rfl,rfl,k0+3,by omega,by omega,rfl,rfl,h 3 _ rfl⟩
  |2,hj=>by cases hj;exact⟨_,_,rfl,rfl,k0+5,by omega,by omega,rfl,rfl,h 5 _ rfl⟩
  |j+3,hj=>absurd hj (by simp [fieldsOf])
theorem form3 {m:Mem} {k0:Nat} (h:RowsAt formsRows m k0):FormAt m k0 3:=by
 refine⟨_,h 108 _ rfl,rfl,_,rfl,.inr ⟨k0+23,1,_,rfl,rfl,by omega,by omega,h 23 _ rfl,rfl,fun j f hj=>?_⟩⟩
 exact match j,hj with
  |0,hj=>by cases hj;exact⟨_,_,rfl,rfl,k0+21,by omega,by omega,rfl,rfl,h 21 _ rfl⟩
  |j+1,hj=>absurd hj (by simp [fieldsOf])
theorem form4 {m:Mem} {k0:Nat} (h:RowsAt formsRows m k0):FormAt m k0 4:=by
 refine⟨_,h 108 _ rfl,rfl,_,rfl,.inr ⟨k0+27,1,_,rfl,rfl,by omega,by omega,h 27 _ rfl,rfl,fun j f hj=>?_⟩⟩
 exact match j,hj with
  |0,hj=>by cases hj;exact⟨_,_,rfl,rfl,k0+25,by omega,by omega,rfl,rfl,h 25 _ rfl⟩
  |j+1,hj=>absurd hj (by simp [fieldsOf])
theorem form5 {m:Mem} {k0:Nat} (h:RowsAt formsRows m k0):FormAt m k0 5:=by
 refine⟨_,h 108 _ rfl,rfl,_,rfl,.inr ⟨k0+31,1,_,rfl,rfl,by omega,by omega,h 31 _ rfl,rfl,fun j f hj=>?_⟩⟩
 exact match j,hj with
  |0,hj=>by cases hj;exact⟨_,_,rfl,rfl,k0+29,by omega,by omega,rfl,rfl,h 29 _ rfl⟩
  |j+1,hj=>absurd hj (by simp [fieldsOf])
theorem form6 {m:Mem} {k0:Nat} (h:RowsAt formsRows m k0):FormAt m k0 6:=by
 refine⟨_,h 108 _ rfl,rfl,_,rfl,.inr ⟨k0+39,4,_,rfl,rfl,by omega,by omega,h 39 _ rfl,rfl,fun j f hj=>?_⟩⟩
 exact match j,hj with
  |0,hj=>by cases hj;exact⟨_,_,rfl,rfl,k0+33,by omega,by omega,rfl,rfl,h 33 _ rfl⟩
  |1,hj=>by cases hj;exact⟨_,_,rfl,rfl,k0+36,by omega,by omega,rfl,rfl,h 36 _ rfl⟩
  |2,hj=>by cases hj;exact⟨_,_,rfl,rfl,k0+11,by omega,by omega,rfl,rfl,h 11 _ rfl⟩
  |3,hj=>by cases hj;exact⟨_,_,rfl,rfl,rfl,rfl⟩
  |j+4,hj=>absurd hj (by simp [fieldsOf])
theorem form7 {m:Mem} {k0:Nat} (h:RowsAt formsRows m k0):FormAt m k0 7:=by
 refine⟨_,h 108 _ rfl,rfl,_,rfl,.inr ⟨k0+43,2,_,rfl,rfl,by omega,by omega,h 43 _ rfl,rfl,fun j f hj=>?_⟩⟩
 exact match j,hj with
  |0,hj=>by cases hj;exact⟨_,_,rfl,rfl,k0+41,by omega,by omega,rfl,rfl,h 41 _ rfl⟩
  |1,hj=>by cases hj;exact⟨_,_,rfl,rfl,k0+8,by omega,by omega,rfl,rfl,h 8 _ rfl⟩
  |j+2,hj=>absurd hj (by simp [fieldsOf])
theorem form8 {m:Mem} {k0:Nat} (h:RowsAt formsRows m k0):FormAt m k0 8 :=
 ⟨_,h 108 _ rfl,rfl,_,rfl,.inl ⟨rfl,rfl⟩⟩
theorem form9 {m:Mem} {k0:Nat} (h:RowsAt formsRows m k0):FormAt m k0 9:=by
 refine⟨_,h 108 _ rfl,rfl,_,rfl,.inr ⟨k0+48,2,_,rfl,rfl,by omega,by omega,h 48 _ rfl,rfl,fun j f hj=>?_⟩⟩
 exact match j,hj with
  |0,hj=>by cases hj;exact⟨_,_,rfl,rfl,rfl,rfl⟩
  |1,hj=>by cases hj;exact⟨_,_,rfl,rfl,k0+46,by omega,by omega,rfl,rfl,h 46 _ rfl⟩
  |j+2,hj=>absurd hj (by simp [fieldsOf])
theorem form10 {m:Mem} {k0:Nat} (h:RowsAt formsRows m k0):FormAt m k0 10:=by
 refine⟨_,h 108 _ rfl,rfl,_,rfl,.inr ⟨k0+53,2,_,rfl,rfl,by omega,by omega,h 53 _ rfl,rfl,fun j f hj=>?_⟩⟩
 exact match j,hj with
  |0,hj=>by cases hj;exact⟨_,_,rfl,rfl,rfl,rfl⟩
  |1,hj=>by cases hj;exact⟨_,_,rfl,rfl,k0+51,by omega,by omega,rfl,rfl,h 51 _ rfl⟩
  |j+2,hj=>absurd hj (by simp [fieldsOf])
theorem form11 {m:Mem} {k0:Nat} (h:RowsAt formsRows m k0):FormAt m k0 11:=by
 refine⟨_,h 108 _ rfl,rfl,_,rfl,.inr ⟨k0+58,2,_,rfl,rfl,by omega,by omega,h 58 _ rfl,rfl,fun j f hj=>?_⟩⟩
 exact match j,hj with
  |0,hj=>by cases hj;exact⟨_,_,rfl,rfl,rfl,rfl⟩
  |1,hj=>by cases hj;exact⟨_,_,rfl,rfl,k0+56,by omega,by omega,rfl,rfl,h 56 _ rfl⟩
  |j+2,hj=>absurd hj (by simp [fieldsOf])
theorem form12 {m:Mem} {k0:Nat} (h:RowsAt formsRows m k0):FormAt m k0 12:=by
 refine⟨_,h 108 _ rfl,rfl,_,rfl,.inr ⟨k0+67,4,_,rfl,rfl,by omega,by omega,h 67 _ rfl,rfl,fun j f hj=>?_⟩⟩
 exact match j,hj with
  |0,hj=>by cases hj;exact⟨_,_,rfl,rfl,rfl,rfl⟩
  |1,hj=>by cases hj;exact⟨_,_,rfl,rfl,k0+61,by omega,by omega,rfl,rfl,h 61 _ rfl⟩
  |2,hj=>by cases hj;exact⟨_,_,rfl,rfl,k0+64,by omega,by omega,rfl,rfl,h 64 _ rfl⟩
  |3,hj=>by cases hj;exact⟨_,_,rfl,rfl,rfl,rfl⟩
  |j+4,hj=>absurd hj (by simp [fieldsOf])
theorem form13 {m:Mem} {k0:Nat} (h:RowsAt formsRows m k0):FormAt m k0 13:=by
 refine⟨_,h 108 _ rfl,rfl,_,rfl,.inr ⟨k0+71,1,_,rfl,rfl,by omega,by omega,h 71 _ rfl,rfl,fun j f hj=>?_⟩⟩
 exact match j,hj with
  |0,hj=>by cases hj;exact⟨_,_,rfl,rfl,k0+69,by omega,by omega,rfl,rfl,h 69 _ rfl⟩
  |j+1,hj=>absurd hj (by simp [fieldsOf])
theorem form14 {m:Mem} {k0:Nat} (h:RowsAt formsRows m k0):FormAt m k0 14:=by
 refine⟨_,h 108 _ rfl,rfl,_,rfl,.inr ⟨k0+73,1,_,rfl,rfl,by omega,by omega,h 73 _ rfl,rfl,fun j f hj=>?_⟩⟩
 exact match j,hj with
  |0,hj=>by cases hj;exact⟨_,_,rfl,rfl,rfl,rfl⟩
  |j+1,hj=>absurd hj (by simp [fieldsOf])
theorem form15 {m:Mem} {k0:Nat} (h:RowsAt formsRows m k0):FormAt m k0 15 :=
 ⟨_,h 108 _ rfl,rfl,_,rfl,.inl ⟨rfl,rfl⟩⟩
theorem form16 {m:Mem} {k0:Nat} (h:RowsAt formsRows m k0):FormAt m k0 16:=by
 refine⟨_,h 108 _ rfl,rfl,_,rfl,.inr ⟨k0+77,1,_,rfl,rfl,by omega,by omega,h 77 _ rfl,rfl,fun j f hj=>?_⟩⟩
 exact match j,hj with
  |0,hj=>by cases hj;exact⟨_,_,rfl,rfl,k0+75,by omega,by omega,rfl,rfl,h 75 _ rfl⟩
  |j+1,hj=>absurd hj (by simp [fieldsOf])
theorem form17 {m:Mem} {k0:Nat} (h:RowsAt formsRows m k0):FormAt m k0 17:=by
 refine⟨_,h 108 _ rfl,rfl,_,rfl,.inr ⟨k0+81,1,_,rfl,rfl,by omega,by omega,h 81 _ rfl,rfl,fun j f hj=>?_⟩⟩
 exact match j,hj with
  |0,hj=>by cases hj;exact⟨_,_,rfl,rfl,k0+79,by omega,by omega,rfl,rfl,h 79 _ rfl⟩
  |j+1,hj=>absurd hj (by simp [fieldsOf])
theorem form18 {m:Mem} {k0:Nat} (h:RowsAt formsRows m k0):FormAt m k0 18:=by
 refine⟨_,h 108 _ rfl,rfl,_,rfl,.inr ⟨k0+88,2,_,rfl,rfl,by omega,by omega,h 88 _ rfl,rfl,fun j f hj=>?_⟩⟩
 exact match j,hj with
  |0,hj=>by cases hj;exact⟨_,_,rfl,rfl,k0+83,by omega,by omega,rfl,rfl,h 83 _ rfl⟩
  |1,hj=>by cases hj;exact⟨_,_,rfl,rfl,k0+86,by omega,by omega,rfl,rfl,h 86 _ rfl⟩
  |j+2,hj=>absurd hj (by simp [fieldsOf])
theorem form19 {m:Mem} {k0:Nat} (h:RowsAt formsRows m k0):FormAt m k0 19:=by
 refine⟨_,h 108 _ rfl,rfl,_,rfl,.inr ⟨k0+92,1,_,rfl,rfl,by omega,by omega,h 92 _ rfl,rfl,fun j f hj=>?_⟩⟩
 exact match j,hj with
  |0,hj=>by cases hj;exact⟨_,_,rfl,rfl,k0+90,by omega,by omega,rfl,rfl,h 90 _ rfl⟩
  |j+1,hj=>absurd hj (by simp [fieldsOf])
theorem form20 {m:Mem} {k0:Nat} (h:RowsAt formsRows m k0):FormAt m k0 20:=by
 refine⟨_,h 108 _ rfl,rfl,_,rfl,.inr ⟨k0+96,1,_,rfl,rfl,by omega,by omega,h 96 _ rfl,rfl,fun j f hj=>?_⟩⟩
 exact match j,hj with
  |0,hj=>by cases hj;exact⟨_,_,rfl,rfl,k0+94,by omega,by omega,rfl,rfl,h 94 _ rfl⟩
  |j+1,hj=>absurd hj (by simp [fieldsOf])
theorem form21 {m:Mem} {k0:Nat} (h:RowsAt formsRows m k0):FormAt m k0 21:=by
 refine⟨_,h 108 _ rfl,rfl,_,rfl,.inr ⟨k0+100,1,_,rfl,rfl,by omega,by omega,h 100 _ rfl,rfl,fun j f hj=>?_⟩⟩
 exact match j,hj with
  |0,hj=>by cases hj;exact⟨_,_,rfl,rfl,k0+98,by omega,by omega,rfl,rfl,h 98 _ rfl⟩
  |j+1,hj=>absurd hj (by simp [fieldsOf])
theorem form22 {m:Mem} {k0:Nat} (h:RowsAt formsRows m k0):FormAt m k0 22:=by
 refine⟨_,h 108 _ rfl,rfl,_,rfl,.inr ⟨k0+107,3,_,rfl,rfl,by omega,by omega,h 107 _ rfl,rfl,fun j f hj=>?_⟩⟩
 exact match j,hj with
  |0,hj=>by cases hj;exact⟨_,_,rfl,rfl,k0+102,by omega,by omega,rfl,rfl,h 102 _ rfl⟩
  |1,hj=>by cases hj;exact⟨_,_,rfl,rfl,k0+105,by omega,by omega,rfl,rfl,h 105 _ rfl⟩
  |2,hj=>by cases hj;exact⟨_,_,rfl,rfl,k0+14,by omega,by omega,rfl,rfl,h 14 _ rfl⟩
  |j+3,hj=>absurd hj (by simp [fieldsOf])
theorem form_at {m:Mem} {k0:Nat} (h:RowsAt formsRows m k0) {kind:Nat} (h1:1≤kind) (h2:kind≤22):FormAt m k0 kind :=
 match kind,h1,h2 with
 |1,_,_=>form1 h|2,_,_=>form2 h|3,_,_=>form3 h|4,_,_=>form4 h|5,_,_=>form5 h|6,_,_=>form6 h|7,_,_=>form7 h|8,_,_=>form8 h
 |9,_,_=>form9 h|10,_,_=>form10 h|11,_,_=>form11 h|12,_,_=>form12 h|13,_,_=>form13 h|14,_,_=>form14 h|15,_,_=>form15 h|16,_,_=>form16 h
 |17,_,_=>form17 h|18,_,_=>form18 h|19,_,_=>form19 h|20,_,_=>form20 h|21,_,_=>form21 h|22,_,_=>form22 h
 |0,h1,_=>absurd h1 (by omega)
 |k+23,_,h2=>absurd h2 (by omega)
end Go.Proofs.YtgmkbdmgifdfeaaGreatDoor

set_option maxRecDepth 8000
namespace Go.Proofs.YtgmkbdmgifdfeaaGreatDoor
open Go Go.Ev
theorem intF {g0 o p xp cb:Nat} {m:Mem} {ws:List (List UInt8)} {cs:List Value} (ha:Adr g0 o) (ho:o<cs.length) (hcb:vw m cb=some ⟨true,118,false,[.func (.func g0) ⟨[]⟩ ⟨[]⟩]⟩) (hx:vw m xp=some ⟨true,36,false,cs⟩) (hxl:xp<m.next) (hpx:p<xp) (hL:LineAt m p ws) (hE:ErrAt m) :
  CallsA tb 83 [.pointer (some ⟨p,0,none⟩),.pointer (some ⟨xp,0,none⟩),.pointer (some ⟨cb,0,none⟩)] m (optR (rd1 intOf ws) (fun a r m'=>vw m' xp=some ⟨true,36,false,cs.set o (.int .i64 a.1)⟩∧LineAt m' p a.2∧Kp [p,xp] m m') (fun m'=>Kp [p,xp] m m')):=by
 refine callsS Tryz.func83 e83 rfl rfl ?_
 simp only [s83,List.replicate,List.length_cons,List.length_nil,List.cons_append,List.nil_append,Nat.reduceAdd,Nat.reduceSub]
 refine xregQ fun Q' hQ=>?_
 simp [hcb]
 refine xcall ha.1 (ha.2 m xp) ?_ (fun ch m' h=>h.elim)
 rintro r m1 ⟨rfl,rfl⟩
 refine xcall (ov_none (by decide)) (whole_ok' hL hE) ?_ ?_
 ·rintro r m2 ⟨a,h1,rfl,h2,h3⟩
  have hx2:vw m2 xp=some ⟨true,36,false,cs⟩:=by rw [h3.vw hxl (by simp;omega)];exact hx
  have ho':o+1≤cs.length:=ho
  simp [hx2,ho']
  subst hQ
  refine⟨rfl,_,resX_nil,a,h1,?_,?_,?_⟩
  ·rw [vw_stM_eq hx2 (stOk_one rfl ho rfl)];rfl
  ·exact h2.kp ((Kp.refl [xp] _).st (by simp) _ _) (by simp;omega)
  ·exact (h3.mono (by simp)).st (by simp) _ _
 ·rintro ch m2 ⟨h1,rfl,h3⟩
  subst hQ
  exact⟨rfl,h1,rfl,h3.mono (by simp)⟩
theorem natF {g0 o p xp cb:Nat} {m:Mem} {ws:List (List UInt8)} {cs:List Value} (ha:Adr g0 o) (ho:o<cs.length) (hcb:vw m cb=some ⟨true,121,false,[.func (.func g0) ⟨[]⟩ ⟨[]⟩]⟩) (hx:vw m xp=some ⟨true,36,false,cs⟩) (hxl:xp<m.next) (hpx:p<xp) (hL:LineAt m p ws) (hE:ErrAt m) :
  CallsA tb 86 [.pointer (some ⟨p,0,none⟩),.pointer (some ⟨xp,0,none⟩),.pointer (some ⟨cb,0,none⟩)] m (optR (rd1 longOf ws) (fun a r m'=>vw m' xp=some ⟨true,36,false,cs.set o (.int .u64 a.1)⟩∧LineAt m' p a.2∧Kp [p,xp] m m') (fun m'=>Kp [p,xp] m m')):=by
 refine callsS Tryz.func86 e86 rfl rfl ?_
 simp only [s86,List.replicate,List.length_cons,List.length_nil,List.cons_append,List.nil_append,Nat.reduceAdd,Nat.reduceSub]
 refine xregQ fun Q' hQ=>?_
 simp [hcb]
 refine xcall ha.1 (ha.2 m xp) ?_ (fun ch m' h=>h.elim)
 rintro r m1 ⟨rfl,rfl⟩
 refine xcall (ov_none (by decide)) (long_ok' hL hE) ?_ ?_
 ·rintro r m2 ⟨a,h1,rfl,h2,h3⟩
  have hx2:vw m2 xp=some ⟨true,36,false,cs⟩:=by rw [h3.vw hxl (by simp;omega)];exact hx
  have ho':o+1≤cs.length:=ho
  simp [hx2,ho']
  subst hQ
  refine⟨rfl,_,resX_nil,a,h1,?_,?_,?_⟩
  ·rw [vw_stM_eq hx2 (stOk_one rfl ho rfl)];rfl
  ·exact h2.kp ((Kp.refl [xp] _).st (by simp) _ _) (by simp;omega)
  ·exact (h3.mono (by simp)).st (by simp) _ _
 ·rintro ch m2 ⟨h1,rfl,h3⟩
  subst hQ
  exact⟨rfl,h1,rfl,h3.mono (by simp)⟩
theorem maskF {p xp:Nat} {m:Mem} {ws:List (List UInt8)} {cs:List Value} (ho:cs.length=17) (hx:vw m xp=some ⟨true,36,false,cs⟩) (hxl:xp<m.next) (hpx:p<xp) (hL:LineAt m p ws) (hE:ErrAt m) :
  CallsA tb 99 [.pointer (some ⟨p,0,none⟩),.pointer (some ⟨xp,0,none⟩)] m (optR (rd1 maskOf ws) (fun a r m'=>vw m' xp=some ⟨true,36,false,cs.set 12 (.int .u32 a.1)⟩∧LineAt m' p a.2∧Kp [p,xp] m m') (fun m'=>Kp [p,xp] m m')):=by
 refine callsS Tryz.func99 e99 rfl rfl ?_
 simp only [s99,List.replicate,List.length_cons,List.length_nil,List.cons_append,List.nil_append,Nat.reduceAdd,Nat.reduceSub]
 refine xregQ fun Q' hQ=>?_
 simp
 refine xcall (ov_none (by decide)) (number_ok (b:=4294967295) hL hE (by omega)) ?_ ?_
 ·rintro r m2 ⟨⟨v,ws'⟩,h1,rfl,h2,h3⟩
  have hx2:vw m2 xp=some ⟨true,36,false,cs⟩:=by rw [h3.vw hxl (by simp;omega)];exact hx
  have hv:v≤4294967295:=by
   cases ws with
   |nil=>cases h1
   |cons w ws =>
    simp only [rd1,Option.map_eq_some_iff,Prod.mk.injEq] at h1
    obtain⟨v',h4,rfl,_⟩:=h1
    exact numOf_le h4
  have hw:IntKind.wrap .u32 (v:Int)=(v:Int):=wru32 _ (by omega) (by omega)
  simp [hx2,ho,hw]
  subst hQ
  refine⟨rfl,_,resX_nil,((v:Int),ws'),?_,?_,?_,?_⟩
  ·cases ws with
   |nil=>cases h1
   |cons w ws =>
    simp only [rd1,Option.map_eq_some_iff,Prod.mk.injEq] at h1
    obtain⟨v',h4,rfl,rfl⟩:=h1
    simp [rd1,maskOf,h4]
  ·rw [vw_stM_eq hx2 (stOk_one rfl (by simp [ho]) rfl)];rfl
  ·exact h2.kp ((Kp.refl [xp] _).st (by simp) _ _) (by simp;omega)
  ·exact (h3.mono (by simp)).st (by simp) _ _
 ·rintro ch m2 ⟨h1,rfl,h3⟩
  subst hQ
  refine⟨rfl,?_,rfl,h3.mono (by simp)⟩
  cases ws with
  |nil=>rfl
  |cons w ws =>
   simp only [rd1,Option.map_eq_none_iff] at h1
   simp [rd1,maskOf,h1]
theorem wayF {p xp:Nat} {m:Mem} {ws:List (List UInt8)} {cs:List Value} (ho:cs.length=17) (hx:vw m xp=some ⟨true,36,false,cs⟩) (hxl:xp<m.next) (hpx:p<xp) (hL:LineAt m p ws) :
  CallsA tb 94 [.pointer (some ⟨p,0,none⟩),.pointer (some ⟨xp,0,none⟩)] m (optR (rd1 wayOf ws) (fun a r m'=>vw m' xp=some ⟨true,36,false,cs.set 9 (.int .i64 a.1)⟩∧LineAt m' p a.2∧Kp [p,xp] m m') (fun m'=>Kp [p,xp] m m')):=by
 refine callsS Tryz.func94 e94 rfl rfl ?_
 simp only [s94,List.replicate,List.length_cons,List.length_nil,List.cons_append,List.nil_append,Nat.reduceAdd,Nat.reduceSub]
 refine xregQ fun Q' hQ=>?_
 simp
 refine xcall (ov_none (by decide)) (way_ok' hL) ?_ ?_
 ·rintro r m2 ⟨a,h1,rfl,h2,h3⟩
  have hx2:vw m2 xp=some ⟨true,36,false,cs⟩:=by rw [h3.vw hxl (by simp;omega)];exact hx
  simp [hx2,ho]
  subst hQ
  refine⟨rfl,_,resX_nil,a,h1,?_,?_,?_⟩
  ·rw [vw_stM_eq hx2 (stOk_one rfl (by simp [ho]) rfl)];rfl
  ·exact h2.kp ((Kp.refl [xp] _).st (by simp) _ _) (by simp;omega)
  ·exact (h3.mono (by simp)).st (by simp) _ _
 ·rintro ch m2 ⟨h1,rfl,h3⟩
  subst hQ
  exact⟨rfl,h1,rfl,h3.mono (by simp)⟩
theorem dataF {p xp:Nat} {m:Mem} {ws:List (List UInt8)} {cs:List Value} (ho:cs.length=17) (hx:vw m xp=some ⟨true,36,false,cs⟩) (hxl:xp<m.next) (hpx:p<xp) (hL:LineAt m p ws) :
  CallsA tb 90 [.pointer (some ⟨p,0,none⟩),.pointer (some ⟨xp,0,none⟩)] m (optR (rd1 textOf ws) (fun a r m'=>∃ d,vw m' xp=some ⟨true,36,false,cs.set 5 d⟩∧Own m.next m' d 5 a.1.length (u8s a.1)∧a.1.length≤2000000∧LineAt m' p a.2∧Kp [p,xp] m m') (fun m'=>Kp [p,xp] m m')):=by
 refine callsS Tryz.func90 e90 rfl rfl ?_
 simp only [s90,List.replicate,List.length_cons,List.length_nil,List.cons_append,List.nil_append,Nat.reduceAdd,Nat.reduceSub]
 refine xregQ fun Q' hQ=>?_
 simp
 refine xcall (ov_none (by decide)) (text_ok hL) ?_ ?_
 ·rintro r m2 ⟨a,h1,h0,hle,h2,h3⟩
  obtain⟨ad,rfl⟩:=h0.shape
  have hx2:vw m2 xp=some ⟨true,36,false,cs⟩:=by rw [h3.vw hxl (by simp;omega)];exact hx
  simp [hx2,ho]
  subst hQ
  refine⟨rfl,_,resX_nil,a,h1,.slice ad a.1.length a.1.length,?_,?_,hle,?_,?_⟩
  ·rw [vw_stM_eq hx2 (stOk_one rfl (by simp [ho]) rfl)];rfl
  ·rcases h0 with h0|⟨b,e,g1,g2,g3⟩
   ·exact .inl h0
   ·exact .inr ⟨b,e,g1,by rw [stM_next];exact g2,by rw [vw_stM_ne (by omega)];exact g3⟩
  ·exact h2.kp ((Kp.refl [xp] _).st (by simp) _ _) (by simp;omega)
  ·exact (h3.mono (by simp)).st (by simp) _ _
 ·rintro ch m2 ⟨h1,rfl,h3⟩
  subst hQ
  exact⟨rfl,h1,rfl,h3.mono (by simp)⟩
def Ch (n0:Nat) (S:List Nat) (m m':Mem):Prop:=m.next≤m'.next∧∀ x,x<n0→x∉S→m'.objs.get x=m.objs.get x
theorem Ch.refl (n0:Nat) (S:List Nat) (m:Mem):Ch n0 S m m:=⟨Nat.le_refl _,fun _ _ _=>rfl⟩
theorem Ch.trans {n0:Nat} {S:List Nat} {a b c:Mem} (h:Ch n0 S a b) (k:Ch n0 S b c):Ch n0 S a c:=⟨Nat.le_trans h.1 k.1,fun x hx hs=>(k.2 x hx hs).trans (h.2 x hx hs)⟩
theorem Ch.of_kp {n0:Nat} {S:List Nat} {a b:Mem} (h:Kp S a b) (hn:n0≤a.next):Ch n0 S a b:=⟨h.1,fun x hx hs=>h.2 x (by omega) hs⟩
theorem Ch.of_old {n0:Nat} {S:List Nat} {a b:Mem} (h:Old n0 a b):Ch n0 S a b:=⟨h.1,fun x hx _=>h.2 x hx⟩
theorem Ch.vw {n0:Nat} {S:List Nat} {a b:Mem} (h:Ch n0 S a b) {x:Nat} (hx:x<n0) (hs:x∉S):Go.Ev.vw b x=Go.Ev.vw a x:=by unfold Go.Ev.vw;rw [h.2 x hx hs]
theorem Ch.st {n0:Nat} {S:List Nat} {a b:Mem} (h:Ch n0 S a b) {k:Nat} (hk:k∈S) (i:Nat) (l:List Value):Ch n0 S a (stM b k i l) :=
 ⟨by rw [stM_next];exact h.1,fun x hx hs=>by rw [stM_get (fun e=>hs (by rw [e];exact hk))];exact h.2 x hx hs⟩
theorem LineAt.ch {n0:Nat} {S:List Nat} {m m':Mem} {p:Nat} {ws:List (List UInt8)} (h:LineAt m p ws) (k:Ch n0 S m m') (hp:p<n0) (hS:∀ x∈S,p<x):LineAt m' p ws:=by
 obtain⟨h1,h2,h3,h4,v,h5,h6⟩:=h
 refine⟨h1,Nat.lt_of_lt_of_le h2 k.1,h3,h4,v,by rw [k.vw hp (fun e=>by have:=hS p e;omega)];exact h5,?_⟩
 rcases h6 with h6|⟨b,all,h7,h8,h9⟩
 ·exact .inl h6
 ·exact .inr ⟨b,all,h7,by rw [k.vw (by omega) (fun e=>by have:=hS b e;omega)];exact h8,h9⟩
theorem ErrAt.ch {n0:Nat} {S:List Nat} {m m':Mem} (h:ErrAt m) (k:Ch n0 S m m') (hn:8≤n0) (hS:∀ x∈S,8≤x):ErrAt m':=by
 obtain⟨h1,⟨e,t,a,h2⟩,e',t',a',h3⟩:=h
 exact⟨Nat.lt_of_lt_of_le h1 k.1,⟨e,t,a,by rw [k.vw (by omega) (fun h=>by have:=hS 6 h;omega)];exact h2⟩,e',t',a',by rw [k.vw (by omega) (fun h=>by have:=hS 7 h;omega)];exact h3⟩
theorem _root_.Go.Ev.Own.ch {n0 n:Nat} {S:List Nat} {m m':Mem} {v:Value} {e:TypeId} {cells:List Value} (h:Own n0 m v e n cells) (k:Kp S m m') (hS:∀ x∈S,x<n0):Own n0 m' v e n cells:=by
 rcases h with h|⟨b,h1,h2,h3,h4⟩
 ·exact .inl h
 ·exact .inr ⟨b,h1,h2,Nat.lt_of_lt_of_le h3 k.1,by rw [k.vw h3 (fun e=>by have:=hS b e;omega)];exact h4⟩
theorem _root_.Go.Ev.Own.stb {n0 n k:Nat} {m:Mem} {v:Value} {e:TypeId} {cells:List Value} (h:Own n0 m v e n cells) (hk:k<n0) (i:Nat) (l:List Value):Own n0 (stM m k i l) v e n cells:=by
 rcases h with h|⟨b,h1,h2,h3,h4⟩
 ·exact .inl h
 ·exact .inr ⟨b,h1,h2,by rw [stM_next];exact h3,by rw [vw_stM_ne (by omega)];exact h4⟩
theorem app1i {n0:Nat} {m:Mem} {v:Value} {o:List Int} (h:Own n0 m v 3 o.length (i64s o)) (hn:n0≤m.next) (c:Int) :
  ∃ aw v' m3,v=.slice aw o.length o.length∧appendTo (newObjA m (.row ⟨T.setL [.int .i64 c] 0 .lf,1,[.int .i64 0],3,.none,false⟩)) 3 1 (.slice aw o.length o.length) 1 [.int .i64 c]=some (v',m3)∧Own n0 m3 v' 3 (o++[c]).length (i64s (o++[c]))∧Old n0 m m3∧(∀ x,x<m.next→blkV v≠some x→m3.objs.get x=m.objs.get x)∧∃ b,blkV v'=some b∧m.next≤b:=by
 obtain⟨aw,rfl⟩:=h.shape
 obtain⟨v',m3,h5,h6,h7,h8,b,hb1,hb2⟩:=h.append (k:=0) (sz:=1) (new:=[.int .i64 c]) ((Old.refl _ m).new (Nat.le_refl _) (.row ⟨T.setL [.int .i64 c] 0 .lf,1,[.int .i64 0],3,.none,false⟩)) hn (by simp) (by simp) (by simp)
 have e1:i64s (o++[c])=i64s o++[.int .i64 c]:=by simp [i64s]
 exact⟨aw,v',m3,rfl,h5,by rw [e1,List.length_append];exact h6,((Old.refl n0 m).new hn _).trans h8,fun x hx hb=>by rw [h7.2 x (by rw [next_newObjA];omega) hb,get_newObjA,if_neg (by omega)],b,by rw [hb1];rfl,by rw [next_newObjA] at hb2;omega⟩
theorem choicesF {n0 p xp:Nat} {m:Mem} {ws:List (List UInt8)} {cs:List Value} {c:Value} {l:List Int} (ho:cs.length=17) (hx:vw m xp=some ⟨true,36,false,cs⟩) (hc:cs[14]? = some c) (hown:Own n0 m c 3 l.length (i64s l)) (hn:n0≤m.next) (hxl:xp<n0) (hpx:p<xp) (hL:LineAt m p ws) (hE:ErrAt m) (hl:l.length≤2000000) :
  CallsA tb 102 [.pointer (some ⟨p,0,none⟩),.pointer (some ⟨xp,0,none⟩)] m (optR (allInts ws) (fun a r m'=>∃ c',vw m' xp=some ⟨true,36,false,cs.set 14 c'⟩∧Own n0 m' c' 3 (l++a).length (i64s (l++a))∧LineAt m' p []∧Ch n0 [p,xp] m m'∧∀ x,x<m.next→x≠p→x≠xp→blkV c≠some x→m'.objs.get x=m.objs.get x) (fun m'=>Ch n0 [p,xp] m m')):=by
 refine callsS Tryz.func102 e102 rfl rfl ?_
 simp only [s102,List.replicate,List.length_cons,List.length_nil,List.cons_append,List.nil_append,Nat.reduceAdd,Nat.reduceSub]
 have hp8:=hL.1
 refine xblock (xwhile (N:=ws.length) (I:=fun q ls ds m2=>∃ ws' a la c',q=ws'.length∧la=l++a∧a.length+ws'.length≤ws.length∧ds=[]∧allInts ws=(allInts ws').map (a ++ ·)∧vw m2 xp=some ⟨true,36,false,cs.set 14 c'⟩∧Own n0 m2 c' 3 la.length (i64s la)∧LineAt m2 p ws'∧Ch n0 [p,xp] m m2∧(∀ x,x<m.next→x≠p→x≠xp→blkV c≠some x→m2.objs.get x=m.objs.get x)∧(c'=c∨∃ b,blkV c'=some b∧m.next≤b) ∧
   Sl [.pointer (some ⟨p,0,none⟩),.pointer (some ⟨xp,0,none⟩)] 19 ls) ?_ ?_)
 ·refine⟨ws,[],l,c,rfl,by simp,by simp,rfl,by simp,?_,hown,hL,.refl _ _ _,fun _ _ _ _ _=>rfl,.inl rfl,Sl.mk rfl rfl⟩
  have:cs.set 14 c=cs:=by
   apply List.ext_getElem?
   intro i
   rw [List.getElem?_set]
   by_cases e:14=i
   ·subst e;rw [if_pos rfl,if_pos (by omega),hc]
   ·rw [if_neg e]
  rw [this];exact hx
 rintro q ls ds m2 ⟨ws',a,la,c',rfl,hla,hal,rfl,hai,hx2,hown2,hL2,hC2,hB2,hcb,us,hus,rfl⟩
 obtain⟨ap,ac,hv2⟩:=hL2.len
 refine xseq (xseq (xregQ fun Q' hQ=>?_))
 simp [hus,hv2]
 subst hQ
 refine xif (v:=decide (0<ws'.length)) (by simp [hus]) (fun h=>xskip ?_) (fun h=>xexit ?_)
 ·simp only [decide_eq_true_eq] at h
  cases ws' with
  |nil=>simp at h
  |cons w ws' =>
   have hE2:=hE.ch hC2 (by omega) (by simp;omega)
   obtain⟨ac2,hcc⟩:=hown2.shape
   subst hcc
   have hll:la.length≤8000000:=by have:=hL.2.2.1;rw [hla,List.length_append];simp at hal;omega
   have hxm:xp<m2.next:=by have:=hC2.1;omega
   refine xblock (xdrw 5 fun Q' hQ=>?_)
   simp [hus,hx2,ho]
   refine xcall (ov_none (by decide)) (whole_ok' hL2 hE2) ?_ ?_
   rotate_left
   ·rintro ch m3 ⟨h1,rfl,h3⟩
    subst hQ
    refine⟨rfl,?_,rfl,hC2.trans (.of_kp (h3.mono (by simp)) (by have:=hC2.1;omega))⟩
    rw [hai]
    simp only [rd1,Option.map_eq_none_iff] at h1
    simp [allInts,h1]
   rintro r m3 ⟨⟨v,ws3⟩,h1,rfl,h2,h3⟩
   simp only [rd1,Option.map_eq_some_iff,Prod.mk.injEq] at h1
   obtain⟨v',h4,rfl,rfl⟩:=h1
   have hx3:vw m3 xp=some ⟨true,36,false,cs.set 14 (.slice ac2 la.length la.length)⟩:=by rw [h3.vw hxm (by simp;omega)];exact hx2
   have hown3:=hown2.ch h3 (by simp;omega)
   have hn3:n0≤m3.next:=by have:=hC2.1;have:=h3.1;omega
   obtain⟨aw,v4,m4,he,g1,g2,g3,g4,bn,g5,g6⟩:=app1i hown3 hn3 v'
   cases he
   obtain⟨aw1,hv4⟩:=g2.shape
   subst hv4
   have hx4:vw m4 xp=some ⟨true,36,false,cs.set 14 (.slice ac2 la.length la.length)⟩:=by rw [g3.vw hxl];exact hx3
   simp [hus,hx3,ho,hx4,fits_true _ la.length la.length 1 8 (by omega),g1]
   subst hQ
   have hx5:=vw_stM_eq hx4 (i:=14) (l:=[.slice aw1 (la++[v']).length (la++[v']).length]) (stOk_one rfl (by simp [ho]) rfl)
   simp [spl] at hx5
   refine⟨ws'.length,by simp,ws',a++[v'],la++[v'],.slice aw1 (la++[v']).length (la++[v']).length,rfl,by rw [hla];simp,by simp at hal ⊢;omega,rfl,?_,?_,?_,?_,?_,?_,?_,Sl.mk rfl (by simp [hus])⟩
   ·rw [hai];simp [allInts,h4]
    cases allInts ws'<;>simp
   ·simpa using hx5
   ·exact g2.stb hxl _ _
   ·have h5:=h2.ch (Ch.of_old (S:=[]) g3) (by omega) (by simp)
    exact h5.kp ((Kp.refl [xp] _).st (by simp) _ _) (by simp;omega)
   ·exact (hC2.trans ((Ch.of_kp (h3.mono (by simp)) (by have:=hC2.1;omega)).trans (Ch.of_old g3))).st (by simp) _ _
   ·intro x hx1 hx2' hx3' hx4'
    have hcx:blkV (.slice ac2 la.length la.length)≠some x:=by
     rcases hcb with e|⟨b,e1,e2⟩
     ·rw [e];exact hx4'
     ·rw [e1];intro e;cases e;omega
    rw [stM_get (by omega),g4 x (by have:=hC2.1;have:=h3.1;omega) hcx,h3.2 x (by have:=hC2.1;omega) (by simp;omega)]
    exact hB2 x hx1 hx2' hx3' hx4'
   ·exact .inr ⟨bn,by rw [← g5],by have:=hC2.1;have:=h3.1;omega⟩
 ·simp only [decide_eq_false_iff_not] at h
  cases ws' with
  |cons w ws'=>simp at h
  |nil =>
   subst hla
   exact⟨rfl,_,resX_nil,a,by simp [hai,allInts],c',hx2,hown2,hL2,hC2,hB2⟩
end Go.Proofs.YtgmkbdmgifdfeaaGreatDoor

