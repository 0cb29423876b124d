/- A part of a proof: ScriptBlanks. -/
import Derived.Test.YtgmkbdmgifdfeaaGreatDoorC23
set_option linter.unusedVariables false
set_option linter.unusedSimpArgs false
set_option maxRecDepth 8000
namespace Go.Proofs.YtgmkbdmgifdfeaaGreatDoor
open Go Go.Ev
theorem rstep_k1 {N0:Nat} {m:Mem} {n:Int} {f:Fs} {a1 a2 a3:Option Addr} (hF:FsV N0 m f (.agg ⟨fsC f a1 a2 a3⟩)) (hS:Qba 1 f):Qar tb 79 [.agg ⟨Qaz 1⟩,.int .i64 n,.agg ⟨fsC f a1 a2 a3⟩] m (retR (Qdl 1 n f a1 a3 m)):=by
 obtain⟨o1,o2,o3⟩:=hF.parts
 obtain⟨ints,nats,way,text⟩:=f
 have hS':=hS.resolve_left (by decide)
 simp only [iN,nN] at hS'
 obtain rfl:=List.length_eq_zero_iff.1 hS'.1
 obtain⟨z0,rfl⟩:=len1 hS'.2.1
 refine Qay Tryz.func79 e79 rfl rfl ?_
 simp only [Klc,Kln,Kca,Kna,Nat.reduceAdd]
 refine Qcq fun l ts m2 x0 x2 x4 hts S hl=>?_
 obtain⟨hO,-,h0,h1,h2,h3⟩:=S
 subst hl
 refine Qbg (fun l ds m'=>ds=[]∧Old m.next m m'∧vw m' (m.next+2)=some ⟨true,36,false,Qaa stp0 (.slice none 0 0) (.slice none 0 0)⟩∧vw m' (m.next+3)=some ⟨true,36,false,Qaa (Qa0 1 n ⟨[],[z0],way,text⟩) (.slice none 0 0) (.slice none 0 0)⟩∧∃ x0 x1 x2 x3 x4 x5,Sl [x0,x1,x2,x3,x4,x5,.pointer (some ⟨m.next+2,0,none⟩),.pointer (some ⟨m.next+3,0,none⟩)] 157 l) ?_ ?_
 ·rintro l ds m3 ⟨rfl,hO3,hv2,hv3,x0,x1,x2,x3,x4,x5,us,hus,rfl⟩
  exact Qd0 hO3 hv2 hv3 rfl rfl rfl rfl hus
 simp only [Qaz,Qbh,Qap,fsC,Qaa,stp0,Klc,Kln,Nat.zero_add,Nat.reduceAdd] at h0 h1 h3
 obtain⟨r0,hr0⟩:∃ r0,r0=m.next:=⟨_,rfl⟩
 rw [← hr0] at h0 h1 h2 h3 hO ⊢
 obtain⟨bn,en,hbn,hvn⟩:=Qdi o2 (by simp) (hr0▸hO)
 obtain rfl:a2=some ⟨bn,0,none⟩:=by cases en;rfl
 simp only [u64s,List.map_cons,List.map_nil,Klc,Kln,Nat.zero_add,Nat.reduceAdd] at hvn
 have nen:¬ bn=r0+3:=by omega
 refine xsr fun Q' hQ=>?_
 simp [hts,h0,h1,h3,Qag,Qab,spl,stOk,oneC,hvn,nen]
 subst hQ
 refine Qa1 ?_
 refine xsr fun Q' hQ=>?_
 simp [hts]
 subst hQ
 refine xyes (by simp [hts]) ?_
 refine Qai fun Q' hQ=>?_
 simp [hts,h0,h1,h3,Qag,Qab,spl,stOk,oneC,hvn,nen]
 subst hQ
 refine⟨rfl,?_,?_,?_,?_⟩
 ·exact (Old.st hO (by omega) _ _)
 ·rw [Qab (by omega)];exact h2
 ·simp [h3,Qag,Qab,spl,stOk,oneC,Qa0,Qaa,stp0,i0,n0]
 ·exact⟨x0,.int .i64 n,x2,_,x4,_,Sl.mk rfl (by simp [hts])⟩
theorem rstep_k2 {N0:Nat} {m:Mem} {n:Int} {f:Fs} {a1 a2 a3:Option Addr} (hF:FsV N0 m f (.agg ⟨fsC f a1 a2 a3⟩)) (hS:Qba 2 f):Qar tb 79 [.agg ⟨Qaz 2⟩,.int .i64 n,.agg ⟨fsC f a1 a2 a3⟩] m (retR (Qdl 2 n f a1 a3 m)):=by
 obtain⟨o1,o2,o3⟩:=hF.parts
 obtain⟨ints,nats,way,text⟩:=f
 have hS':=hS.resolve_left (by decide)
 simp only [iN,nN] at hS'
 obtain⟨y0,y1,y2,rfl⟩:=len3 hS'.1
 obtain rfl:=List.length_eq_zero_iff.1 hS'.2.1
 refine Qay Tryz.func79 e79 rfl rfl ?_
 simp only [Klc,Kln,Kca,Kna,Nat.reduceAdd]
 refine Qcq fun l ts m2 x0 x2 x4 hts S hl=>?_
 obtain⟨hO,-,h0,h1,h2,h3⟩:=S
 subst hl
 refine Qbg (fun l ds m'=>ds=[]∧Old m.next m m'∧vw m' (m.next+2)=some ⟨true,36,false,Qaa stp0 (.slice none 0 0) (.slice none 0 0)⟩∧vw m' (m.next+3)=some ⟨true,36,false,Qaa (Qa0 2 n ⟨[y0,y1,y2],[],way,text⟩) (.slice none 0 0) (.slice none 0 0)⟩∧∃ x0 x1 x2 x3 x4 x5,Sl [x0,x1,x2,x3,x4,x5,.pointer (some ⟨m.next+2,0,none⟩),.pointer (some ⟨m.next+3,0,none⟩)] 157 l) ?_ ?_
 ·rintro l ds m3 ⟨rfl,hO3,hv2,hv3,x0,x1,x2,x3,x4,x5,us,hus,rfl⟩
  exact Qd0 hO3 hv2 hv3 rfl rfl rfl rfl hus
 simp only [Qaz,Qbh,Qap,fsC,Qaa,stp0,Klc,Kln,Nat.zero_add,Nat.reduceAdd] at h0 h1 h3
 obtain⟨r0,hr0⟩:∃ r0,r0=m.next:=⟨_,rfl⟩
 rw [← hr0] at h0 h1 h2 h3 hO ⊢
 obtain⟨bi,ei,hbi,hvi⟩:=Qdi o1 (by simp) (hr0▸hO)
 obtain rfl:a1=some ⟨bi,0,none⟩:=by cases ei;rfl
 simp only [i64s,List.map_cons,List.map_nil,Klc,Kln,Nat.zero_add,Nat.reduceAdd] at hvi
 have nei:¬ bi=r0+3:=by omega
 refine xsr fun Q' hQ=>?_
 simp [hts,h0,h1,h3,Qag,Qab,spl,stOk,oneC,hvi,nei]
 subst hQ
 refine Qa1 ?_
 refine xsr fun Q' hQ=>?_
 simp [hts]
 subst hQ
 refine xno (by simp [hts]) ?_
 refine xsr fun Q' hQ=>?_
 simp [hts]
 subst hQ
 refine xyes (by simp [hts]) ?_
 refine xsr fun Q' hQ=>?_
 simp [hts,h0,h1,h3,Qag,Qab,spl,stOk,oneC,hvi,nei]
 subst hQ
 refine xdrw 3 fun Q' hQ=>?_
 simp [hts,h0,h1,h3,Qag,Qab,spl,stOk,oneC,hvi,nei]
 subst hQ
 refine⟨rfl,?_,?_,?_,?_⟩
 ·exact (Old.st (Old.st hO (by omega) _ _) (by omega) _ _)
 ·rw [Qab (by omega),Qab (by omega)];exact h2
 ·simp [h3,Qag,Qab,spl,stOk,oneC,Qa0,Qaa,stp0,i0,n0]
 ·exact⟨x0,.int .i64 n,x2,_,x4,_,Sl.mk rfl (by simp [hts])⟩
theorem rstep_k3 {N0:Nat} {m:Mem} {n:Int} {f:Fs} {a1 a2 a3:Option Addr} (hF:FsV N0 m f (.agg ⟨fsC f a1 a2 a3⟩)) (hS:Qba 3 f):Qar tb 79 [.agg ⟨Qaz 3⟩,.int .i64 n,.agg ⟨fsC f a1 a2 a3⟩] m (retR (Qdl 3 n f a1 a3 m)):=by
 obtain⟨o1,o2,o3⟩:=hF.parts
 obtain⟨ints,nats,way,text⟩:=f
 have hS':=hS.resolve_left (by decide)
 simp only [iN,nN] at hS'
 obtain⟨y0,rfl⟩:=len1 hS'.1
 obtain rfl:=List.length_eq_zero_iff.1 hS'.2.1
 refine Qay Tryz.func79 e79 rfl rfl ?_
 simp only [Klc,Kln,Kca,Kna,Nat.reduceAdd]
 refine Qcq fun l ts m2 x0 x2 x4 hts S hl=>?_
 obtain⟨hO,-,h0,h1,h2,h3⟩:=S
 subst hl
 refine Qbg (fun l ds m'=>ds=[]∧Old m.next m m'∧vw m' (m.next+2)=some ⟨true,36,false,Qaa stp0 (.slice none 0 0) (.slice none 0 0)⟩∧vw m' (m.next+3)=some ⟨true,36,false,Qaa (Qa0 3 n ⟨[y0],[],way,text⟩) (.slice none 0 0) (.slice none 0 0)⟩∧∃ x0 x1 x2 x3 x4 x5,Sl [x0,x1,x2,x3,x4,x5,.pointer (some ⟨m.next+2,0,none⟩),.pointer (some ⟨m.next+3,0,none⟩)] 157 l) ?_ ?_
 ·rintro l ds m3 ⟨rfl,hO3,hv2,hv3,x0,x1,x2,x3,x4,x5,us,hus,rfl⟩
  exact Qd0 hO3 hv2 hv3 rfl rfl rfl rfl hus
 simp only [Qaz,Qbh,Qap,fsC,Qaa,stp0,Klc,Kln,Nat.zero_add,Nat.reduceAdd] at h0 h1 h3
 obtain⟨r0,hr0⟩:∃ r0,r0=m.next:=⟨_,rfl⟩
 rw [← hr0] at h0 h1 h2 h3 hO ⊢
 obtain⟨bi,ei,hbi,hvi⟩:=Qdi o1 (by simp) (hr0▸hO)
 obtain rfl:a1=some ⟨bi,0,none⟩:=by cases ei;rfl
 simp only [i64s,List.map_cons,List.map_nil,Klc,Kln,Nat.zero_add,Nat.reduceAdd] at hvi
 have nei:¬ bi=r0+3:=by omega
 refine xsr fun Q' hQ=>?_
 simp [hts,h0,h1,h3,Qag,Qab,spl,stOk,oneC,hvi,nei]
 subst hQ
 refine Qa1 ?_
 refine xsr fun Q' hQ=>?_
 simp [hts]
 subst hQ
 refine xno (by simp [hts]) ?_
 refine xsr fun Q' hQ=>?_
 simp [hts]
 subst hQ
 refine xno (by simp [hts]) ?_
 refine xseq ?_
 refine xsr fun Q' hQ=>?_
 simp [hts]
 subst hQ
 refine xyes (by simp [hts]) (Qa2 ?_)
 rw [Qaf]
 refine xyes (by simp [hts]) ?_
 refine Qai fun Q' hQ=>?_
 simp [hts,h0,h1,h3,Qag,Qab,spl,stOk,oneC,hvi,nei]
 subst hQ
 refine⟨rfl,?_,?_,?_,?_⟩
 ·exact (Old.st hO (by omega) _ _)
 ·rw [Qab (by omega)];exact h2
 ·simp [h3,Qag,Qab,spl,stOk,oneC,Qa0,Qaa,stp0,i0,n0]
 ·exact⟨x0,.int .i64 n,x2,_,x4,_,Sl.mk rfl (by simp [hts])⟩
theorem rstep_k4 {N0:Nat} {m:Mem} {n:Int} {f:Fs} {a1 a2 a3:Option Addr} (hF:FsV N0 m f (.agg ⟨fsC f a1 a2 a3⟩)) (hS:Qba 4 f):Qar tb 79 [.agg ⟨Qaz 4⟩,.int .i64 n,.agg ⟨fsC f a1 a2 a3⟩] m (retR (Qdl 4 n f a1 a3 m)):=by
 obtain⟨o1,o2,o3⟩:=hF.parts
 obtain⟨ints,nats,way,text⟩:=f
 have hS':=hS.resolve_left (by decide)
 simp only [iN,nN] at hS'
 obtain⟨y0,rfl⟩:=len1 hS'.1
 obtain rfl:=List.length_eq_zero_iff.1 hS'.2.1
 refine Qay Tryz.func79 e79 rfl rfl ?_
 simp only [Klc,Kln,Kca,Kna,Nat.reduceAdd]
 refine Qcq fun l ts m2 x0 x2 x4 hts S hl=>?_
 obtain⟨hO,-,h0,h1,h2,h3⟩:=S
 subst hl
 refine Qbg (fun l ds m'=>ds=[]∧Old m.next m m'∧vw m' (m.next+2)=some ⟨true,36,false,Qaa stp0 (.slice none 0 0) (.slice none 0 0)⟩∧vw m' (m.next+3)=some ⟨true,36,false,Qaa (Qa0 4 n ⟨[y0],[],way,text⟩) (.slice none 0 0) (.slice none 0 0)⟩∧∃ x0 x1 x2 x3 x4 x5,Sl [x0,x1,x2,x3,x4,x5,.pointer (some ⟨m.next+2,0,none⟩),.pointer (some ⟨m.next+3,0,none⟩)] 157 l) ?_ ?_
 ·rintro l ds m3 ⟨rfl,hO3,hv2,hv3,x0,x1,x2,x3,x4,x5,us,hus,rfl⟩
  exact Qd0 hO3 hv2 hv3 rfl rfl rfl rfl hus
 simp only [Qaz,Qbh,Qap,fsC,Qaa,stp0,Klc,Kln,Nat.zero_add,Nat.reduceAdd] at h0 h1 h3
 obtain⟨r0,hr0⟩:∃ r0,r0=m.next:=⟨_,rfl⟩
 rw [← hr0] at h0 h1 h2 h3 hO ⊢
 obtain⟨bi,ei,hbi,hvi⟩:=Qdi o1 (by simp) (hr0▸hO)
 obtain rfl:a1=some ⟨bi,0,none⟩:=by cases ei;rfl
 simp only [i64s,List.map_cons,List.map_nil,Klc,Kln,Nat.zero_add,Nat.reduceAdd] at hvi
 have nei:¬ bi=r0+3:=by omega
 refine xsr fun Q' hQ=>?_
 simp [hts,h0,h1,h3,Qag,Qab,spl,stOk,oneC,hvi,nei]
 subst hQ
 refine Qa1 ?_
 refine xsr fun Q' hQ=>?_
 simp [hts]
 subst hQ
 refine xno (by simp [hts]) ?_
 refine xsr fun Q' hQ=>?_
 simp [hts]
 subst hQ
 refine xno (by simp [hts]) ?_
 refine xseq ?_
 refine xsr fun Q' hQ=>?_
 simp [hts]
 subst hQ
 refine xno (by simp [hts]) ?_
 refine xsr fun Q' hQ=>?_
 simp [hts]
 subst hQ
 refine xyes (by simp [hts]) (Qa2 ?_)
 rw [Qaf]
 refine xyes (by simp [hts]) ?_
 refine Qai fun Q' hQ=>?_
 simp [hts,h0,h1,h3,Qag,Qab,spl,stOk,oneC,hvi,nei]
 subst hQ
 refine⟨rfl,?_,?_,?_,?_⟩
 ·exact (Old.st hO (by omega) _ _)
 ·rw [Qab (by omega)];exact h2
 ·simp [h3,Qag,Qab,spl,stOk,oneC,Qa0,Qaa,stp0,i0,n0]
 ·exact⟨x0,.int .i64 n,x2,_,x4,_,Sl.mk rfl (by simp [hts])⟩
theorem rstep_k5 {N0:Nat} {m:Mem} {n:Int} {f:Fs} {a1 a2 a3:Option Addr} (hF:FsV N0 m f (.agg ⟨fsC f a1 a2 a3⟩)) (hS:Qba 5 f):Qar tb 79 [.agg ⟨Qaz 5⟩,.int .i64 n,.agg ⟨fsC f a1 a2 a3⟩] m (retR (Qdl 5 n f a1 a3 m)):=by
 obtain⟨o1,o2,o3⟩:=hF.parts
 obtain⟨ints,nats,way,text⟩:=f
 have hS':=hS.resolve_left (by decide)
 simp only [iN,nN] at hS'
 obtain⟨y0,rfl⟩:=len1 hS'.1
 obtain rfl:=List.length_eq_zero_iff.1 hS'.2.1
 refine Qay Tryz.func79 e79 rfl rfl ?_
 simp only [Klc,Kln,Kca,Kna,Nat.reduceAdd]
 refine Qcq fun l ts m2 x0 x2 x4 hts S hl=>?_
 obtain⟨hO,-,h0,h1,h2,h3⟩:=S
 subst hl
 refine Qbg (fun l ds m'=>ds=[]∧Old m.next m m'∧vw m' (m.next+2)=some ⟨true,36,false,Qaa stp0 (.slice none 0 0) (.slice none 0 0)⟩∧vw m' (m.next+3)=some ⟨true,36,false,Qaa (Qa0 5 n ⟨[y0],[],way,text⟩) (.slice none 0 0) (.slice none 0 0)⟩∧∃ x0 x1 x2 x3 x4 x5,Sl [x0,x1,x2,x3,x4,x5,.pointer (some ⟨m.next+2,0,none⟩),.pointer (some ⟨m.next+3,0,none⟩)] 157 l) ?_ ?_
 ·rintro l ds m3 ⟨rfl,hO3,hv2,hv3,x0,x1,x2,x3,x4,x5,us,hus,rfl⟩
  exact Qd0 hO3 hv2 hv3 rfl rfl rfl rfl hus
 simp only [Qaz,Qbh,Qap,fsC,Qaa,stp0,Klc,Kln,Nat.zero_add,Nat.reduceAdd] at h0 h1 h3
 obtain⟨r0,hr0⟩:∃ r0,r0=m.next:=⟨_,rfl⟩
 rw [← hr0] at h0 h1 h2 h3 hO ⊢
 obtain⟨bi,ei,hbi,hvi⟩:=Qdi o1 (by simp) (hr0▸hO)
 obtain rfl:a1=some ⟨bi,0,none⟩:=by cases ei;rfl
 simp only [i64s,List.map_cons,List.map_nil,Klc,Kln,Nat.zero_add,Nat.reduceAdd] at hvi
 have nei:¬ bi=r0+3:=by omega
 refine xsr fun Q' hQ=>?_
 simp [hts,h0,h1,h3,Qag,Qab,spl,stOk,oneC,hvi,nei]
 subst hQ
 refine Qa1 ?_
 refine xsr fun Q' hQ=>?_
 simp [hts]
 subst hQ
 refine xno (by simp [hts]) ?_
 refine xsr fun Q' hQ=>?_
 simp [hts]
 subst hQ
 refine xno (by simp [hts]) ?_
 refine xseq ?_
 refine xsr fun Q' hQ=>?_
 simp [hts]
 subst hQ
 refine xno (by simp [hts]) ?_
 refine xsr fun Q' hQ=>?_
 simp [hts]
 subst hQ
 refine xno (by simp [hts]) ?_
 refine xsr fun Q' hQ=>?_
 simp [hts]
 subst hQ
 refine xyes (by simp [hts]) (Qa2 ?_)
 rw [Qaf]
 refine xyes (by simp [hts]) ?_
 refine Qai fun Q' hQ=>?_
 simp [hts,h0,h1,h3,Qag,Qab,spl,stOk,oneC,hvi,nei]
 subst hQ
 refine⟨rfl,?_,?_,?_,?_⟩
 ·exact (Old.st hO (by omega) _ _)
 ·rw [Qab (by omega)];exact h2
 ·simp [h3,Qag,Qab,spl,stOk,oneC,Qa0,Qaa,stp0,i0,n0]
 ·exact⟨x0,.int .i64 n,x2,_,x4,_,Sl.mk rfl (by simp [hts])⟩
theorem rstep_k6 {N0:Nat} {m:Mem} {n:Int} {f:Fs} {a1 a2 a3:Option Addr} (hF:FsV N0 m f (.agg ⟨fsC f a1 a2 a3⟩)) (hS:Qba 6 f):Qar tb 79 [.agg ⟨Qaz 6⟩,.int .i64 n,.agg ⟨fsC f a1 a2 a3⟩] m (retR (Qdl 6 n f a1 a3 m)):=by
 obtain⟨o1,o2,o3⟩:=hF.parts
 obtain⟨ints,nats,way,text⟩:=f
 have hS':=hS.resolve_left (by decide)
 simp only [iN,nN] at hS'
 obtain⟨y0,rfl⟩:=len1 hS'.1
 obtain⟨z0,z1,rfl⟩:=len2 hS'.2.1
 refine Qay Tryz.func79 e79 rfl rfl ?_
 simp only [Klc,Kln,Kca,Kna,Nat.reduceAdd]
 refine Qcq fun l ts m2 x0 x2 x4 hts S hl=>?_
 obtain⟨hO,-,h0,h1,h2,h3⟩:=S
 subst hl
 refine Qbg (fun l ds m'=>ds=[]∧Old m.next m m'∧vw m' (m.next+2)=some ⟨true,36,false,Qaa stp0 (.slice none 0 0) (.slice none 0 0)⟩∧vw m' (m.next+3)=some ⟨true,36,false,Qaa (Qa0 6 n ⟨[y0],[z0,z1],way,text⟩) (.slice a3 text.length text.length) (.slice none 0 0)⟩∧∃ x0 x1 x2 x3 x4 x5,Sl [x0,x1,x2,x3,x4,x5,.pointer (some ⟨m.next+2,0,none⟩),.pointer (some ⟨m.next+3,0,none⟩)] 157 l) ?_ ?_
 ·rintro l ds m3 ⟨rfl,hO3,hv2,hv3,x0,x1,x2,x3,x4,x5,us,hus,rfl⟩
  exact Qd0 hO3 hv2 hv3 rfl rfl rfl rfl hus
 simp only [Qaz,Qbh,Qap,fsC,Qaa,stp0,Klc,Kln,Nat.zero_add,Nat.reduceAdd] at h0 h1 h3
 obtain⟨r0,hr0⟩:∃ r0,r0=m.next:=⟨_,rfl⟩
 rw [← hr0] at h0 h1 h2 h3 hO ⊢
 obtain⟨bi,ei,hbi,hvi⟩:=Qdi o1 (by simp) (hr0▸hO)
 obtain rfl:a1=some ⟨bi,0,none⟩:=by cases ei;rfl
 simp only [i64s,List.map_cons,List.map_nil,Klc,Kln,Nat.zero_add,Nat.reduceAdd] at hvi
 have nei:¬ bi=r0+3:=by omega
 obtain⟨bn,en,hbn,hvn⟩:=Qdi o2 (by simp) (hr0▸hO)
 obtain rfl:a2=some ⟨bn,0,none⟩:=by cases en;rfl
 simp only [u64s,List.map_cons,List.map_nil,Klc,Kln,Nat.zero_add,Nat.reduceAdd] at hvn
 have nen:¬ bn=r0+3:=by omega
 refine xsr fun Q' hQ=>?_
 simp [hts,h0,h1,h3,Qag,Qab,spl,stOk,oneC,hvi,nei,hvn,nen]
 subst hQ
 refine Qa1 ?_
 refine xsr fun Q' hQ=>?_
 simp [hts]
 subst hQ
 refine xno (by simp [hts]) ?_
 refine xsr fun Q' hQ=>?_
 simp [hts]
 subst hQ
 refine xno (by simp [hts]) ?_
 refine xseq ?_
 refine xsr fun Q' hQ=>?_
 simp [hts]
 subst hQ
 refine xno (by simp [hts]) ?_
 refine xsr fun Q' hQ=>?_
 simp [hts]
 subst hQ
 refine xno (by simp [hts]) ?_
 refine xsr fun Q' hQ=>?_
 simp [hts]
 subst hQ
 refine xno (by simp [hts]) ?_
 refine Qai fun Q' hQ=>?_
 simp [hts]
 subst hQ
 rw [Qaf]
 refine xno (by simp [hts]) ?_
 refine xsr fun Q' hQ=>?_
 simp [hts]
 subst hQ
 refine xyes (by simp [hts]) ?_
 refine xsr fun Q' hQ=>?_
 simp [hts,h0,h1,h3,Qag,Qab,spl,stOk,oneC,hvi,nei,hvn,nen]
 subst hQ
 refine xsr fun Q' hQ=>?_
 simp [hts,h0,h1,h3,Qag,Qab,spl,stOk,oneC,hvi,nei,hvn,nen]
 subst hQ
 refine xsr fun Q' hQ=>?_
 simp [hts,h0,h1,h3,Qag,Qab,spl,stOk,oneC,hvi,nei,hvn,nen]
 subst hQ
 refine Qai fun Q' hQ=>?_
 simp [hts,h0,h1,h3,Qag,Qab,spl,stOk,oneC,hvi,nei,hvn,nen]
 subst hQ
 refine⟨rfl,?_,?_,?_,?_⟩
 ·exact (Old.st (Old.st (Old.st (Old.st hO (by omega) _ _) (by omega) _ _) (by omega) _ _) (by omega) _ _)
 ·rw [Qab (by omega),Qab (by omega),Qab (by omega),Qab (by omega)];exact h2
 ·simp [h3,Qag,Qab,spl,stOk,oneC,Qa0,Qaa,stp0,i0,n0]
 ·exact⟨x0,.int .i64 n,x2,_,x4,_,Sl.mk rfl (by simp [hts])⟩
theorem rstep_k7 {N0:Nat} {m:Mem} {n:Int} {f:Fs} {a1 a2 a3:Option Addr} (hF:FsV N0 m f (.agg ⟨fsC f a1 a2 a3⟩)) (hS:Qba 7 f):Qar tb 79 [.agg ⟨Qaz 7⟩,.int .i64 n,.agg ⟨fsC f a1 a2 a3⟩] m (retR (Qdl 7 n f a1 a3 m)):=by
 obtain⟨o1,o2,o3⟩:=hF.parts
 obtain⟨ints,nats,way,text⟩:=f
 have hS':=hS.resolve_left (by decide)
 simp only [iN,nN] at hS'
 obtain⟨y0,rfl⟩:=len1 hS'.1
 obtain⟨z0,rfl⟩:=len1 hS'.2.1
 refine Qay Tryz.func79 e79 rfl rfl ?_
 simp only [Klc,Kln,Kca,Kna,Nat.reduceAdd]
 refine Qcq fun l ts m2 x0 x2 x4 hts S hl=>?_
 obtain⟨hO,-,h0,h1,h2,h3⟩:=S
 subst hl
 refine Qbg (fun l ds m'=>ds=[]∧Old m.next m m'∧vw m' (m.next+2)=some ⟨true,36,false,Qaa stp0 (.slice none 0 0) (.slice none 0 0)⟩∧vw m' (m.next+3)=some ⟨true,36,false,Qaa (Qa0 7 n ⟨[y0],[z0],way,text⟩) (.slice none 0 0) (.slice none 0 0)⟩∧∃ x0 x1 x2 x3 x4 x5,Sl [x0,x1,x2,x3,x4,x5,.pointer (some ⟨m.next+2,0,none⟩),.pointer (some ⟨m.next+3,0,none⟩)] 157 l) ?_ ?_
 ·rintro l ds m3 ⟨rfl,hO3,hv2,hv3,x0,x1,x2,x3,x4,x5,us,hus,rfl⟩
  exact Qd0 hO3 hv2 hv3 rfl rfl rfl rfl hus
 simp only [Qaz,Qbh,Qap,fsC,Qaa,stp0,Klc,Kln,Nat.zero_add,Nat.reduceAdd] at h0 h1 h3
 obtain⟨r0,hr0⟩:∃ r0,r0=m.next:=⟨_,rfl⟩
 rw [← hr0] at h0 h1 h2 h3 hO ⊢
 obtain⟨bi,ei,hbi,hvi⟩:=Qdi o1 (by simp) (hr0▸hO)
 obtain rfl:a1=some ⟨bi,0,none⟩:=by cases ei;rfl
 simp only [i64s,List.map_cons,List.map_nil,Klc,Kln,Nat.zero_add,Nat.reduceAdd] at hvi
 have nei:¬ bi=r0+3:=by omega
 obtain⟨bn,en,hbn,hvn⟩:=Qdi o2 (by simp) (hr0▸hO)
 obtain rfl:a2=some ⟨bn,0,none⟩:=by cases en;rfl
 simp only [u64s,List.map_cons,List.map_nil,Klc,Kln,Nat.zero_add,Nat.reduceAdd] at hvn
 have nen:¬ bn=r0+3:=by omega
 refine xsr fun Q' hQ=>?_
 simp [hts,h0,h1,h3,Qag,Qab,spl,stOk,oneC,hvi,nei,hvn,nen]
 subst hQ
 refine Qa1 ?_
 refine xsr fun Q' hQ=>?_
 simp [hts]
 subst hQ
 refine xno (by simp [hts]) ?_
 refine xsr fun Q' hQ=>?_
 simp [hts]
 subst hQ
 refine xno (by simp [hts]) ?_
 refine xseq ?_
 refine xsr fun Q' hQ=>?_
 simp [hts]
 subst hQ
 refine xno (by simp [hts]) ?_
 refine xsr fun Q' hQ=>?_
 simp [hts]
 subst hQ
 refine xno (by simp [hts]) ?_
 refine xsr fun Q' hQ=>?_
 simp [hts]
 subst hQ
 refine xno (by simp [hts]) ?_
 refine Qai fun Q' hQ=>?_
 simp [hts]
 subst hQ
 rw [Qaf]
 refine xno (by simp [hts]) ?_
 refine xsr fun Q' hQ=>?_
 simp [hts]
 subst hQ
 refine xno (by simp [hts]) ?_
 refine xsr fun Q' hQ=>?_
 simp [hts]
 subst hQ
 refine xyes (by simp [hts]) ?_
 refine xsr fun Q' hQ=>?_
 simp [hts,h0,h1,h3,Qag,Qab,spl,stOk,oneC,hvi,nei,hvn,nen]
 subst hQ
 refine Qai fun Q' hQ=>?_
 simp [hts,h0,h1,h3,Qag,Qab,spl,stOk,oneC,hvi,nei,hvn,nen]
 subst hQ
 refine⟨rfl,?_,?_,?_,?_⟩
 ·exact (Old.st (Old.st hO (by omega) _ _) (by omega) _ _)
 ·rw [Qab (by omega),Qab (by omega)];exact h2
 ·simp [h3,Qag,Qab,spl,stOk,oneC,Qa0,Qaa,stp0,i0,n0]
 ·exact⟨x0,.int .i64 n,x2,_,x4,_,Sl.mk rfl (by simp [hts])⟩
theorem rstep_k8 {N0:Nat} {m:Mem} {n:Int} {f:Fs} {a1 a2 a3:Option Addr} (hF:FsV N0 m f (.agg ⟨fsC f a1 a2 a3⟩)) (hS:Qba 8 f):Qar tb 79 [.agg ⟨Qaz 8⟩,.int .i64 n,.agg ⟨fsC f a1 a2 a3⟩] m (retR (Qdl 8 n f a1 a3 m)):=by
 obtain⟨o1,o2,o3⟩:=hF.parts
 obtain⟨ints,nats,way,text⟩:=f
 have hS':=hS.resolve_left (by decide)
 simp only [iN,nN] at hS'
 obtain rfl:=List.length_eq_zero_iff.1 hS'.1
 obtain rfl:=List.length_eq_zero_iff.1 hS'.2.1
 refine Qay Tryz.func79 e79 rfl rfl ?_
 simp only [Klc,Kln,Kca,Kna,Nat.reduceAdd]
 refine Qcq fun l ts m2 x0 x2 x4 hts S hl=>?_
 obtain⟨hO,-,h0,h1,h2,h3⟩:=S
 subst hl
 refine Qbg (fun l ds m'=>ds=[]∧Old m.next m m'∧vw m' (m.next+2)=some ⟨true,36,false,Qaa stp0 (.slice none 0 0) (.slice none 0 0)⟩∧vw m' (m.next+3)=some ⟨true,36,false,Qaa (Qa0 8 n ⟨[],[],way,text⟩) (.slice none 0 0) (.slice none 0 0)⟩∧∃ x0 x1 x2 x3 x4 x5,Sl [x0,x1,x2,x3,x4,x5,.pointer (some ⟨m.next+2,0,none⟩),.pointer (some ⟨m.next+3,0,none⟩)] 157 l) ?_ ?_
 ·rintro l ds m3 ⟨rfl,hO3,hv2,hv3,x0,x1,x2,x3,x4,x5,us,hus,rfl⟩
  exact Qd0 hO3 hv2 hv3 rfl rfl rfl rfl hus
 simp only [Qaz,Qbh,Qap,fsC,Qaa,stp0,Klc,Kln,Nat.zero_add,Nat.reduceAdd] at h0 h1 h3
 obtain⟨r0,hr0⟩:∃ r0,r0=m.next:=⟨_,rfl⟩
 rw [← hr0] at h0 h1 h2 h3 hO ⊢
 refine xsr fun Q' hQ=>?_
 simp [hts,h0,h1,h3,Qag,Qab,spl,stOk,oneC]
 subst hQ
 refine Qa1 ?_
 refine xsr fun Q' hQ=>?_
 simp [hts]
 subst hQ
 refine xno (by simp [hts]) ?_
 refine xsr fun Q' hQ=>?_
 simp [hts]
 subst hQ
 refine xno (by simp [hts]) ?_
 refine xseq ?_
 refine xsr fun Q' hQ=>?_
 simp [hts]
 subst hQ
 refine xno (by simp [hts]) ?_
 refine xsr fun Q' hQ=>?_
 simp [hts]
 subst hQ
 refine xno (by simp [hts]) ?_
 refine xsr fun Q' hQ=>?_
 simp [hts]
 subst hQ
 refine xno (by simp [hts]) ?_
 refine Qai fun Q' hQ=>?_
 simp [hts]
 subst hQ
 rw [Qaf]
 refine xno (by simp [hts]) ?_
 refine xsr fun Q' hQ=>?_
 simp [hts]
 subst hQ
 refine xno (by simp [hts]) ?_
 refine xsr fun Q' hQ=>?_
 simp [hts]
 subst hQ
 refine xno (by simp [hts]) ?_
 refine xseq ?_
 refine xsr fun Q' hQ=>?_
 simp [hts]
 subst hQ
 refine xno (by simp [hts]) ?_
 refine xsr fun Q' hQ=>?_
 simp [hts]
 subst hQ
 refine xno (by simp [hts]) ?_
 refine Qai fun Q' hQ=>?_
 simp [hts]
 subst hQ
 rw [Qaf]
 refine xno (by simp [hts]) ?_
 refine xsr fun Q' hQ=>?_
 simp [hts]
 subst hQ
 refine xno (by simp [hts]) ?_
 refine xsr fun Q' hQ=>?_
 simp [hts]
 subst hQ
 refine xno (by simp [hts]) ?_
 refine xsr fun Q' hQ=>?_
 simp [hts]
 subst hQ
 refine xno (by simp [hts]) ?_
 refine xseq ?_
 refine xsr fun Q' hQ=>?_
 simp [hts]
 subst hQ
 refine xno (by simp [hts]) ?_
 refine xsr fun Q' hQ=>?_
 simp [hts]
 subst hQ
 refine xno (by simp [hts]) ?_
 refine xsr fun Q' hQ=>?_
 simp [hts]
 subst hQ
 refine xno (by simp [hts]) ?_
 refine Qai fun Q' hQ=>?_
 simp [hts]
 subst hQ
 rw [Qaf]
 refine xno (by simp [hts]) ?_
 refine xsr fun Q' hQ=>?_
 simp [hts]
 subst hQ
 refine xno (by simp [hts]) ?_
 refine xsr fun Q' hQ=>?_
 simp [hts]
 subst hQ
 refine xno (by simp [hts]) (Qa2 ?_)
 refine⟨rfl,?_,?_,?_,?_⟩
 ·exact hO
 ·exact h2
 ·simp [h3,Qag,Qab,spl,stOk,oneC,Qa0,Qaa,stp0,i0,n0]
 ·exact⟨x0,.int .i64 n,x2,_,x4,_,Sl.mk rfl (by simp [hts])⟩
theorem rstep_k9 {N0:Nat} {m:Mem} {n:Int} {f:Fs} {a1 a2 a3:Option Addr} (hF:FsV N0 m f (.agg ⟨fsC f a1 a2 a3⟩)) (hS:Qba 9 f):Qar tb 79 [.agg ⟨Qaz 9⟩,.int .i64 n,.agg ⟨fsC f a1 a2 a3⟩] m (retR (Qdl 9 n f a1 a3 m)):=by
 obtain⟨o1,o2,o3⟩:=hF.parts
 obtain⟨ints,nats,way,text⟩:=f
 have hS':=hS.resolve_left (by decide)
 simp only [iN,nN] at hS'
 obtain⟨y0,rfl⟩:=len1 hS'.1
 obtain rfl:=List.length_eq_zero_iff.1 hS'.2.1
 refine Qay Tryz.func79 e79 rfl rfl ?_
 simp only [Klc,Kln,Kca,Kna,Nat.reduceAdd]
 refine Qcq fun l ts m2 x0 x2 x4 hts S hl=>?_
 obtain⟨hO,-,h0,h1,h2,h3⟩:=S
 subst hl
 refine Qbg (fun l ds m'=>ds=[]∧Old m.next m m'∧vw m' (m.next+2)=some ⟨true,36,false,Qaa stp0 (.slice none 0 0) (.slice none 0 0)⟩∧vw m' (m.next+3)=some ⟨true,36,false,Qaa (Qa0 9 n ⟨[y0],[],way,text⟩) (.slice none 0 0) (.slice none 0 0)⟩∧∃ x0 x1 x2 x3 x4 x5,Sl [x0,x1,x2,x3,x4,x5,.pointer (some ⟨m.next+2,0,none⟩),.pointer (some ⟨m.next+3,0,none⟩)] 157 l) ?_ ?_
 ·rintro l ds m3 ⟨rfl,hO3,hv2,hv3,x0,x1,x2,x3,x4,x5,us,hus,rfl⟩
  exact Qd0 hO3 hv2 hv3 rfl rfl rfl rfl hus
 simp only [Qaz,Qbh,Qap,fsC,Qaa,stp0,Klc,Kln,Nat.zero_add,Nat.reduceAdd] at h0 h1 h3
 obtain⟨r0,hr0⟩:∃ r0,r0=m.next:=⟨_,rfl⟩
 rw [← hr0] at h0 h1 h2 h3 hO ⊢
 obtain⟨bi,ei,hbi,hvi⟩:=Qdi o1 (by simp) (hr0▸hO)
 obtain rfl:a1=some ⟨bi,0,none⟩:=by cases ei;rfl
 simp only [i64s,List.map_cons,List.map_nil,Klc,Kln,Nat.zero_add,Nat.reduceAdd] at hvi
 have nei:¬ bi=r0+3:=by omega
 refine xsr fun Q' hQ=>?_
 simp [hts,h0,h1,h3,Qag,Qab,spl,stOk,oneC,hvi,nei]
 subst hQ
 refine Qa1 ?_
 refine xsr fun Q' hQ=>?_
 simp [hts]
 subst hQ
 refine xno (by simp [hts]) ?_
 refine xsr fun Q' hQ=>?_
 simp [hts]
 subst hQ
 refine xno (by simp [hts]) ?_
 refine xseq ?_
 refine xsr fun Q' hQ=>?_
 simp [hts]
 subst hQ
 refine xno (by simp [hts]) ?_
 refine xsr fun Q' hQ=>?_
 simp [hts]
 subst hQ
 refine xno (by simp [hts]) ?_
 refine xsr fun Q' hQ=>?_
 simp [hts]
 subst hQ
 refine xno (by simp [hts]) ?_
 refine Qai fun Q' hQ=>?_
 simp [hts]
 subst hQ
 rw [Qaf]
 refine xno (by simp [hts]) ?_
 refine xsr fun Q' hQ=>?_
 simp [hts]
 subst hQ
 refine xno (by simp [hts]) ?_
 refine xsr fun Q' hQ=>?_
 simp [hts]
 subst hQ
 refine xno (by simp [hts]) ?_
 refine xseq ?_
 refine xsr fun Q' hQ=>?_
 simp [hts]
 subst hQ
 refine xyes (by simp [hts]) (Qa2 ?_)
 rw [Qaf]
 refine xyes (by simp [hts]) ?_
 refine xsr fun Q' hQ=>?_
 simp [hts,h0,h1,h3,Qag,Qab,spl,stOk,oneC,hvi,nei]
 subst hQ
 refine Qai fun Q' hQ=>?_
 simp [hts,h0,h1,h3,Qag,Qab,spl,stOk,oneC,hvi,nei]
 subst hQ
 refine⟨rfl,?_,?_,?_,?_⟩
 ·exact (Old.st (Old.st hO (by omega) _ _) (by omega) _ _)
 ·rw [Qab (by omega),Qab (by omega)];exact h2
 ·simp [h3,Qag,Qab,spl,stOk,oneC,Qa0,Qaa,stp0,i0,n0]
 ·exact⟨x0,.int .i64 n,x2,_,x4,_,Sl.mk rfl (by simp [hts])⟩
theorem Qzp {N0:Nat} {m:Mem} {n:Int} {f:Fs} {a1 a2 a3:Option Addr} (hF:FsV N0 m f (.agg ⟨fsC f a1 a2 a3⟩)) (hS:Qba 10 f):Qar tb 79 [.agg ⟨Qaz 10⟩,.int .i64 n,.agg ⟨fsC f a1 a2 a3⟩] m (retR (Qdl 10 n f a1 a3 m)):=by
 obtain⟨o1,o2,o3⟩:=hF.parts
 obtain⟨ints,nats,way,text⟩:=f
 have hS':=hS.resolve_left (by decide)
 simp only [iN,nN] at hS'
 obtain⟨y0,rfl⟩:=len1 hS'.1
 obtain rfl:=List.length_eq_zero_iff.1 hS'.2.1
 refine Qay Tryz.func79 e79 rfl rfl ?_
 simp only [Klc,Kln,Kca,Kna,Nat.reduceAdd]
 refine Qcq fun l ts m2 x0 x2 x4 hts S hl=>?_
 obtain⟨hO,-,h0,h1,h2,h3⟩:=S
 subst hl
 refine Qbg (fun l ds m'=>ds=[]∧Old m.next m m'∧vw m' (m.next+2)=some ⟨true,36,false,Qaa stp0 (.slice none 0 0) (.slice none 0 0)⟩∧vw m' (m.next+3)=some ⟨true,36,false,Qaa (Qa0 10 n ⟨[y0],[],way,text⟩) (.slice none 0 0) (.slice none 0 0)⟩∧∃ x0 x1 x2 x3 x4 x5,Sl [x0,x1,x2,x3,x4,x5,.pointer (some ⟨m.next+2,0,none⟩),.pointer (some ⟨m.next+3,0,none⟩)] 157 l) ?_ ?_
 ·rintro l ds m3 ⟨rfl,hO3,hv2,hv3,x0,x1,x2,x3,x4,x5,us,hus,rfl⟩
  exact Qd0 hO3 hv2 hv3 rfl rfl rfl rfl hus
 simp only [Qaz,Qbh,Qap,fsC,Qaa,stp0,Klc,Kln,Nat.zero_add,Nat.reduceAdd] at h0 h1 h3
 obtain⟨r0,hr0⟩:∃ r0,r0=m.next:=⟨_,rfl⟩
 rw [← hr0] at h0 h1 h2 h3 hO ⊢
 obtain⟨bi,ei,hbi,hvi⟩:=Qdi o1 (by simp) (hr0▸hO)
 obtain rfl:a1=some ⟨bi,0,none⟩:=by cases ei;rfl
 simp only [i64s,List.map_cons,List.map_nil,Klc,Kln,Nat.zero_add,Nat.reduceAdd] at hvi
 have nei:¬ bi=r0+3:=by omega
 refine xsr fun Q' hQ=>?_
 simp [hts,h0,h1,h3,Qag,Qab,spl,stOk,oneC,hvi,nei]
 subst hQ
 refine Qa1 ?_
 refine xsr fun Q' hQ=>?_
 simp [hts]
 subst hQ
 refine xno (by simp [hts]) ?_
 refine xsr fun Q' hQ=>?_
 simp [hts]
 subst hQ
 refine xno (by simp [hts]) ?_
 refine xseq ?_
 refine xsr fun Q' hQ=>?_
 simp [hts]
 subst hQ
 refine xno (by simp [hts]) ?_
 refine xsr fun Q' hQ=>?_
 simp [hts]
 subst hQ
 refine xno (by simp [hts]) ?_
 refine xsr fun Q' hQ=>?_
 simp [hts]
 subst hQ
 refine xno (by simp [hts]) ?_
 refine Qai fun Q' hQ=>?_
 simp [hts]
 subst hQ
 rw [Qaf]
 refine xno (by simp [hts]) ?_
 refine xsr fun Q' hQ=>?_
 simp [hts]
 subst hQ
 refine xno (by simp [hts]) ?_
 refine xsr fun Q' hQ=>?_
 simp [hts]
 subst hQ
 refine xno (by simp [hts]) ?_
 refine xseq ?_
 refine xsr fun Q' hQ=>?_
 simp [hts]
 subst hQ
 refine xno (by simp [hts]) ?_
 refine xsr fun Q' hQ=>?_
 simp [hts]
 subst hQ
 refine xyes (by simp [hts]) (Qa2 ?_)
 rw [Qaf]
 refine xyes (by simp [hts]) ?_
 refine xsr fun Q' hQ=>?_
 simp [hts,h0,h1,h3,Qag,Qab,spl,stOk,oneC,hvi,nei]
 subst hQ
 refine Qai fun Q' hQ=>?_
 simp [hts,h0,h1,h3,Qag,Qab,spl,stOk,oneC,hvi,nei]
 subst hQ
 refine⟨rfl,?_,?_,?_,?_⟩
 ·exact (Old.st (Old.st hO (by omega) _ _) (by omega) _ _)
 ·rw [Qab (by omega),Qab (by omega)];exact h2
 ·simp [h3,Qag,Qab,spl,stOk,oneC,Qa0,Qaa,stp0,i0,n0]
 ·exact⟨x0,.int .i64 n,x2,_,x4,_,Sl.mk rfl (by simp [hts])⟩
theorem Qzo {N0:Nat} {m:Mem} {n:Int} {f:Fs} {a1 a2 a3:Option Addr} (hF:FsV N0 m f (.agg ⟨fsC f a1 a2 a3⟩)) (hS:Qba 11 f):Qar tb 79 [.agg ⟨Qaz 11⟩,.int .i64 n,.agg ⟨fsC f a1 a2 a3⟩] m (retR (Qdl 11 n f a1 a3 m)):=by
 obtain⟨o1,o2,o3⟩:=hF.parts
 obtain⟨ints,nats,way,text⟩:=f
 have hS':=hS.resolve_left (by decide)
 simp only [iN,nN] at hS'
 obtain⟨y0,rfl⟩:=len1 hS'.1
 obtain rfl:=List.length_eq_zero_iff.1 hS'.2.1
 refine Qay Tryz.func79 e79 rfl rfl ?_
 simp only [Klc,Kln,Kca,Kna,Nat.reduceAdd]
 refine Qcq fun l ts m2 x0 x2 x4 hts S hl=>?_
 obtain⟨hO,-,h0,h1,h2,h3⟩:=S
 subst hl
 refine Qbg (fun l ds m'=>ds=[]∧Old m.next m m'∧vw m' (m.next+2)=some ⟨true,36,false,Qaa stp0 (.slice none 0 0) (.slice none 0 0)⟩∧vw m' (m.next+3)=some ⟨true,36,false,Qaa (Qa0 11 n ⟨[y0],[],way,text⟩) (.slice none 0 0) (.slice none 0 0)⟩∧∃ x0 x1 x2 x3 x4 x5,Sl [x0,x1,x2,x3,x4,x5,.pointer (some ⟨m.next+2,0,none⟩),.pointer (some ⟨m.next+3,0,none⟩)] 157 l) ?_ ?_
 ·rintro l ds m3 ⟨rfl,hO3,hv2,hv3,x0,x1,x2,x3,x4,x5,us,hus,rfl⟩
  exact Qd0 hO3 hv2 hv3 rfl rfl rfl rfl hus
 simp only [Qaz,Qbh,Qap,fsC,Qaa,stp0,Klc,Kln,Nat.zero_add,Nat.reduceAdd] at h0 h1 h3
 obtain⟨r0,hr0⟩:∃ r0,r0=m.next:=⟨_,rfl⟩
 rw [← hr0] at h0 h1 h2 h3 hO ⊢
 obtain⟨bi,ei,hbi,hvi⟩:=Qdi o1 (by simp) (hr0▸hO)
 obtain rfl:a1=some ⟨bi,0,none⟩:=by cases ei;rfl
 simp only [i64s,List.map_cons,List.map_nil,Klc,Kln,Nat.zero_add,Nat.reduceAdd] at hvi
 have nei:¬ bi=r0+3:=by omega
 refine xsr fun Q' hQ=>?_
 simp [hts,h0,h1,h3,Qag,Qab,spl,stOk,oneC,hvi,nei]
 subst hQ
 refine Qa1 ?_
 refine xsr fun Q' hQ=>?_
 simp [hts]
 subst hQ
 refine xno (by simp [hts]) ?_
 refine xsr fun Q' hQ=>?_
 simp [hts]
 subst hQ
 refine xno (by simp [hts]) ?_
 refine xseq ?_
 refine xsr fun Q' hQ=>?_
 simp [hts]
 subst hQ
 refine xno (by simp [hts]) ?_
 refine xsr fun Q' hQ=>?_
 simp [hts]
 subst hQ
 refine xno (by simp [hts]) ?_
 refine xsr fun Q' hQ=>?_
 simp [hts]
 subst hQ
 refine xno (by simp [hts]) ?_
 refine Qai fun Q' hQ=>?_
 simp [hts]
 subst hQ
 rw [Qaf]
 refine xno (by simp [hts]) ?_
 refine xsr fun Q' hQ=>?_
 simp [hts]
 subst hQ
 refine xno (by simp [hts]) ?_
 refine xsr fun Q' hQ=>?_
 simp [hts]
 subst hQ
 refine xno (by simp [hts]) ?_
 refine xseq ?_
 refine xsr fun Q' hQ=>?_
 simp [hts]
 subst hQ
 refine xno (by simp [hts]) ?_
 refine xsr fun Q' hQ=>?_
 simp [hts]
 subst hQ
 refine xno (by simp [hts]) ?_
 refine Qai fun Q' hQ=>?_
 simp [hts]
 subst hQ
 rw [Qaf]
 refine xyes (by simp [hts]) ?_
 refine xsr fun Q' hQ=>?_
 simp [hts,h0,h1,h3,Qag,Qab,spl,stOk,oneC,hvi,nei]
 subst hQ
 refine Qai fun Q' hQ=>?_
 simp [hts,h0,h1,h3,Qag,Qab,spl,stOk,oneC,hvi,nei]
 subst hQ
 refine⟨rfl,?_,?_,?_,?_⟩
 ·exact (Old.st (Old.st hO (by omega) _ _) (by omega) _ _)
 ·rw [Qab (by omega),Qab (by omega)];exact h2
 ·simp [h3,Qag,Qab,spl,stOk,oneC,Qa0,Qaa,stp0,i0,n0]
 ·exact⟨x0,.int .i64 n,x2,_,x4,_,Sl.mk rfl (by simp [hts])⟩
theorem Qzn {N0:Nat} {m:Mem} {n:Int} {f:Fs} {a1 a2 a3:Option Addr} (hF:FsV N0 m f (.agg ⟨fsC f a1 a2 a3⟩)) (hS:Qba 12 f):Qar tb 79 [.agg ⟨Qaz 12⟩,.int .i64 n,.agg ⟨fsC f a1 a2 a3⟩] m (retR (Qdl 12 n f a1 a3 m)):=by
 obtain⟨o1,o2,o3⟩:=hF.parts
 obtain⟨ints,nats,way,text⟩:=f
 have hS':=hS.resolve_left (by decide)
 simp only [iN,nN] at hS'
 obtain⟨y0,y1,rfl⟩:=len2 hS'.1
 obtain⟨z0,rfl⟩:=len1 hS'.2.1
 have hmk:=hS'.2.2 trivial
 have hwm:IntKind.wrap .u32 z0=z0:=wru32 _ hmk.1 (by have:=hmk.2;simp only [n0,List.getD_cons_zero] at this;omega)
 refine Qay Tryz.func79 e79 rfl rfl ?_
 simp only [Klc,Kln,Kca,Kna,Nat.reduceAdd]
 refine Qcq fun l ts m2 x0 x2 x4 hts S hl=>?_
 obtain⟨hO,-,h0,h1,h2,h3⟩:=S
 subst hl
 refine Qbg (fun l ds m'=>ds=[]∧Old m.next m m'∧vw m' (m.next+2)=some ⟨true,36,false,Qaa stp0 (.slice none 0 0) (.slice none 0 0)⟩∧vw m' (m.next+3)=some ⟨true,36,false,Qaa (Qa0 12 n ⟨[y0,y1],[z0],way,text⟩) (.slice none 0 0) (.slice none 0 0)⟩∧∃ x0 x1 x2 x3 x4 x5,Sl [x0,x1,x2,x3,x4,x5,.pointer (some ⟨m.next+2,0,none⟩),.pointer (some ⟨m.next+3,0,none⟩)] 157 l) ?_ ?_
 ·rintro l ds m3 ⟨rfl,hO3,hv2,hv3,x0,x1,x2,x3,x4,x5,us,hus,rfl⟩
  exact Qd0 hO3 hv2 hv3 rfl rfl rfl rfl hus
 simp only [Qaz,Qbh,Qap,fsC,Qaa,stp0,Klc,Kln,Nat.zero_add,Nat.reduceAdd] at h0 h1 h3
 obtain⟨r0,hr0⟩:∃ r0,r0=m.next:=⟨_,rfl⟩
 rw [← hr0] at h0 h1 h2 h3 hO ⊢
 obtain⟨bi,ei,hbi,hvi⟩:=Qdi o1 (by simp) (hr0▸hO)
 obtain rfl:a1=some ⟨bi,0,none⟩:=by cases ei;rfl
 simp only [i64s,List.map_cons,List.map_nil,Klc,Kln,Nat.zero_add,Nat.reduceAdd] at hvi
 have nei:¬ bi=r0+3:=by omega
 obtain⟨bn,en,hbn,hvn⟩:=Qdi o2 (by simp) (hr0▸hO)
 obtain rfl:a2=some ⟨bn,0,none⟩:=by cases en;rfl
 simp only [u64s,List.map_cons,List.map_nil,Klc,Kln,Nat.zero_add,Nat.reduceAdd] at hvn
 have nen:¬ bn=r0+3:=by omega
 refine xsr fun Q' hQ=>?_
 simp [hts,h0,h1,h3,Qag,Qab,spl,stOk,oneC,hvi,nei,hvn,nen,hwm]
 subst hQ
 refine Qa1 ?_
 refine xsr fun Q' hQ=>?_
 simp [hts]
 subst hQ
 refine xno (by simp [hts]) ?_
 refine xsr fun Q' hQ=>?_
 simp [hts]
 subst hQ
 refine xno (by simp [hts]) ?_
 refine xseq ?_
 refine xsr fun Q' hQ=>?_
 simp [hts]
 subst hQ
 refine xno (by simp [hts]) ?_
 refine xsr fun Q' hQ=>?_
 simp [hts]
 subst hQ
 refine xno (by simp [hts]) ?_
 refine xsr fun Q' hQ=>?_
 simp [hts]
 subst hQ
 refine xno (by simp [hts]) ?_
 refine Qai fun Q' hQ=>?_
 simp [hts]
 subst hQ
 rw [Qaf]
 refine xno (by simp [hts]) ?_
 refine xsr fun Q' hQ=>?_
 simp [hts]
 subst hQ
 refine xno (by simp [hts]) ?_
 refine xsr fun Q' hQ=>?_
 simp [hts]
 subst hQ
 refine xno (by simp [hts]) ?_
 refine xseq ?_
 refine xsr fun Q' hQ=>?_
 simp [hts]
 subst hQ
 refine xno (by simp [hts]) ?_
 refine xsr fun Q' hQ=>?_
 simp [hts]
 subst hQ
 refine xno (by simp [hts]) ?_
 refine Qai fun Q' hQ=>?_
 simp [hts]
 subst hQ
 rw [Qaf]
 refine xno (by simp [hts]) ?_
 refine xsr fun Q' hQ=>?_
 simp [hts]
 subst hQ
 refine xyes (by simp [hts]) ?_
 refine xsr fun Q' hQ=>?_
 simp [hts,h0,h1,h3,Qag,Qab,spl,stOk,oneC,hvi,nei,hvn,nen,hwm]
 subst hQ
 refine xsr fun Q' hQ=>?_
 simp [hts,h0,h1,h3,Qag,Qab,spl,stOk,oneC,hvi,nei,hvn,nen,hwm]
 subst hQ
 refine xsr fun Q' hQ=>?_
 simp [hts,h0,h1,h3,Qag,Qab,spl,stOk,oneC,hvi,nei,hvn,nen,hwm]
 subst hQ
 refine Qai fun Q' hQ=>?_
 simp [hts,h0,h1,h3,Qag,Qab,spl,stOk,oneC,hvi,nei,hvn,nen,hwm]
 subst hQ
 refine⟨rfl,?_,?_,?_,?_⟩
 ·exact (Old.st (Old.st (Old.st (Old.st hO (by omega) _ _) (by omega) _ _) (by omega) _ _) (by omega) _ _)
 ·rw [Qab (by omega),Qab (by omega),Qab (by omega),Qab (by omega)];exact h2
 ·simp [h3,Qag,Qab,spl,stOk,oneC,Qa0,Qaa,stp0,i0,n0,hwm]
 ·exact⟨x0,.int .i64 n,x2,_,x4,_,Sl.mk rfl (by simp [hts])⟩
theorem Qzm {N0:Nat} {m:Mem} {n:Int} {f:Fs} {a1 a2 a3:Option Addr} (hF:FsV N0 m f (.agg ⟨fsC f a1 a2 a3⟩)) (hS:Qba 13 f):Qar tb 79 [.agg ⟨Qaz 13⟩,.int .i64 n,.agg ⟨fsC f a1 a2 a3⟩] m (retR (Qdl 13 n f a1 a3 m)):=by
 obtain⟨o1,o2,o3⟩:=hF.parts
 obtain⟨ints,nats,way,text⟩:=f
 have hS':=hS.resolve_left (by decide)
 simp only [iN,nN] at hS'
 obtain⟨y0,rfl⟩:=len1 hS'.1
 obtain rfl:=List.length_eq_zero_iff.1 hS'.2.1
 refine Qay Tryz.func79 e79 rfl rfl ?_
 simp only [Klc,Kln,Kca,Kna,Nat.reduceAdd]
 refine Qcq fun l ts m2 x0 x2 x4 hts S hl=>?_
 obtain⟨hO,-,h0,h1,h2,h3⟩:=S
 subst hl
 refine Qbg (fun l ds m'=>ds=[]∧Old m.next m m'∧vw m' (m.next+2)=some ⟨true,36,false,Qaa stp0 (.slice none 0 0) (.slice none 0 0)⟩∧vw m' (m.next+3)=some ⟨true,36,false,Qaa (Qa0 13 n ⟨[y0],[],way,text⟩) (.slice none 0 0) (.slice none 0 0)⟩∧∃ x0 x1 x2 x3 x4 x5,Sl [x0,x1,x2,x3,x4,x5,.pointer (some ⟨m.next+2,0,none⟩),.pointer (some ⟨m.next+3,0,none⟩)] 157 l) ?_ ?_
 ·rintro l ds m3 ⟨rfl,hO3,hv2,hv3,x0,x1,x2,x3,x4,x5,us,hus,rfl⟩
  exact Qd0 hO3 hv2 hv3 rfl rfl rfl rfl hus
 simp only [Qaz,Qbh,Qap,fsC,Qaa,stp0,Klc,Kln,Nat.zero_add,Nat.reduceAdd] at h0 h1 h3
 obtain⟨r0,hr0⟩:∃ r0,r0=m.next:=⟨_,rfl⟩
 rw [← hr0] at h0 h1 h2 h3 hO ⊢
 obtain⟨bi,ei,hbi,hvi⟩:=Qdi o1 (by simp) (hr0▸hO)
 obtain rfl:a1=some ⟨bi,0,none⟩:=by cases ei;rfl
 simp only [i64s,List.map_cons,List.map_nil,Klc,Kln,Nat.zero_add,Nat.reduceAdd] at hvi
 have nei:¬ bi=r0+3:=by omega
 refine xsr fun Q' hQ=>?_
 simp [hts,h0,h1,h3,Qag,Qab,spl,stOk,oneC,hvi,nei]
 subst hQ
 refine Qa1 ?_
 refine xsr fun Q' hQ=>?_
 simp [hts]
 subst hQ
 refine xno (by simp [hts]) ?_
 refine xsr fun Q' hQ=>?_
 simp [hts]
 subst hQ
 refine xno (by simp [hts]) ?_
 refine xseq ?_
 refine xsr fun Q' hQ=>?_
 simp [hts]
 subst hQ
 refine xno (by simp [hts]) ?_
 refine xsr fun Q' hQ=>?_
 simp [hts]
 subst hQ
 refine xno (by simp [hts]) ?_
 refine xsr fun Q' hQ=>?_
 simp [hts]
 subst hQ
 refine xno (by simp [hts]) ?_
 refine Qai fun Q' hQ=>?_
 simp [hts]
 subst hQ
 rw [Qaf]
 refine xno (by simp [hts]) ?_
 refine xsr fun Q' hQ=>?_
 simp [hts]
 subst hQ
 refine xno (by simp [hts]) ?_
 refine xsr fun Q' hQ=>?_
 simp [hts]
 subst hQ
 refine xno (by simp [hts]) ?_
 refine xseq ?_
 refine xsr fun Q' hQ=>?_
 simp [hts]
 subst hQ
 refine xno (by simp [hts]) ?_
 refine xsr fun Q' hQ=>?_
 simp [hts]
 subst hQ
 refine xno (by simp [hts]) ?_
 refine Qai fun Q' hQ=>?_
 simp [hts]
 subst hQ
 rw [Qaf]
 refine xno (by simp [hts]) ?_
 refine xsr fun Q' hQ=>?_
 simp [hts]
 subst hQ
 refine xno (by simp [hts]) ?_
 refine xsr fun Q' hQ=>?_
 simp [hts]
 subst hQ
 refine xyes (by simp [hts]) ?_
 refine Qai fun Q' hQ=>?_
 simp [hts,h0,h1,h3,Qag,Qab,spl,stOk,oneC,hvi,nei]
 subst hQ
 refine⟨rfl,?_,?_,?_,?_⟩
 ·exact (Old.st hO (by omega) _ _)
 ·rw [Qab (by omega)];exact h2
 ·simp [h3,Qag,Qab,spl,stOk,oneC,Qa0,Qaa,stp0,i0,n0]
 ·exact⟨x0,.int .i64 n,x2,_,x4,_,Sl.mk rfl (by simp [hts])⟩
theorem Qzl {N0:Nat} {m:Mem} {n:Int} {f:Fs} {a1 a2 a3:Option Addr} (hF:FsV N0 m f (.agg ⟨fsC f a1 a2 a3⟩)) (hS:Qba 14 f):Qar tb 79 [.agg ⟨Qaz 14⟩,.int .i64 n,.agg ⟨fsC f a1 a2 a3⟩] m (retR (Qdl 14 n f a1 a3 m)):=by
 obtain⟨o1,o2,o3⟩:=hF.parts
 obtain⟨ints,nats,way,text⟩:=f
 refine Qay Tryz.func79 e79 rfl rfl ?_
 simp only [Klc,Kln,Kca,Kna,Nat.reduceAdd]
 refine Qcq fun l ts m2 x0 x2 x4 hts S hl=>?_
 obtain⟨hO,-,h0,h1,h2,h3⟩:=S
 subst hl
 refine Qbg (fun l ds m'=>ds=[]∧Old m.next m m'∧vw m' (m.next+2)=some ⟨true,36,false,Qaa stp0 (.slice none 0 0) (.slice none 0 0)⟩∧vw m' (m.next+3)=some ⟨true,36,false,Qaa (Qa0 14 n ⟨ints,nats,way,text⟩) (.slice none 0 0) (.slice a1 ints.length ints.length)⟩∧∃ x0 x1 x2 x3 x4 x5,Sl [x0,x1,x2,x3,x4,x5,.pointer (some ⟨m.next+2,0,none⟩),.pointer (some ⟨m.next+3,0,none⟩)] 157 l) ?_ ?_
 ·rintro l ds m3 ⟨rfl,hO3,hv2,hv3,x0,x1,x2,x3,x4,x5,us,hus,rfl⟩
  exact Qd0 hO3 hv2 hv3 rfl rfl rfl rfl hus
 simp only [Qaz,Qbh,Qap,fsC,Qaa,stp0,Klc,Kln,Nat.zero_add,Nat.reduceAdd] at h0 h1 h3
 obtain⟨r0,hr0⟩:∃ r0,r0=m.next:=⟨_,rfl⟩
 rw [← hr0] at h0 h1 h2 h3 hO ⊢
 refine xsr fun Q' hQ=>?_
 simp [hts,h0,h1,h3,Qag,Qab,spl,stOk,oneC]
 subst hQ
 refine Qa1 ?_
 refine xsr fun Q' hQ=>?_
 simp [hts]
 subst hQ
 refine xno (by simp [hts]) ?_
 refine xsr fun Q' hQ=>?_
 simp [hts]
 subst hQ
 refine xno (by simp [hts]) ?_
 refine xseq ?_
 refine xsr fun Q' hQ=>?_
 simp [hts]
 subst hQ
 refine xno (by simp [hts]) ?_
 refine xsr fun Q' hQ=>?_
 simp [hts]
 subst hQ
 refine xno (by simp [hts]) ?_
 refine xsr fun Q' hQ=>?_
 simp [hts]
 subst hQ
 refine xno (by simp [hts]) ?_
 refine Qai fun Q' hQ=>?_
 simp [hts]
 subst hQ
 rw [Qaf]
 refine xno (by simp [hts]) ?_
 refine xsr fun Q' hQ=>?_
 simp [hts]
 subst hQ
 refine xno (by simp [hts]) ?_
 refine xsr fun Q' hQ=>?_
 simp [hts]
 subst hQ
 refine xno (by simp [hts]) ?_
 refine xseq ?_
 refine xsr fun Q' hQ=>?_
 simp [hts]
 subst hQ
 refine xno (by simp [hts]) ?_
 refine xsr fun Q' hQ=>?_
 simp [hts]
 subst hQ
 refine xno (by simp [hts]) ?_
 refine Qai fun Q' hQ=>?_
 simp [hts]
 subst hQ
 rw [Qaf]
 refine xno (by simp [hts]) ?_
 refine xsr fun Q' hQ=>?_
 simp [hts]
 subst hQ
 refine xno (by simp [hts]) ?_
 refine xsr fun Q' hQ=>?_
 simp [hts]
 subst hQ
 refine xno (by simp [hts]) ?_
 refine xsr fun Q' hQ=>?_
 simp [hts]
 subst hQ
 refine xyes (by simp [hts]) ?_
 refine Qai fun Q' hQ=>?_
 simp [hts,h0,h1,h3,Qag,Qab,spl,stOk,oneC]
 subst hQ
 refine⟨rfl,?_,?_,?_,?_⟩
 ·exact (Old.st hO (by omega) _ _)
 ·rw [Qab (by omega)];exact h2
 ·simp [h3,Qag,Qab,spl,stOk,oneC,Qa0,Qaa,stp0,i0,n0]
 ·exact⟨x0,.int .i64 n,x2,_,x4,_,Sl.mk rfl (by simp [hts])⟩
theorem Qzk {N0:Nat} {m:Mem} {n:Int} {f:Fs} {a1 a2 a3:Option Addr} (hF:FsV N0 m f (.agg ⟨fsC f a1 a2 a3⟩)) (hS:Qba 15 f):Qar tb 79 [.agg ⟨Qaz 15⟩,.int .i64 n,.agg ⟨fsC f a1 a2 a3⟩] m (retR (Qdl 15 n f a1 a3 m)):=by
 obtain⟨o1,o2,o3⟩:=hF.parts
 obtain⟨ints,nats,way,text⟩:=f
 have hS':=hS.resolve_left (by decide)
 simp only [iN,nN] at hS'
 obtain rfl:=List.length_eq_zero_iff.1 hS'.1
 obtain rfl:=List.length_eq_zero_iff.1 hS'.2.1
 refine Qay Tryz.func79 e79 rfl rfl ?_
 simp only [Klc,Kln,Kca,Kna,Nat.reduceAdd]
 refine Qcq fun l ts m2 x0 x2 x4 hts S hl=>?_
 obtain⟨hO,-,h0,h1,h2,h3⟩:=S
 subst hl
 refine Qbg (fun l ds m'=>ds=[]∧Old m.next m m'∧vw m' (m.next+2)=some ⟨true,36,false,Qaa stp0 (.slice none 0 0) (.slice none 0 0)⟩∧vw m' (m.next+3)=some ⟨true,36,false,Qaa (Qa0 15 n ⟨[],[],way,text⟩) (.slice none 0 0) (.slice none 0 0)⟩∧∃ x0 x1 x2 x3 x4 x5,Sl [x0,x1,x2,x3,x4,x5,.pointer (some ⟨m.next+2,0,none⟩),.pointer (some ⟨m.next+3,0,none⟩)] 157 l) ?_ ?_
 ·rintro l ds m3 ⟨rfl,hO3,hv2,hv3,x0,x1,x2,x3,x4,x5,us,hus,rfl⟩
  exact Qd0 hO3 hv2 hv3 rfl rfl rfl rfl hus
 simp only [Qaz,Qbh,Qap,fsC,Qaa,stp0,Klc,Kln,Nat.zero_add,Nat.reduceAdd] at h0 h1 h3
 obtain⟨r0,hr0⟩:∃ r0,r0=m.next:=⟨_,rfl⟩
 rw [← hr0] at h0 h1 h2 h3 hO ⊢
 refine xsr fun Q' hQ=>?_
 simp [hts,h0,h1,h3,Qag,Qab,spl,stOk,oneC]
 subst hQ
 refine Qa1 ?_
 refine xsr fun Q' hQ=>?_
 simp [hts]
 subst hQ
 refine xno (by simp [hts]) ?_
 refine xsr fun Q' hQ=>?_
 simp [hts]
 subst hQ
 refine xno (by simp [hts]) ?_
 refine xseq ?_
 refine xsr fun Q' hQ=>?_
 simp [hts]
 subst hQ
 refine xno (by simp [hts]) ?_
 refine xsr fun Q' hQ=>?_
 simp [hts]
 subst hQ
 refine xno (by simp [hts]) ?_
 refine xsr fun Q' hQ=>?_
 simp [hts]
 subst hQ
 refine xno (by simp [hts]) ?_
 refine Qai fun Q' hQ=>?_
 simp [hts]
 subst hQ
 rw [Qaf]
 refine xno (by simp [hts]) ?_
 refine xsr fun Q' hQ=>?_
 simp [hts]
 subst hQ
 refine xno (by simp [hts]) ?_
 refine xsr fun Q' hQ=>?_
 simp [hts]
 subst hQ
 refine xno (by simp [hts]) ?_
 refine xseq ?_
 refine xsr fun Q' hQ=>?_
 simp [hts]
 subst hQ
 refine xno (by simp [hts]) ?_
 refine xsr fun Q' hQ=>?_
 simp [hts]
 subst hQ
 refine xno (by simp [hts]) ?_
 refine Qai fun Q' hQ=>?_
 simp [hts]
 subst hQ
 rw [Qaf]
 refine xno (by simp [hts]) ?_
 refine xsr fun Q' hQ=>?_
 simp [hts]
 subst hQ
 refine xno (by simp [hts]) ?_
 refine xsr fun Q' hQ=>?_
 simp [hts]
 subst hQ
 refine xno (by simp [hts]) ?_
 refine xsr fun Q' hQ=>?_
 simp [hts]
 subst hQ
 refine xno (by simp [hts]) ?_
 refine xseq ?_
 refine xsr fun Q' hQ=>?_
 simp [hts]
 subst hQ
 refine xno (by simp [hts]) ?_
 refine xsr fun Q' hQ=>?_
 simp [hts]
 subst hQ
 refine xno (by simp [hts]) ?_
 refine xsr fun Q' hQ=>?_
 simp [hts]
 subst hQ
 refine xno (by simp [hts]) ?_
 refine Qai fun Q' hQ=>?_
 simp [hts]
 subst hQ
 rw [Qaf]
 refine xno (by simp [hts]) ?_
 refine xsr fun Q' hQ=>?_
 simp [hts]
 subst hQ
 refine xno (by simp [hts]) ?_
 refine xsr fun Q' hQ=>?_
 simp [hts]
 subst hQ
 refine xno (by simp [hts]) (Qa2 ?_)
 refine⟨rfl,?_,?_,?_,?_⟩
 ·exact hO
 ·exact h2
 ·simp [h3,Qag,Qab,spl,stOk,oneC,Qa0,Qaa,stp0,i0,n0]
 ·exact⟨x0,.int .i64 n,x2,_,x4,_,Sl.mk rfl (by simp [hts])⟩
theorem Qzj {N0:Nat} {m:Mem} {n:Int} {f:Fs} {a1 a2 a3:Option Addr} (hF:FsV N0 m f (.agg ⟨fsC f a1 a2 a3⟩)) (hS:Qba 16 f):Qar tb 79 [.agg ⟨Qaz 16⟩,.int .i64 n,.agg ⟨fsC f a1 a2 a3⟩] m (retR (Qdl 16 n f a1 a3 m)):=by
 obtain⟨o1,o2,o3⟩:=hF.parts
 obtain⟨ints,nats,way,text⟩:=f
 have hS':=hS.resolve_left (by decide)
 simp only [iN,nN] at hS'
 obtain⟨y0,rfl⟩:=len1 hS'.1
 obtain rfl:=List.length_eq_zero_iff.1 hS'.2.1
 refine Qay Tryz.func79 e79 rfl rfl ?_
 simp only [Klc,Kln,Kca,Kna,Nat.reduceAdd]
 refine Qcq fun l ts m2 x0 x2 x4 hts S hl=>?_
 obtain⟨hO,-,h0,h1,h2,h3⟩:=S
 subst hl
 refine Qbg (fun l ds m'=>ds=[]∧Old m.next m m'∧vw m' (m.next+2)=some ⟨true,36,false,Qaa stp0 (.slice none 0 0) (.slice none 0 0)⟩∧vw m' (m.next+3)=some ⟨true,36,false,Qaa (Qa0 16 n ⟨[y0],[],way,text⟩) (.slice none 0 0) (.slice none 0 0)⟩∧∃ x0 x1 x2 x3 x4 x5,Sl [x0,x1,x2,x3,x4,x5,.pointer (some ⟨m.next+2,0,none⟩),.pointer (some ⟨m.next+3,0,none⟩)] 157 l) ?_ ?_
 ·rintro l ds m3 ⟨rfl,hO3,hv2,hv3,x0,x1,x2,x3,x4,x5,us,hus,rfl⟩
  exact Qd0 hO3 hv2 hv3 rfl rfl rfl rfl hus
 simp only [Qaz,Qbh,Qap,fsC,Qaa,stp0,Klc,Kln,Nat.zero_add,Nat.reduceAdd] at h0 h1 h3
 obtain⟨r0,hr0⟩:∃ r0,r0=m.next:=⟨_,rfl⟩
 rw [← hr0] at h0 h1 h2 h3 hO ⊢
 obtain⟨bi,ei,hbi,hvi⟩:=Qdi o1 (by simp) (hr0▸hO)
 obtain rfl:a1=some ⟨bi,0,none⟩:=by cases ei;rfl
 simp only [i64s,List.map_cons,List.map_nil,Klc,Kln,Nat.zero_add,Nat.reduceAdd] at hvi
 have nei:¬ bi=r0+3:=by omega
 refine xsr fun Q' hQ=>?_
 simp [hts,h0,h1,h3,Qag,Qab,spl,stOk,oneC,hvi,nei]
 subst hQ
 refine Qa1 ?_
 refine xsr fun Q' hQ=>?_
 simp [hts]
 subst hQ
 refine xno (by simp [hts]) ?_
 refine xsr fun Q' hQ=>?_
 simp [hts]
 subst hQ
 refine xno (by simp [hts]) ?_
 refine xseq ?_
 refine xsr fun Q' hQ=>?_
 simp [hts]
 subst hQ
 refine xno (by simp [hts]) ?_
 refine xsr fun Q' hQ=>?_
 simp [hts]
 subst hQ
 refine xno (by simp [hts]) ?_
 refine xsr fun Q' hQ=>?_
 simp [hts]
 subst hQ
 refine xno (by simp [hts]) ?_
 refine Qai fun Q' hQ=>?_
 simp [hts]
 subst hQ
 rw [Qaf]
 refine xyes (by simp [hts]) ?_
 refine Qai fun Q' hQ=>?_
 simp [hts,h0,h1,h3,Qag,Qab,spl,stOk,oneC,hvi,nei]
 subst hQ
 refine⟨rfl,?_,?_,?_,?_⟩
 ·exact (Old.st hO (by omega) _ _)
 ·rw [Qab (by omega)];exact h2
 ·simp [h3,Qag,Qab,spl,stOk,oneC,Qa0,Qaa,stp0,i0,n0]
 ·exact⟨x0,.int .i64 n,x2,_,x4,_,Sl.mk rfl (by simp [hts])⟩
theorem Qzi {N0:Nat} {m:Mem} {n:Int} {f:Fs} {a1 a2 a3:Option Addr} (hF:FsV N0 m f (.agg ⟨fsC f a1 a2 a3⟩)) (hS:Qba 17 f):Qar tb 79 [.agg ⟨Qaz 17⟩,.int .i64 n,.agg ⟨fsC f a1 a2 a3⟩] m (retR (Qdl 17 n f a1 a3 m)):=by
 obtain⟨o1,o2,o3⟩:=hF.parts
 obtain⟨ints,nats,way,text⟩:=f
 have hS':=hS.resolve_left (by decide)
 simp only [iN,nN] at hS'
 obtain⟨y0,rfl⟩:=len1 hS'.1
 obtain rfl:=List.length_eq_zero_iff.1 hS'.2.1
 refine Qay Tryz.func79 e79 rfl rfl ?_
 simp only [Klc,Kln,Kca,Kna,Nat.reduceAdd]
 refine Qcq fun l ts m2 x0 x2 x4 hts S hl=>?_
 obtain⟨hO,-,h0,h1,h2,h3⟩:=S
 subst hl
 refine Qbg (fun l ds m'=>ds=[]∧Old m.next m m'∧vw m' (m.next+2)=some ⟨true,36,false,Qaa stp0 (.slice none 0 0) (.slice none 0 0)⟩∧vw m' (m.next+3)=some ⟨true,36,false,Qaa (Qa0 17 n ⟨[y0],[],way,text⟩) (.slice none 0 0) (.slice none 0 0)⟩∧∃ x0 x1 x2 x3 x4 x5,Sl [x0,x1,x2,x3,x4,x5,.pointer (some ⟨m.next+2,0,none⟩),.pointer (some ⟨m.next+3,0,none⟩)] 157 l) ?_ ?_
 ·rintro l ds m3 ⟨rfl,hO3,hv2,hv3,x0,x1,x2,x3,x4,x5,us,hus,rfl⟩
  exact Qd0 hO3 hv2 hv3 rfl rfl rfl rfl hus
 simp only [Qaz,Qbh,Qap,fsC,Qaa,stp0,Klc,Kln,Nat.zero_add,Nat.reduceAdd] at h0 h1 h3
 obtain⟨r0,hr0⟩:∃ r0,r0=m.next:=⟨_,rfl⟩
 rw [← hr0] at h0 h1 h2 h3 hO ⊢
 obtain⟨bi,ei,hbi,hvi⟩:=Qdi o1 (by simp) (hr0▸hO)
 obtain rfl:a1=some ⟨bi,0,none⟩:=by cases ei;rfl
 simp only [i64s,List.map_cons,List.map_nil,Klc,Kln,Nat.zero_add,Nat.reduceAdd] at hvi
 have nei:¬ bi=r0+3:=by omega
 refine xsr fun Q' hQ=>?_
 simp [hts,h0,h1,h3,Qag,Qab,spl,stOk,oneC,hvi,nei]
 subst hQ
 refine Qa1 ?_
 refine xsr fun Q' hQ=>?_
 simp [hts]
 subst hQ
 refine xno (by simp [hts]) ?_
 refine xsr fun Q' hQ=>?_
 simp [hts]
 subst hQ
 refine xno (by simp [hts]) ?_
 refine xseq ?_
 refine xsr fun Q' hQ=>?_
 simp [hts]
 subst hQ
 refine xno (by simp [hts]) ?_
 refine xsr fun Q' hQ=>?_
 simp [hts]
 subst hQ
 refine xno (by simp [hts]) ?_
 refine xsr fun Q' hQ=>?_
 simp [hts]
 subst hQ
 refine xno (by simp [hts]) ?_
 refine Qai fun Q' hQ=>?_
 simp [hts]
 subst hQ
 rw [Qaf]
 refine xno (by simp [hts]) ?_
 refine xsr fun Q' hQ=>?_
 simp [hts]
 subst hQ
 refine xno (by simp [hts]) ?_
 refine xsr fun Q' hQ=>?_
 simp [hts]
 subst hQ
 refine xno (by simp [hts]) ?_
 refine xseq ?_
 refine xsr fun Q' hQ=>?_
 simp [hts]
 subst hQ
 refine xno (by simp [hts]) ?_
 refine xsr fun Q' hQ=>?_
 simp [hts]
 subst hQ
 refine xno (by simp [hts]) ?_
 refine Qai fun Q' hQ=>?_
 simp [hts]
 subst hQ
 rw [Qaf]
 refine xno (by simp [hts]) ?_
 refine xsr fun Q' hQ=>?_
 simp [hts]
 subst hQ
 refine xno (by simp [hts]) ?_
 refine xsr fun Q' hQ=>?_
 simp [hts]
 subst hQ
 refine xno (by simp [hts]) ?_
 refine xsr fun Q' hQ=>?_
 simp [hts]
 subst hQ
 refine xno (by simp [hts]) ?_
 refine xseq ?_
 refine xsr fun Q' hQ=>?_
 simp [hts]
 subst hQ
 refine xyes (by simp [hts]) (Qa2 ?_)
 rw [Qaf]
 refine xyes (by simp [hts]) ?_
 refine Qai fun Q' hQ=>?_
 simp [hts,h0,h1,h3,Qag,Qab,spl,stOk,oneC,hvi,nei]
 subst hQ
 refine⟨rfl,?_,?_,?_,?_⟩
 ·exact (Old.st hO (by omega) _ _)
 ·rw [Qab (by omega)];exact h2
 ·simp [h3,Qag,Qab,spl,stOk,oneC,Qa0,Qaa,stp0,i0,n0]
 ·exact⟨x0,.int .i64 n,x2,_,x4,_,Sl.mk rfl (by simp [hts])⟩
theorem Qzh {N0:Nat} {m:Mem} {n:Int} {f:Fs} {a1 a2 a3:Option Addr} (hF:FsV N0 m f (.agg ⟨fsC f a1 a2 a3⟩)) (hS:Qba 18 f):Qar tb 79 [.agg ⟨Qaz 18⟩,.int .i64 n,.agg ⟨fsC f a1 a2 a3⟩] m (retR (Qdl 18 n f a1 a3 m)):=by
 obtain⟨o1,o2,o3⟩:=hF.parts
 obtain⟨ints,nats,way,text⟩:=f
 have hS':=hS.resolve_left (by decide)
 simp only [iN,nN] at hS'
 obtain⟨y0,rfl⟩:=len1 hS'.1
 obtain⟨z0,rfl⟩:=len1 hS'.2.1
 refine Qay Tryz.func79 e79 rfl rfl ?_
 simp only [Klc,Kln,Kca,Kna,Nat.reduceAdd]
 refine Qcq fun l ts m2 x0 x2 x4 hts S hl=>?_
 obtain⟨hO,-,h0,h1,h2,h3⟩:=S
 subst hl
 refine Qbg (fun l ds m'=>ds=[]∧Old m.next m m'∧vw m' (m.next+2)=some ⟨true,36,false,Qaa stp0 (.slice none 0 0) (.slice none 0 0)⟩∧vw m' (m.next+3)=some ⟨true,36,false,Qaa (Qa0 18 n ⟨[y0],[z0],way,text⟩) (.slice none 0 0) (.slice none 0 0)⟩∧∃ x0 x1 x2 x3 x4 x5,Sl [x0,x1,x2,x3,x4,x5,.pointer (some ⟨m.next+2,0,none⟩),.pointer (some ⟨m.next+3,0,none⟩)] 157 l) ?_ ?_
 ·rintro l ds m3 ⟨rfl,hO3,hv2,hv3,x0,x1,x2,x3,x4,x5,us,hus,rfl⟩
  exact Qd0 hO3 hv2 hv3 rfl rfl rfl rfl hus
 simp only [Qaz,Qbh,Qap,fsC,Qaa,stp0,Klc,Kln,Nat.zero_add,Nat.reduceAdd] at h0 h1 h3
 obtain⟨r0,hr0⟩:∃ r0,r0=m.next:=⟨_,rfl⟩
 rw [← hr0] at h0 h1 h2 h3 hO ⊢
 obtain⟨bi,ei,hbi,hvi⟩:=Qdi o1 (by simp) (hr0▸hO)
 obtain rfl:a1=some ⟨bi,0,none⟩:=by cases ei;rfl
 simp only [i64s,List.map_cons,List.map_nil,Klc,Kln,Nat.zero_add,Nat.reduceAdd] at hvi
 have nei:¬ bi=r0+3:=by omega
 obtain⟨bn,en,hbn,hvn⟩:=Qdi o2 (by simp) (hr0▸hO)
 obtain rfl:a2=some ⟨bn,0,none⟩:=by cases en;rfl
 simp only [u64s,List.map_cons,List.map_nil,Klc,Kln,Nat.zero_add,Nat.reduceAdd] at hvn
 have nen:¬ bn=r0+3:=by omega
 refine xsr fun Q' hQ=>?_
 simp [hts,h0,h1,h3,Qag,Qab,spl,stOk,oneC,hvi,nei,hvn,nen]
 subst hQ
 refine Qa1 ?_
 refine xsr fun Q' hQ=>?_
 simp [hts]
 subst hQ
 refine xno (by simp [hts]) ?_
 refine xsr fun Q' hQ=>?_
 simp [hts]
 subst hQ
 refine xno (by simp [hts]) ?_
 refine xseq ?_
 refine xsr fun Q' hQ=>?_
 simp [hts]
 subst hQ
 refine xno (by simp [hts]) ?_
 refine xsr fun Q' hQ=>?_
 simp [hts]
 subst hQ
 refine xno (by simp [hts]) ?_
 refine xsr fun Q' hQ=>?_
 simp [hts]
 subst hQ
 refine xno (by simp [hts]) ?_
 refine Qai fun Q' hQ=>?_
 simp [hts]
 subst hQ
 rw [Qaf]
 refine xno (by simp [hts]) ?_
 refine xsr fun Q' hQ=>?_
 simp [hts]
 subst hQ
 refine xno (by simp [hts]) ?_
 refine xsr fun Q' hQ=>?_
 simp [hts]
 subst hQ
 refine xno (by simp [hts]) ?_
 refine xseq ?_
 refine xsr fun Q' hQ=>?_
 simp [hts]
 subst hQ
 refine xno (by simp [hts]) ?_
 refine xsr fun Q' hQ=>?_
 simp [hts]
 subst hQ
 refine xno (by simp [hts]) ?_
 refine Qai fun Q' hQ=>?_
 simp [hts]
 subst hQ
 rw [Qaf]
 refine xno (by simp [hts]) ?_
 refine xsr fun Q' hQ=>?_
 simp [hts]
 subst hQ
 refine xno (by simp [hts]) ?_
 refine xsr fun Q' hQ=>?_
 simp [hts]
 subst hQ
 refine xno (by simp [hts]) ?_
 refine xsr fun Q' hQ=>?_
 simp [hts]
 subst hQ
 refine xno (by simp [hts]) ?_
 refine xseq ?_
 refine xsr fun Q' hQ=>?_
 simp [hts]
 subst hQ
 refine xno (by simp [hts]) ?_
 refine xsr fun Q' hQ=>?_
 simp [hts]
 subst hQ
 refine xno (by simp [hts]) ?_
 refine xsr fun Q' hQ=>?_
 simp [hts]
 subst hQ
 refine xno (by simp [hts]) ?_
 refine Qai fun Q' hQ=>?_
 simp [hts]
 subst hQ
 rw [Qaf]
 refine xno (by simp [hts]) ?_
 refine xsr fun Q' hQ=>?_
 simp [hts]
 subst hQ
 refine xyes (by simp [hts]) ?_
 refine xsr fun Q' hQ=>?_
 simp [hts,h0,h1,h3,Qag,Qab,spl,stOk,oneC,hvi,nei,hvn,nen]
 subst hQ
 refine Qai fun Q' hQ=>?_
 simp [hts,h0,h1,h3,Qag,Qab,spl,stOk,oneC,hvi,nei,hvn,nen]
 subst hQ
 refine⟨rfl,?_,?_,?_,?_⟩
 ·exact (Old.st (Old.st hO (by omega) _ _) (by omega) _ _)
 ·rw [Qab (by omega),Qab (by omega)];exact h2
 ·simp [h3,Qag,Qab,spl,stOk,oneC,Qa0,Qaa,stp0,i0,n0]
 ·exact⟨x0,.int .i64 n,x2,_,x4,_,Sl.mk rfl (by simp [hts])⟩
theorem Qzg {N0:Nat} {m:Mem} {n:Int} {f:Fs} {a1 a2 a3:Option Addr} (hF:FsV N0 m f (.agg ⟨fsC f a1 a2 a3⟩)) (hS:Qba 19 f):Qar tb 79 [.agg ⟨Qaz 19⟩,.int .i64 n,.agg ⟨fsC f a1 a2 a3⟩] m (retR (Qdl 19 n f a1 a3 m)):=by
 obtain⟨o1,o2,o3⟩:=hF.parts
 obtain⟨ints,nats,way,text⟩:=f
 have hS':=hS.resolve_left (by decide)
 simp only [iN,nN] at hS'
 obtain⟨y0,rfl⟩:=len1 hS'.1
 obtain rfl:=List.length_eq_zero_iff.1 hS'.2.1
 refine Qay Tryz.func79 e79 rfl rfl ?_
 simp only [Klc,Kln,Kca,Kna,Nat.reduceAdd]
 refine Qcq fun l ts m2 x0 x2 x4 hts S hl=>?_
 obtain⟨hO,-,h0,h1,h2,h3⟩:=S
 subst hl
 refine Qbg (fun l ds m'=>ds=[]∧Old m.next m m'∧vw m' (m.next+2)=some ⟨true,36,false,Qaa stp0 (.slice none 0 0) (.slice none 0 0)⟩∧vw m' (m.next+3)=some ⟨true,36,false,Qaa (Qa0 19 n ⟨[y0],[],way,text⟩) (.slice none 0 0) (.slice none 0 0)⟩∧∃ x0 x1 x2 x3 x4 x5,Sl [x0,x1,x2,x3,x4,x5,.pointer (some ⟨m.next+2,0,none⟩),.pointer (some ⟨m.next+3,0,none⟩)] 157 l) ?_ ?_
 ·rintro l ds m3 ⟨rfl,hO3,hv2,hv3,x0,x1,x2,x3,x4,x5,us,hus,rfl⟩
  exact Qd0 hO3 hv2 hv3 rfl rfl rfl rfl hus
 simp only [Qaz,Qbh,Qap,fsC,Qaa,stp0,Klc,Kln,Nat.zero_add,Nat.reduceAdd] at h0 h1 h3
 obtain⟨r0,hr0⟩:∃ r0,r0=m.next:=⟨_,rfl⟩
 rw [← hr0] at h0 h1 h2 h3 hO ⊢
 obtain⟨bi,ei,hbi,hvi⟩:=Qdi o1 (by simp) (hr0▸hO)
 obtain rfl:a1=some ⟨bi,0,none⟩:=by cases ei;rfl
 simp only [i64s,List.map_cons,List.map_nil,Klc,Kln,Nat.zero_add,Nat.reduceAdd] at hvi
 have nei:¬ bi=r0+3:=by omega
 refine xsr fun Q' hQ=>?_
 simp [hts,h0,h1,h3,Qag,Qab,spl,stOk,oneC,hvi,nei]
 subst hQ
 refine Qa1 ?_
 refine xsr fun Q' hQ=>?_
 simp [hts]
 subst hQ
 refine xno (by simp [hts]) ?_
 refine xsr fun Q' hQ=>?_
 simp [hts]
 subst hQ
 refine xno (by simp [hts]) ?_
 refine xseq ?_
 refine xsr fun Q' hQ=>?_
 simp [hts]
 subst hQ
 refine xno (by simp [hts]) ?_
 refine xsr fun Q' hQ=>?_
 simp [hts]
 subst hQ
 refine xno (by simp [hts]) ?_
 refine xsr fun Q' hQ=>?_
 simp [hts]
 subst hQ
 refine xno (by simp [hts]) ?_
 refine Qai fun Q' hQ=>?_
 simp [hts]
 subst hQ
 rw [Qaf]
 refine xno (by simp [hts]) ?_
 refine xsr fun Q' hQ=>?_
 simp [hts]
 subst hQ
 refine xno (by simp [hts]) ?_
 refine xsr fun Q' hQ=>?_
 simp [hts]
 subst hQ
 refine xno (by simp [hts]) ?_
 refine xseq ?_
 refine xsr fun Q' hQ=>?_
 simp [hts]
 subst hQ
 refine xno (by simp [hts]) ?_
 refine xsr fun Q' hQ=>?_
 simp [hts]
 subst hQ
 refine xno (by simp [hts]) ?_
 refine Qai fun Q' hQ=>?_
 simp [hts]
 subst hQ
 rw [Qaf]
 refine xno (by simp [hts]) ?_
 refine xsr fun Q' hQ=>?_
 simp [hts]
 subst hQ
 refine xno (by simp [hts]) ?_
 refine xsr fun Q' hQ=>?_
 simp [hts]
 subst hQ
 refine xno (by simp [hts]) ?_
 refine xsr fun Q' hQ=>?_
 simp [hts]
 subst hQ
 refine xno (by simp [hts]) ?_
 refine xseq ?_
 refine xsr fun Q' hQ=>?_
 simp [hts]
 subst hQ
 refine xno (by simp [hts]) ?_
 refine xsr fun Q' hQ=>?_
 simp [hts]
 subst hQ
 refine xyes (by simp [hts]) (Qa2 ?_)
 rw [Qaf]
 refine xyes (by simp [hts]) ?_
 refine Qai fun Q' hQ=>?_
 simp [hts,h0,h1,h3,Qag,Qab,spl,stOk,oneC,hvi,nei]
 subst hQ
 refine⟨rfl,?_,?_,?_,?_⟩
 ·exact (Old.st hO (by omega) _ _)
 ·rw [Qab (by omega)];exact h2
 ·simp [h3,Qag,Qab,spl,stOk,oneC,Qa0,Qaa,stp0,i0,n0]
 ·exact⟨x0,.int .i64 n,x2,_,x4,_,Sl.mk rfl (by simp [hts])⟩
theorem Qzf {N0:Nat} {m:Mem} {n:Int} {f:Fs} {a1 a2 a3:Option Addr} (hF:FsV N0 m f (.agg ⟨fsC f a1 a2 a3⟩)) (hS:Qba 20 f):Qar tb 79 [.agg ⟨Qaz 20⟩,.int .i64 n,.agg ⟨fsC f a1 a2 a3⟩] m (retR (Qdl 20 n f a1 a3 m)):=by
 obtain⟨o1,o2,o3⟩:=hF.parts
 obtain⟨ints,nats,way,text⟩:=f
 have hS':=hS.resolve_left (by decide)
 simp only [iN,nN] at hS'
 obtain⟨y0,rfl⟩:=len1 hS'.1
 obtain rfl:=List.length_eq_zero_iff.1 hS'.2.1
 refine Qay Tryz.func79 e79 rfl rfl ?_
 simp only [Klc,Kln,Kca,Kna,Nat.reduceAdd]
 refine Qcq fun l ts m2 x0 x2 x4 hts S hl=>?_
 obtain⟨hO,-,h0,h1,h2,h3⟩:=S
 subst hl
 refine Qbg (fun l ds m'=>ds=[]∧Old m.next m m'∧vw m' (m.next+2)=some ⟨true,36,false,Qaa stp0 (.slice none 0 0) (.slice none 0 0)⟩∧vw m' (m.next+3)=some ⟨true,36,false,Qaa (Qa0 20 n ⟨[y0],[],way,text⟩) (.slice none 0 0) (.slice none 0 0)⟩∧∃ x0 x1 x2 x3 x4 x5,Sl [x0,x1,x2,x3,x4,x5,.pointer (some ⟨m.next+2,0,none⟩),.pointer (some ⟨m.next+3,0,none⟩)] 157 l) ?_ ?_
 ·rintro l ds m3 ⟨rfl,hO3,hv2,hv3,x0,x1,x2,x3,x4,x5,us,hus,rfl⟩
  exact Qd0 hO3 hv2 hv3 rfl rfl rfl rfl hus
 simp only [Qaz,Qbh,Qap,fsC,Qaa,stp0,Klc,Kln,Nat.zero_add,Nat.reduceAdd] at h0 h1 h3
 obtain⟨r0,hr0⟩:∃ r0,r0=m.next:=⟨_,rfl⟩
 rw [← hr0] at h0 h1 h2 h3 hO ⊢
 obtain⟨bi,ei,hbi,hvi⟩:=Qdi o1 (by simp) (hr0▸hO)
 obtain rfl:a1=some ⟨bi,0,none⟩:=by cases ei;rfl
 simp only [i64s,List.map_cons,List.map_nil,Klc,Kln,Nat.zero_add,Nat.reduceAdd] at hvi
 have nei:¬ bi=r0+3:=by omega
 refine xsr fun Q' hQ=>?_
 simp [hts,h0,h1,h3,Qag,Qab,spl,stOk,oneC,hvi,nei]
 subst hQ
 refine Qa1 ?_
 refine xsr fun Q' hQ=>?_
 simp [hts]
 subst hQ
 refine xno (by simp [hts]) ?_
 refine xsr fun Q' hQ=>?_
 simp [hts]
 subst hQ
 refine xno (by simp [hts]) ?_
 refine xseq ?_
 refine xsr fun Q' hQ=>?_
 simp [hts]
 subst hQ
 refine xno (by simp [hts]) ?_
 refine xsr fun Q' hQ=>?_
 simp [hts]
 subst hQ
 refine xno (by simp [hts]) ?_
 refine xsr fun Q' hQ=>?_
 simp [hts]
 subst hQ
 refine xno (by simp [hts]) ?_
 refine Qai fun Q' hQ=>?_
 simp [hts]
 subst hQ
 rw [Qaf]
 refine xno (by simp [hts]) ?_
 refine xsr fun Q' hQ=>?_
 simp [hts]
 subst hQ
 refine xno (by simp [hts]) ?_
 refine xsr fun Q' hQ=>?_
 simp [hts]
 subst hQ
 refine xno (by simp [hts]) ?_
 refine xseq ?_
 refine xsr fun Q' hQ=>?_
 simp [hts]
 subst hQ
 refine xno (by simp [hts]) ?_
 refine xsr fun Q' hQ=>?_
 simp [hts]
 subst hQ
 refine xno (by simp [hts]) ?_
 refine Qai fun Q' hQ=>?_
 simp [hts]
 subst hQ
 rw [Qaf]
 refine xno (by simp [hts]) ?_
 refine xsr fun Q' hQ=>?_
 simp [hts]
 subst hQ
 refine xno (by simp [hts]) ?_
 refine xsr fun Q' hQ=>?_
 simp [hts]
 subst hQ
 refine xno (by simp [hts]) ?_
 refine xsr fun Q' hQ=>?_
 simp [hts]
 subst hQ
 refine xno (by simp [hts]) ?_
 refine xseq ?_
 refine xsr fun Q' hQ=>?_
 simp [hts]
 subst hQ
 refine xno (by simp [hts]) ?_
 refine xsr fun Q' hQ=>?_
 simp [hts]
 subst hQ
 refine xno (by simp [hts]) ?_
 refine xsr fun Q' hQ=>?_
 simp [hts]
 subst hQ
 refine xyes (by simp [hts]) (Qa2 ?_)
 rw [Qaf]
 refine xyes (by simp [hts]) ?_
 refine Qai fun Q' hQ=>?_
 simp [hts,h0,h1,h3,Qag,Qab,spl,stOk,oneC,hvi,nei]
 subst hQ
 refine⟨rfl,?_,?_,?_,?_⟩
 ·exact (Old.st hO (by omega) _ _)
 ·rw [Qab (by omega)];exact h2
 ·simp [h3,Qag,Qab,spl,stOk,oneC,Qa0,Qaa,stp0,i0,n0]
 ·exact⟨x0,.int .i64 n,x2,_,x4,_,Sl.mk rfl (by simp [hts])⟩
theorem Qze {N0:Nat} {m:Mem} {n:Int} {f:Fs} {a1 a2 a3:Option Addr} (hF:FsV N0 m f (.agg ⟨fsC f a1 a2 a3⟩)) (hS:Qba 21 f):Qar tb 79 [.agg ⟨Qaz 21⟩,.int .i64 n,.agg ⟨fsC f a1 a2 a3⟩] m (retR (Qdl 21 n f a1 a3 m)):=by
 obtain⟨o1,o2,o3⟩:=hF.parts
 obtain⟨ints,nats,way,text⟩:=f
 have hS':=hS.resolve_left (by decide)
 simp only [iN,nN] at hS'
 obtain⟨y0,rfl⟩:=len1 hS'.1
 obtain rfl:=List.length_eq_zero_iff.1 hS'.2.1
 refine Qay Tryz.func79 e79 rfl rfl ?_
 simp only [Klc,Kln,Kca,Kna,Nat.reduceAdd]
 refine Qcq fun l ts m2 x0 x2 x4 hts S hl=>?_
 obtain⟨hO,-,h0,h1,h2,h3⟩:=S
 subst hl
 refine Qbg (fun l ds m'=>ds=[]∧Old m.next m m'∧vw m' (m.next+2)=some ⟨true,36,false,Qaa stp0 (.slice none 0 0) (.slice none 0 0)⟩∧vw m' (m.next+3)=some ⟨true,36,false,Qaa (Qa0 21 n ⟨[y0],[],way,text⟩) (.slice none 0 0) (.slice none 0 0)⟩∧∃ x0 x1 x2 x3 x4 x5,Sl [x0,x1,x2,x3,x4,x5,.pointer (some ⟨m.next+2,0,none⟩),.pointer (some ⟨m.next+3,0,none⟩)] 157 l) ?_ ?_
 ·rintro l ds m3 ⟨rfl,hO3,hv2,hv3,x0,x1,x2,x3,x4,x5,us,hus,rfl⟩
  exact Qd0 hO3 hv2 hv3 rfl rfl rfl rfl hus
 simp only [Qaz,Qbh,Qap,fsC,Qaa,stp0,Klc,Kln,Nat.zero_add,Nat.reduceAdd] at h0 h1 h3
 obtain⟨r0,hr0⟩:∃ r0,r0=m.next:=⟨_,rfl⟩
 rw [← hr0] at h0 h1 h2 h3 hO ⊢
 obtain⟨bi,ei,hbi,hvi⟩:=Qdi o1 (by simp) (hr0▸hO)
 obtain rfl:a1=some ⟨bi,0,none⟩:=by cases ei;rfl
 simp only [i64s,List.map_cons,List.map_nil,Klc,Kln,Nat.zero_add,Nat.reduceAdd] at hvi
 have nei:¬ bi=r0+3:=by omega
 refine xsr fun Q' hQ=>?_
 simp [hts,h0,h1,h3,Qag,Qab,spl,stOk,oneC,hvi,nei]
 subst hQ
 refine Qa1 ?_
 refine xsr fun Q' hQ=>?_
 simp [hts]
 subst hQ
 refine xno (by simp [hts]) ?_
 refine xsr fun Q' hQ=>?_
 simp [hts]
 subst hQ
 refine xno (by simp [hts]) ?_
 refine xseq ?_
 refine xsr fun Q' hQ=>?_
 simp [hts]
 subst hQ
 refine xno (by simp [hts]) ?_
 refine xsr fun Q' hQ=>?_
 simp [hts]
 subst hQ
 refine xno (by simp [hts]) ?_
 refine xsr fun Q' hQ=>?_
 simp [hts]
 subst hQ
 refine xno (by simp [hts]) ?_
 refine Qai fun Q' hQ=>?_
 simp [hts]
 subst hQ
 rw [Qaf]
 refine xno (by simp [hts]) ?_
 refine xsr fun Q' hQ=>?_
 simp [hts]
 subst hQ
 refine xno (by simp [hts]) ?_
 refine xsr fun Q' hQ=>?_
 simp [hts]
 subst hQ
 refine xno (by simp [hts]) ?_
 refine xseq ?_
 refine xsr fun Q' hQ=>?_
 simp [hts]
 subst hQ
 refine xno (by simp [hts]) ?_
 refine xsr fun Q' hQ=>?_
 simp [hts]
 subst hQ
 refine xno (by simp [hts]) ?_
 refine Qai fun Q' hQ=>?_
 simp [hts]
 subst hQ
 rw [Qaf]
 refine xno (by simp [hts]) ?_
 refine xsr fun Q' hQ=>?_
 simp [hts]
 subst hQ
 refine xno (by simp [hts]) ?_
 refine xsr fun Q' hQ=>?_
 simp [hts]
 subst hQ
 refine xno (by simp [hts]) ?_
 refine xsr fun Q' hQ=>?_
 simp [hts]
 subst hQ
 refine xno (by simp [hts]) ?_
 refine xseq ?_
 refine xsr fun Q' hQ=>?_
 simp [hts]
 subst hQ
 refine xno (by simp [hts]) ?_
 refine xsr fun Q' hQ=>?_
 simp [hts]
 subst hQ
 refine xno (by simp [hts]) ?_
 refine xsr fun Q' hQ=>?_
 simp [hts]
 subst hQ
 refine xno (by simp [hts]) ?_
 refine Qai fun Q' hQ=>?_
 simp [hts]
 subst hQ
 rw [Qaf]
 refine xyes (by simp [hts]) ?_
 refine Qai fun Q' hQ=>?_
 simp [hts,h0,h1,h3,Qag,Qab,spl,stOk,oneC,hvi,nei]
 subst hQ
 refine⟨rfl,?_,?_,?_,?_⟩
 ·exact (Old.st hO (by omega) _ _)
 ·rw [Qab (by omega)];exact h2
 ·simp [h3,Qag,Qab,spl,stOk,oneC,Qa0,Qaa,stp0,i0,n0]
 ·exact⟨x0,.int .i64 n,x2,_,x4,_,Sl.mk rfl (by simp [hts])⟩
theorem Qzd {N0:Nat} {m:Mem} {n:Int} {f:Fs} {a1 a2 a3:Option Addr} (hF:FsV N0 m f (.agg ⟨fsC f a1 a2 a3⟩)) (hS:Qba 22 f):Qar tb 79 [.agg ⟨Qaz 22⟩,.int .i64 n,.agg ⟨fsC f a1 a2 a3⟩] m (retR (Qdl 22 n f a1 a3 m)):=by
 obtain⟨o1,o2,o3⟩:=hF.parts
 obtain⟨ints,nats,way,text⟩:=f
 have hS':=hS.resolve_left (by decide)
 simp only [iN,nN] at hS'
 obtain⟨y0,rfl⟩:=len1 hS'.1
 obtain⟨z0,z1,rfl⟩:=len2 hS'.2.1
 refine Qay Tryz.func79 e79 rfl rfl ?_
 simp only [Klc,Kln,Kca,Kna,Nat.reduceAdd]
 refine Qcq fun l ts m2 x0 x2 x4 hts S hl=>?_
 obtain⟨hO,-,h0,h1,h2,h3⟩:=S
 subst hl
 refine Qbg (fun l ds m'=>ds=[]∧Old m.next m m'∧vw m' (m.next+2)=some ⟨true,36,false,Qaa stp0 (.slice none 0 0) (.slice none 0 0)⟩∧vw m' (m.next+3)=some ⟨true,36,false,Qaa (Qa0 22 n ⟨[y0],[z0,z1],way,text⟩) (.slice none 0 0) (.slice none 0 0)⟩∧∃ x0 x1 x2 x3 x4 x5,Sl [x0,x1,x2,x3,x4,x5,.pointer (some ⟨m.next+2,0,none⟩),.pointer (some ⟨m.next+3,0,none⟩)] 157 l) ?_ ?_
 ·rintro l ds m3 ⟨rfl,hO3,hv2,hv3,x0,x1,x2,x3,x4,x5,us,hus,rfl⟩
  exact Qd0 hO3 hv2 hv3 rfl rfl rfl rfl hus
 simp only [Qaz,Qbh,Qap,fsC,Qaa,stp0,Klc,Kln,Nat.zero_add,Nat.reduceAdd] at h0 h1 h3
 obtain⟨r0,hr0⟩:∃ r0,r0=m.next:=⟨_,rfl⟩
 rw [← hr0] at h0 h1 h2 h3 hO ⊢
 obtain⟨bi,ei,hbi,hvi⟩:=Qdi o1 (by simp) (hr0▸hO)
 obtain rfl:a1=some ⟨bi,0,none⟩:=by cases ei;rfl
 simp only [i64s,List.map_cons,List.map_nil,Klc,Kln,Nat.zero_add,Nat.reduceAdd] at hvi
 have nei:¬ bi=r0+3:=by omega
 obtain⟨bn,en,hbn,hvn⟩:=Qdi o2 (by simp) (hr0▸hO)
 obtain rfl:a2=some ⟨bn,0,none⟩:=by cases en;rfl
 simp only [u64s,List.map_cons,List.map_nil,Klc,Kln,Nat.zero_add,Nat.reduceAdd] at hvn
 have nen:¬ bn=r0+3:=by omega
 refine xsr fun Q' hQ=>?_
 simp [hts,h0,h1,h3,Qag,Qab,spl,stOk,oneC,hvi,nei,hvn,nen]
 subst hQ
 refine Qa1 ?_
 refine xsr fun Q' hQ=>?_
 simp [hts]
 subst hQ
 refine xno (by simp [hts]) ?_
 refine xsr fun Q' hQ=>?_
 simp [hts]
 subst hQ
 refine xno (by simp [hts]) ?_
 refine xseq ?_
 refine xsr fun Q' hQ=>?_
 simp [hts]
 subst hQ
 refine xno (by simp [hts]) ?_
 refine xsr fun Q' hQ=>?_
 simp [hts]
 subst hQ
 refine xno (by simp [hts]) ?_
 refine xsr fun Q' hQ=>?_
 simp [hts]
 subst hQ
 refine xno (by simp [hts]) ?_
 refine Qai fun Q' hQ=>?_
 simp [hts]
 subst hQ
 rw [Qaf]
 refine xno (by simp [hts]) ?_
 refine xsr fun Q' hQ=>?_
 simp [hts]
 subst hQ
 refine xno (by simp [hts]) ?_
 refine xsr fun Q' hQ=>?_
 simp [hts]
 subst hQ
 refine xno (by simp [hts]) ?_
 refine xseq ?_
 refine xsr fun Q' hQ=>?_
 simp [hts]
 subst hQ
 refine xno (by simp [hts]) ?_
 refine xsr fun Q' hQ=>?_
 simp [hts]
 subst hQ
 refine xno (by simp [hts]) ?_
 refine Qai fun Q' hQ=>?_
 simp [hts]
 subst hQ
 rw [Qaf]
 refine xno (by simp [hts]) ?_
 refine xsr fun Q' hQ=>?_
 simp [hts]
 subst hQ
 refine xno (by simp [hts]) ?_
 refine xsr fun Q' hQ=>?_
 simp [hts]
 subst hQ
 refine xno (by simp [hts]) ?_
 refine xsr fun Q' hQ=>?_
 simp [hts]
 subst hQ
 refine xno (by simp [hts]) ?_
 refine xseq ?_
 refine xsr fun Q' hQ=>?_
 simp [hts]
 subst hQ
 refine xno (by simp [hts]) ?_
 refine xsr fun Q' hQ=>?_
 simp [hts]
 subst hQ
 refine xno (by simp [hts]) ?_
 refine xsr fun Q' hQ=>?_
 simp [hts]
 subst hQ
 refine xno (by simp [hts]) ?_
 refine Qai fun Q' hQ=>?_
 simp [hts]
 subst hQ
 rw [Qaf]
 refine xno (by simp [hts]) ?_
 refine xsr fun Q' hQ=>?_
 simp [hts]
 subst hQ
 refine xno (by simp [hts]) ?_
 refine xsr fun Q' hQ=>?_
 simp [hts]
 subst hQ
 refine xyes (by simp [hts]) ?_
 refine xsr fun Q' hQ=>?_
 simp [hts,h0,h1,h3,Qag,Qab,spl,stOk,oneC,hvi,nei,hvn,nen]
 subst hQ
 refine xsr fun Q' hQ=>?_
 simp [hts,h0,h1,h3,Qag,Qab,spl,stOk,oneC,hvi,nei,hvn,nen]
 subst hQ
 refine Qai fun Q' hQ=>?_
 simp [hts,h0,h1,h3,Qag,Qab,spl,stOk,oneC,hvi,nei,hvn,nen]
 subst hQ
 refine⟨rfl,?_,?_,?_,?_⟩
 ·exact (Old.st (Old.st (Old.st hO (by omega) _ _) (by omega) _ _) (by omega) _ _)
 ·rw [Qab (by omega),Qab (by omega),Qab (by omega)];exact h2
 ·simp [h3,Qag,Qab,spl,stOk,oneC,Qa0,Qaa,stp0,i0,n0]
 ·exact⟨x0,.int .i64 n,x2,_,x4,_,Sl.mk rfl (by simp [hts])⟩
theorem rstep_ok {N0:Nat} {m:Mem} {n:Int} {f:Fs} {a1 a2 a3:Option Addr}:∀ (k:Nat),1≤k→k≤22→FsV N0 m f (.agg ⟨fsC f a1 a2 a3⟩)→Qba k f→Qar tb 79 [.agg ⟨Qaz k⟩,.int .i64 n,.agg ⟨fsC f a1 a2 a3⟩] m (retR (Qdl k n f a1 a3 m))
 |1,_,_,hF,hS=>rstep_k1 hF hS
 |2,_,_,hF,hS=>rstep_k2 hF hS
 |3,_,_,hF,hS=>rstep_k3 hF hS
 |4,_,_,hF,hS=>rstep_k4 hF hS
 |5,_,_,hF,hS=>rstep_k5 hF hS
 |6,_,_,hF,hS=>rstep_k6 hF hS
 |7,_,_,hF,hS=>rstep_k7 hF hS
 |8,_,_,hF,hS=>rstep_k8 hF hS
 |9,_,_,hF,hS=>rstep_k9 hF hS
 |10,_,_,hF,hS=>Qzp hF hS
 |11,_,_,hF,hS=>Qzo hF hS
 |12,_,_,hF,hS=>Qzn hF hS
 |13,_,_,hF,hS=>Qzm hF hS
 |14,_,_,hF,hS=>Qzl hF hS
 |15,_,_,hF,hS=>Qzk hF hS
 |16,_,_,hF,hS=>Qzj hF hS
 |17,_,_,hF,hS=>Qzi hF hS
 |18,_,_,hF,hS=>Qzh hF hS
 |19,_,_,hF,hS=>Qzg hF hS
 |20,_,_,hF,hS=>Qzf hF hS
 |21,_,_,hF,hS=>Qze hF hS
 |22,_,_,hF,hS=>Qzd hF hS
 |0,h,_,_,_=>absurd h (by omega)
 |k+23,_,h,_,_=>absurd h (by omega)
end Go.Proofs.YtgmkbdmgifdfeaaGreatDoor

