/- A part of a proof: ScriptOwn. -/
import Derived.Test.YtgmkbdmgifdfeaaGreatDoorF21
set_option linter.unusedVariables false
set_option linter.unusedSimpArgs false
set_option maxRecDepth 8000
namespace Go.Proofs.YtgmkbdmgifdfeaaGreatDoor
open Go Go.Ev
theorem rstep_k1 {N0:Nat} {m:Mem} {n:Int} {f:Fs} {a1 a2 a3:Option Addr} (hF:FsV N0 m f (.agg ⟨fsC f a1 a2 a3⟩)) (hS:Shape 1 f):CallsA tb 79 [.agg ⟨rowCells 1⟩,.int .i64 n,.agg ⟨fsC f a1 a2 a3⟩] m (retR (StepFR 1 n f a1 a3 m)):=by
 obtain⟨o1,o2,o3⟩:=hF.parts
 obtain⟨ints,nats,way,text⟩:=f
 have hS':=hS.resolve_left (by decide)
 simp only [iN,nN] at hS'
 obtain rfl:=List.length_eq_zero_iff.1 hS'.1
 obtain⟨z0,rfl⟩:=len1 hS'.2.1
 refine callsS Tryz.func79 e79 rfl rfl ?_
 simp only [List.length_cons,List.length_nil,List.cons_append,List.nil_append,Nat.reduceAdd]
 refine front79 fun l ts m2 x0 x2 x4 hts S hl=>?_
 obtain⟨hO,-,h0,h1,h2,h3⟩:=S
 subst hl
 refine xseqN (fun l ds m'=>ds=[]∧Old m.next m m'∧vw m' (m.next+2)=some ⟨true,36,false,stpCells stp0 (.slice none 0 0) (.slice none 0 0)⟩∧vw m' (m.next+3)=some ⟨true,36,false,stpCells (stepF 1 n ⟨[],[z0],way,text⟩) (.slice none 0 0) (.slice none 0 0)⟩∧∃ x0 x1 x2 x3 x4 x5,Sl [x0,x1,x2,x3,x4,x5,.pointer (some ⟨m.next+2,0,none⟩),.pointer (some ⟨m.next+3,0,none⟩)] 157 l) ?_ ?_
 ·rintro l ds m3 ⟨rfl,hO3,hv2,hv3,x0,x1,x2,x3,x4,x5,us,hus,rfl⟩
  exact tail79 hO3 hv2 hv3 rfl rfl rfl rfl hus
 simp only [rowCells,wordOf,formOf,fsC,stpCells,stp0,List.length_cons,List.length_nil,Nat.zero_add,Nat.reduceAdd] at h0 h1 h3
 obtain⟨r0,hr0⟩:∃ r0,r0=m.next:=⟨_,rfl⟩
 rw [← hr0] at h0 h1 h2 h3 hO ⊢
 obtain⟨bn,en,hbn,hvn⟩:=own_at o2 (by simp) (hr0▸hO)
 obtain rfl:a2=some ⟨bn,0,none⟩:=by cases en;rfl
 simp only [u64s,List.map_cons,List.map_nil,List.length_cons,List.length_nil,Nat.zero_add,Nat.reduceAdd] at hvn
 have nen:¬ bn=r0+3:=by omega
 refine xsr fun Q' hQ=>?_
 simp [hts,h0,h1,h3,vw_stM_same,vw_stM_ne,spl,stOk,oneC,hvn,nen]
 subst hQ
 refine xblock ?_
 refine xsr fun Q' hQ=>?_
 simp [hts]
 subst hQ
 refine xyes (by simp [hts]) ?_
 refine xregQ fun Q' hQ=>?_
 simp [hts,h0,h1,h3,vw_stM_same,vw_stM_ne,spl,stOk,oneC,hvn,nen]
 subst hQ
 refine⟨rfl,?_,?_,?_,?_⟩
 ·exact (Old.st hO (by omega) _ _)
 ·rw [vw_stM_ne (by omega)];exact h2
 ·simp [h3,vw_stM_same,vw_stM_ne,spl,stOk,oneC,stepF,stpCells,stp0,i0,n0]
 ·exact⟨x0,.int .i64 n,x2,_,x4,_,Sl.mk rfl (by simp [hts])⟩
theorem rstep_k2 {N0:Nat} {m:Mem} {n:Int} {f:Fs} {a1 a2 a3:Option Addr} (hF:FsV N0 m f (.agg ⟨fsC f a1 a2 a3⟩)) (hS:Shape 2 f):CallsA tb 79 [.agg ⟨rowCells 2⟩,.int .i64 n,.agg ⟨fsC f a1 a2 a3⟩] m (retR (StepFR 2 n f a1 a3 m)):=by
 obtain⟨o1,o2,o3⟩:=hF.parts
 obtain⟨ints,nats,way,text⟩:=f
 have hS':=hS.resolve_left (by decide)
 simp only [iN,nN] at hS'
 obtain⟨y0,y1,y2,rfl⟩:=len3 hS'.1
 obtain rfl:=List.length_eq_zero_iff.1 hS'.2.1
 refine callsS Tryz.func79 e79 rfl rfl ?_
 simp only [List.length_cons,List.length_nil,List.cons_append,List.nil_append,Nat.reduceAdd]
 refine front79 fun l ts m2 x0 x2 x4 hts S hl=>?_
 obtain⟨hO,-,h0,h1,h2,h3⟩:=S
 subst hl
 refine xseqN (fun l ds m'=>ds=[]∧Old m.next m m'∧vw m' (m.next+2)=some ⟨true,36,false,stpCells stp0 (.slice none 0 0) (.slice none 0 0)⟩∧vw m' (m.next+3)=some ⟨true,36,false,stpCells (stepF 2 n ⟨[y0,y1,y2],[],way,text⟩) (.slice none 0 0) (.slice none 0 0)⟩∧∃ x0 x1 x2 x3 x4 x5,Sl [x0,x1,x2,x3,x4,x5,.pointer (some ⟨m.next+2,0,none⟩),.pointer (some ⟨m.next+3,0,none⟩)] 157 l) ?_ ?_
 ·rintro l ds m3 ⟨rfl,hO3,hv2,hv3,x0,x1,x2,x3,x4,x5,us,hus,rfl⟩
  exact tail79 hO3 hv2 hv3 rfl rfl rfl rfl hus
 simp only [rowCells,wordOf,formOf,fsC,stpCells,stp0,List.length_cons,List.length_nil,Nat.zero_add,Nat.reduceAdd] at h0 h1 h3
 obtain⟨r0,hr0⟩:∃ r0,r0=m.next:=⟨_,rfl⟩
 rw [← hr0] at h0 h1 h2 h3 hO ⊢
 obtain⟨bi,ei,hbi,hvi⟩:=own_at o1 (by simp) (hr0▸hO)
 obtain rfl:a1=some ⟨bi,0,none⟩:=by cases ei;rfl
 simp only [i64s,List.map_cons,List.map_nil,List.length_cons,List.length_nil,Nat.zero_add,Nat.reduceAdd] at hvi
 have nei:¬ bi=r0+3:=by omega
 refine xsr fun Q' hQ=>?_
 simp [hts,h0,h1,h3,vw_stM_same,vw_stM_ne,spl,stOk,oneC,hvi,nei]
 subst hQ
 refine xblock ?_
 refine xsr fun Q' hQ=>?_
 simp [hts]
 subst hQ
 refine xno (by simp [hts]) ?_
 refine xsr fun Q' hQ=>?_
 simp [hts]
 subst hQ
 refine xyes (by simp [hts]) ?_
 refine xsr fun Q' hQ=>?_
 simp [hts,h0,h1,h3,vw_stM_same,vw_stM_ne,spl,stOk,oneC,hvi,nei]
 subst hQ
 refine xdrw 3 fun Q' hQ=>?_
 simp [hts,h0,h1,h3,vw_stM_same,vw_stM_ne,spl,stOk,oneC,hvi,nei]
 subst hQ
 refine⟨rfl,?_,?_,?_,?_⟩
 ·exact (Old.st (Old.st hO (by omega) _ _) (by omega) _ _)
 ·rw [vw_stM_ne (by omega),vw_stM_ne (by omega)];exact h2
 ·simp [h3,vw_stM_same,vw_stM_ne,spl,stOk,oneC,stepF,stpCells,stp0,i0,n0]
 ·exact⟨x0,.int .i64 n,x2,_,x4,_,Sl.mk rfl (by simp [hts])⟩
theorem rstep_k3 {N0:Nat} {m:Mem} {n:Int} {f:Fs} {a1 a2 a3:Option Addr} (hF:FsV N0 m f (.agg ⟨fsC f a1 a2 a3⟩)) (hS:Shape 3 f):CallsA tb 79 [.agg ⟨rowCells 3⟩,.int .i64 n,.agg ⟨fsC f a1 a2 a3⟩] m (retR (StepFR 3 n f a1 a3 m)):=by
 obtain⟨o1,o2,o3⟩:=hF.parts
 obtain⟨ints,nats,way,text⟩:=f
 have hS':=hS.resolve_left (by decide)
 simp only [iN,nN] at hS'
 obtain⟨y0,rfl⟩:=len1 hS'.1
 obtain rfl:=List.length_eq_zero_iff.1 hS'.2.1
 refine callsS Tryz.func79 e79 rfl rfl ?_
 simp only [List.length_cons,List.length_nil,List.cons_append,List.nil_append,Nat.reduceAdd]
 refine front79 fun l ts m2 x0 x2 x4 hts S hl=>?_
 obtain⟨hO,-,h0,h1,h2,h3⟩:=S
 subst hl
 refine xseqN (fun l ds m'=>ds=[]∧Old m.next m m'∧vw m' (m.next+2)=some ⟨true,36,false,stpCells stp0 (.slice none 0 0) (.slice none 0 0)⟩∧vw m' (m.next+3)=some ⟨true,36,false,stpCells (stepF 3 n ⟨[y0],[],way,text⟩) (.slice none 0 0) (.slice none 0 0)⟩∧∃ x0 x1 x2 x3 x4 x5,Sl [x0,x1,x2,x3,x4,x5,.pointer (some ⟨m.next+2,0,none⟩),.pointer (some ⟨m.next+3,0,none⟩)] 157 l) ?_ ?_
 ·rintro l ds m3 ⟨rfl,hO3,hv2,hv3,x0,x1,x2,x3,x4,x5,us,hus,rfl⟩
  exact tail79 hO3 hv2 hv3 rfl rfl rfl rfl hus
 simp only [rowCells,wordOf,formOf,fsC,stpCells,stp0,List.length_cons,List.length_nil,Nat.zero_add,Nat.reduceAdd] at h0 h1 h3
 obtain⟨r0,hr0⟩:∃ r0,r0=m.next:=⟨_,rfl⟩
 rw [← hr0] at h0 h1 h2 h3 hO ⊢
 obtain⟨bi,ei,hbi,hvi⟩:=own_at o1 (by simp) (hr0▸hO)
 obtain rfl:a1=some ⟨bi,0,none⟩:=by cases ei;rfl
 simp only [i64s,List.map_cons,List.map_nil,List.length_cons,List.length_nil,Nat.zero_add,Nat.reduceAdd] at hvi
 have nei:¬ bi=r0+3:=by omega
 refine xsr fun Q' hQ=>?_
 simp [hts,h0,h1,h3,vw_stM_same,vw_stM_ne,spl,stOk,oneC,hvi,nei]
 subst hQ
 refine xblock ?_
 refine xsr fun Q' hQ=>?_
 simp [hts]
 subst hQ
 refine xno (by simp [hts]) ?_
 refine xsr fun Q' hQ=>?_
 simp [hts]
 subst hQ
 refine xno (by simp [hts]) ?_
 refine xseq ?_
 refine xsr fun Q' hQ=>?_
 simp [hts]
 subst hQ
 refine xyes (by simp [hts]) (xskip ?_)
 rw [thenA_normal]
 refine xyes (by simp [hts]) ?_
 refine xregQ fun Q' hQ=>?_
 simp [hts,h0,h1,h3,vw_stM_same,vw_stM_ne,spl,stOk,oneC,hvi,nei]
 subst hQ
 refine⟨rfl,?_,?_,?_,?_⟩
 ·exact (Old.st hO (by omega) _ _)
 ·rw [vw_stM_ne (by omega)];exact h2
 ·simp [h3,vw_stM_same,vw_stM_ne,spl,stOk,oneC,stepF,stpCells,stp0,i0,n0]
 ·exact⟨x0,.int .i64 n,x2,_,x4,_,Sl.mk rfl (by simp [hts])⟩
theorem rstep_k4 {N0:Nat} {m:Mem} {n:Int} {f:Fs} {a1 a2 a3:Option Addr} (hF:FsV N0 m f (.agg ⟨fsC f a1 a2 a3⟩)) (hS:Shape 4 f):CallsA tb 79 [.agg ⟨rowCells 4⟩,.int .i64 n,.agg ⟨fsC f a1 a2 a3⟩] m (retR (StepFR 4 n f a1 a3 m)):=by
 obtain⟨o1,o2,o3⟩:=hF.parts
 obtain⟨ints,nats,way,text⟩:=f
 have hS':=hS.resolve_left (by decide)
 simp only [iN,nN] at hS'
 obtain⟨y0,rfl⟩:=len1 hS'.1
 obtain rfl:=List.length_eq_zero_iff.1 hS'.2.1
 refine callsS Tryz.func79 e79 rfl rfl ?_
 simp only [List.length_cons,List.length_nil,List.cons_append,List.nil_append,Nat.reduceAdd]
 refine front79 fun l ts m2 x0 x2 x4 hts S hl=>?_
 obtain⟨hO,-,h0,h1,h2,h3⟩:=S
 subst hl
 refine xseqN (fun l ds m'=>ds=[]∧Old m.next m m'∧vw m' (m.next+2)=some ⟨true,36,false,stpCells stp0 (.slice none 0 0) (.slice none 0 0)⟩∧vw m' (m.next+3)=some ⟨true,36,false,stpCells (stepF 4 n ⟨[y0],[],way,text⟩) (.slice none 0 0) (.slice none 0 0)⟩∧∃ x0 x1 x2 x3 x4 x5,Sl [x0,x1,x2,x3,x4,x5,.pointer (some ⟨m.next+2,0,none⟩),.pointer (some ⟨m.next+3,0,none⟩)] 157 l) ?_ ?_
 ·rintro l ds m3 ⟨rfl,hO3,hv2,hv3,x0,x1,x2,x3,x4,x5,us,hus,rfl⟩
  exact tail79 hO3 hv2 hv3 rfl rfl rfl rfl hus
 simp only [rowCells,wordOf,formOf,fsC,stpCells,stp0,List.length_cons,List.length_nil,Nat.zero_add,Nat.reduceAdd] at h0 h1 h3
 obtain⟨r0,hr0⟩:∃ r0,r0=m.next:=⟨_,rfl⟩
 rw [← hr0] at h0 h1 h2 h3 hO ⊢
 obtain⟨bi,ei,hbi,hvi⟩:=own_at o1 (by simp) (hr0▸hO)
 obtain rfl:a1=some ⟨bi,0,none⟩:=by cases ei;rfl
 simp only [i64s,List.map_cons,List.map_nil,List.length_cons,List.length_nil,Nat.zero_add,Nat.reduceAdd] at hvi
 have nei:¬ bi=r0+3:=by omega
 refine xsr fun Q' hQ=>?_
 simp [hts,h0,h1,h3,vw_stM_same,vw_stM_ne,spl,stOk,oneC,hvi,nei]
 subst hQ
 refine xblock ?_
 refine xsr fun Q' hQ=>?_
 simp [hts]
 subst hQ
 refine xno (by simp [hts]) ?_
 refine xsr fun Q' hQ=>?_
 simp [hts]
 subst hQ
 refine xno (by simp [hts]) ?_
 refine xseq ?_
 refine xsr fun Q' hQ=>?_
 simp [hts]
 subst hQ
 refine xno (by simp [hts]) ?_
 refine xsr fun Q' hQ=>?_
 simp [hts]
 subst hQ
 refine xyes (by simp [hts]) (xskip ?_)
 rw [thenA_normal]
 refine xyes (by simp [hts]) ?_
 refine xregQ fun Q' hQ=>?_
 simp [hts,h0,h1,h3,vw_stM_same,vw_stM_ne,spl,stOk,oneC,hvi,nei]
 subst hQ
 refine⟨rfl,?_,?_,?_,?_⟩
 ·exact (Old.st hO (by omega) _ _)
 ·rw [vw_stM_ne (by omega)];exact h2
 ·simp [h3,vw_stM_same,vw_stM_ne,spl,stOk,oneC,stepF,stpCells,stp0,i0,n0]
 ·exact⟨x0,.int .i64 n,x2,_,x4,_,Sl.mk rfl (by simp [hts])⟩
theorem rstep_k5 {N0:Nat} {m:Mem} {n:Int} {f:Fs} {a1 a2 a3:Option Addr} (hF:FsV N0 m f (.agg ⟨fsC f a1 a2 a3⟩)) (hS:Shape 5 f):CallsA tb 79 [.agg ⟨rowCells 5⟩,.int .i64 n,.agg ⟨fsC f a1 a2 a3⟩] m (retR (StepFR 5 n f a1 a3 m)):=by
 obtain⟨o1,o2,o3⟩:=hF.parts
 obtain⟨ints,nats,way,text⟩:=f
 have hS':=hS.resolve_left (by decide)
 simp only [iN,nN] at hS'
 obtain⟨y0,rfl⟩:=len1 hS'.1
 obtain rfl:=List.length_eq_zero_iff.1 hS'.2.1
 refine callsS Tryz.func79 e79 rfl rfl ?_
 simp only [List.length_cons,List.length_nil,List.cons_append,List.nil_append,Nat.reduceAdd]
 refine front79 fun l ts m2 x0 x2 x4 hts S hl=>?_
 obtain⟨hO,-,h0,h1,h2,h3⟩:=S
 subst hl
 refine xseqN (fun l ds m'=>ds=[]∧Old m.next m m'∧vw m' (m.next+2)=some ⟨true,36,false,stpCells stp0 (.slice none 0 0) (.slice none 0 0)⟩∧vw m' (m.next+3)=some ⟨true,36,false,stpCells (stepF 5 n ⟨[y0],[],way,text⟩) (.slice none 0 0) (.slice none 0 0)⟩∧∃ x0 x1 x2 x3 x4 x5,Sl [x0,x1,x2,x3,x4,x5,.pointer (some ⟨m.next+2,0,none⟩),.pointer (some ⟨m.next+3,0,none⟩)] 157 l) ?_ ?_
 ·rintro l ds m3 ⟨rfl,hO3,hv2,hv3,x0,x1,x2,x3,x4,x5,us,hus,rfl⟩
  exact tail79 hO3 hv2 hv3 rfl rfl rfl rfl hus
 simp only [rowCells,wordOf,formOf,fsC,stpCells,stp0,List.length_cons,List.length_nil,Nat.zero_add,Nat.reduceAdd] at h0 h1 h3
 obtain⟨r0,hr0⟩:∃ r0,r0=m.next:=⟨_,rfl⟩
 rw [← hr0] at h0 h1 h2 h3 hO ⊢
 obtain⟨bi,ei,hbi,hvi⟩:=own_at o1 (by simp) (hr0▸hO)
 obtain rfl:a1=some ⟨bi,0,none⟩:=by cases ei;rfl
 simp only [i64s,List.map_cons,List.map_nil,List.length_cons,List.length_nil,Nat.zero_add,Nat.reduceAdd] at hvi
 have nei:¬ bi=r0+3:=by omega
 refine xsr fun Q' hQ=>?_
 simp [hts,h0,h1,h3,vw_stM_same,vw_stM_ne,spl,stOk,oneC,hvi,nei]
 subst hQ
 refine xblock ?_
 refine xsr fun Q' hQ=>?_
 simp [hts]
 subst hQ
 refine xno (by simp [hts]) ?_
 refine xsr fun Q' hQ=>?_
 simp [hts]
 subst hQ
 refine xno (by simp [hts]) ?_
 refine xseq ?_
 refine xsr fun Q' hQ=>?_
 simp [hts]
 subst hQ
 refine xno (by simp [hts]) ?_
 refine xsr fun Q' hQ=>?_
 simp [hts]
 subst hQ
 refine xno (by simp [hts]) ?_
 refine xsr fun Q' hQ=>?_
 simp [hts]
 subst hQ
 refine xyes (by simp [hts]) (xskip ?_)
 rw [thenA_normal]
 refine xyes (by simp [hts]) ?_
 refine xregQ fun Q' hQ=>?_
 simp [hts,h0,h1,h3,vw_stM_same,vw_stM_ne,spl,stOk,oneC,hvi,nei]
 subst hQ
 refine⟨rfl,?_,?_,?_,?_⟩
 ·exact (Old.st hO (by omega) _ _)
 ·rw [vw_stM_ne (by omega)];exact h2
 ·simp [h3,vw_stM_same,vw_stM_ne,spl,stOk,oneC,stepF,stpCells,stp0,i0,n0]
 ·exact⟨x0,.int .i64 n,x2,_,x4,_,Sl.mk rfl (by simp [hts])⟩
theorem rstep_k6 {N0:Nat} {m:Mem} {n:Int} {f:Fs} {a1 a2 a3:Option Addr} (hF:FsV N0 m f (.agg ⟨fsC f a1 a2 a3⟩)) (hS:Shape 6 f):CallsA tb 79 [.agg ⟨rowCells 6⟩,.int .i64 n,.agg ⟨fsC f a1 a2 a3⟩] m (retR (StepFR 6 n f a1 a3 m)):=by
 obtain⟨o1,o2,o3⟩:=hF.parts
 obtain⟨ints,nats,way,text⟩:=f
 have hS':=hS.resolve_left (by decide)
 simp only [iN,nN] at hS'
 obtain⟨y0,rfl⟩:=len1 hS'.1
 obtain⟨z0,z1,rfl⟩:=len2 hS'.2.1
 refine callsS Tryz.func79 e79 rfl rfl ?_
 simp only [List.length_cons,List.length_nil,List.cons_append,List.nil_append,Nat.reduceAdd]
 refine front79 fun l ts m2 x0 x2 x4 hts S hl=>?_
 obtain⟨hO,-,h0,h1,h2,h3⟩:=S
 subst hl
 refine xseqN (fun l ds m'=>ds=[]∧Old m.next m m'∧vw m' (m.next+2)=some ⟨true,36,false,stpCells stp0 (.slice none 0 0) (.slice none 0 0)⟩∧vw m' (m.next+3)=some ⟨true,36,false,stpCells (stepF 6 n ⟨[y0],[z0,z1],way,text⟩) (.slice a3 text.length text.length) (.slice none 0 0)⟩∧∃ x0 x1 x2 x3 x4 x5,Sl [x0,x1,x2,x3,x4,x5,.pointer (some ⟨m.next+2,0,none⟩),.pointer (some ⟨m.next+3,0,none⟩)] 157 l) ?_ ?_
 ·rintro l ds m3 ⟨rfl,hO3,hv2,hv3,x0,x1,x2,x3,x4,x5,us,hus,rfl⟩
  exact tail79 hO3 hv2 hv3 rfl rfl rfl rfl hus
 simp only [rowCells,wordOf,formOf,fsC,stpCells,stp0,List.length_cons,List.length_nil,Nat.zero_add,Nat.reduceAdd] at h0 h1 h3
 obtain⟨r0,hr0⟩:∃ r0,r0=m.next:=⟨_,rfl⟩
 rw [← hr0] at h0 h1 h2 h3 hO ⊢
 obtain⟨bi,ei,hbi,hvi⟩:=own_at o1 (by simp) (hr0▸hO)
 obtain rfl:a1=some ⟨bi,0,none⟩:=by cases ei;rfl
 simp only [i64s,List.map_cons,List.map_nil,List.length_cons,List.length_nil,Nat.zero_add,Nat.reduceAdd] at hvi
 have nei:¬ bi=r0+3:=by omega
 obtain⟨bn,en,hbn,hvn⟩:=own_at o2 (by simp) (hr0▸hO)
 obtain rfl:a2=some ⟨bn,0,none⟩:=by cases en;rfl
 simp only [u64s,List.map_cons,List.map_nil,List.length_cons,List.length_nil,Nat.zero_add,Nat.reduceAdd] at hvn
 have nen:¬ bn=r0+3:=by omega
 refine xsr fun Q' hQ=>?_
 simp [hts,h0,h1,h3,vw_stM_same,vw_stM_ne,spl,stOk,oneC,hvi,nei,hvn,nen]
 subst hQ
 refine xblock ?_
 refine xsr fun Q' hQ=>?_
 simp [hts]
 subst hQ
 refine xno (by simp [hts]) ?_
 refine xsr fun Q' hQ=>?_
 simp [hts]
 subst hQ
 refine xno (by simp [hts]) ?_
 refine xseq ?_
 refine xsr fun Q' hQ=>?_
 simp [hts]
 subst hQ
 refine xno (by simp [hts]) ?_
 refine xsr fun Q' hQ=>?_
 simp [hts]
 subst hQ
 refine xno (by simp [hts]) ?_
 refine xsr fun Q' hQ=>?_
 simp [hts]
 subst hQ
 refine xno (by simp [hts]) ?_
 refine xregQ fun Q' hQ=>?_
 simp [hts]
 subst hQ
 rw [thenA_normal]
 refine xno (by simp [hts]) ?_
 refine xsr fun Q' hQ=>?_
 simp [hts]
 subst hQ
 refine xyes (by simp [hts]) ?_
 refine xsr fun Q' hQ=>?_
 simp [hts,h0,h1,h3,vw_stM_same,vw_stM_ne,spl,stOk,oneC,hvi,nei,hvn,nen]
 subst hQ
 refine xsr fun Q' hQ=>?_
 simp [hts,h0,h1,h3,vw_stM_same,vw_stM_ne,spl,stOk,oneC,hvi,nei,hvn,nen]
 subst hQ
 refine xsr fun Q' hQ=>?_
 simp [hts,h0,h1,h3,vw_stM_same,vw_stM_ne,spl,stOk,oneC,hvi,nei,hvn,nen]
 subst hQ
 refine xregQ fun Q' hQ=>?_
 simp [hts,h0,h1,h3,vw_stM_same,vw_stM_ne,spl,stOk,oneC,hvi,nei,hvn,nen]
 subst hQ
 refine⟨rfl,?_,?_,?_,?_⟩
 ·exact (Old.st (Old.st (Old.st (Old.st hO (by omega) _ _) (by omega) _ _) (by omega) _ _) (by omega) _ _)
 ·rw [vw_stM_ne (by omega),vw_stM_ne (by omega),vw_stM_ne (by omega),vw_stM_ne (by omega)];exact h2
 ·simp [h3,vw_stM_same,vw_stM_ne,spl,stOk,oneC,stepF,stpCells,stp0,i0,n0]
 ·exact⟨x0,.int .i64 n,x2,_,x4,_,Sl.mk rfl (by simp [hts])⟩
theorem rstep_k7 {N0:Nat} {m:Mem} {n:Int} {f:Fs} {a1 a2 a3:Option Addr} (hF:FsV N0 m f (.agg ⟨fsC f a1 a2 a3⟩)) (hS:Shape 7 f):CallsA tb 79 [.agg ⟨rowCells 7⟩,.int .i64 n,.agg ⟨fsC f a1 a2 a3⟩] m (retR (StepFR 7 n f a1 a3 m)):=by
 obtain⟨o1,o2,o3⟩:=hF.parts
 obtain⟨ints,nats,way,text⟩:=f
 have hS':=hS.resolve_left (by decide)
 simp only [iN,nN] at hS'
 obtain⟨y0,rfl⟩:=len1 hS'.1
 obtain⟨z0,rfl⟩:=len1 hS'.2.1
 refine callsS Tryz.func79 e79 rfl rfl ?_
 simp only [List.length_cons,List.length_nil,List.cons_append,List.nil_append,Nat.reduceAdd]
 refine front79 fun l ts m2 x0 x2 x4 hts S hl=>?_
 obtain⟨hO,-,h0,h1,h2,h3⟩:=S
 subst hl
 refine xseqN (fun l ds m'=>ds=[]∧Old m.next m m'∧vw m' (m.next+2)=some ⟨true,36,false,stpCells stp0 (.slice none 0 0) (.slice none 0 0)⟩∧vw m' (m.next+3)=some ⟨true,36,false,stpCells (stepF 7 n ⟨[y0],[z0],way,text⟩) (.slice none 0 0) (.slice none 0 0)⟩∧∃ x0 x1 x2 x3 x4 x5,Sl [x0,x1,x2,x3,x4,x5,.pointer (some ⟨m.next+2,0,none⟩),.pointer (some ⟨m.next+3,0,none⟩)] 157 l) ?_ ?_
 ·rintro l ds m3 ⟨rfl,hO3,hv2,hv3,x0,x1,x2,x3,x4,x5,us,hus,rfl⟩
  exact tail79 hO3 hv2 hv3 rfl rfl rfl rfl hus
 simp only [rowCells,wordOf,formOf,fsC,stpCells,stp0,List.length_cons,List.length_nil,Nat.zero_add,Nat.reduceAdd] at h0 h1 h3
 obtain⟨r0,hr0⟩:∃ r0,r0=m.next:=⟨_,rfl⟩
 rw [← hr0] at h0 h1 h2 h3 hO ⊢
 obtain⟨bi,ei,hbi,hvi⟩:=own_at o1 (by simp) (hr0▸hO)
 obtain rfl:a1=some ⟨bi,0,none⟩:=by cases ei;rfl
 simp only [i64s,List.map_cons,List.map_nil,List.length_cons,List.length_nil,Nat.zero_add,Nat.reduceAdd] at hvi
 have nei:¬ bi=r0+3:=by omega
 obtain⟨bn,en,hbn,hvn⟩:=own_at o2 (by simp) (hr0▸hO)
 obtain rfl:a2=some ⟨bn,0,none⟩:=by cases en;rfl
 simp only [u64s,List.map_cons,List.map_nil,List.length_cons,List.length_nil,Nat.zero_add,Nat.reduceAdd] at hvn
 have nen:¬ bn=r0+3:=by omega
 refine xsr fun Q' hQ=>?_
 simp [hts,h0,h1,h3,vw_stM_same,vw_stM_ne,spl,stOk,oneC,hvi,nei,hvn,nen]
 subst hQ
 refine xblock ?_
 refine xsr fun Q' hQ=>?_
 simp [hts]
 subst hQ
 refine xno (by simp [hts]) ?_
 refine xsr fun Q' hQ=>?_
 simp [hts]
 subst hQ
 refine xno (by simp [hts]) ?_
 refine xseq ?_
 refine xsr fun Q' hQ=>?_
 simp [hts]
 subst hQ
 refine xno (by simp [hts]) ?_
 refine xsr fun Q' hQ=>?_
 simp [hts]
 subst hQ
 refine xno (by simp [hts]) ?_
 refine xsr fun Q' hQ=>?_
 simp [hts]
 subst hQ
 refine xno (by simp [hts]) ?_
 refine xregQ fun Q' hQ=>?_
 simp [hts]
 subst hQ
 rw [thenA_normal]
 refine xno (by simp [hts]) ?_
 refine xsr fun Q' hQ=>?_
 simp [hts]
 subst hQ
 refine xno (by simp [hts]) ?_
 refine xsr fun Q' hQ=>?_
 simp [hts]
 subst hQ
 refine xyes (by simp [hts]) ?_
 refine xsr fun Q' hQ=>?_
 simp [hts,h0,h1,h3,vw_stM_same,vw_stM_ne,spl,stOk,oneC,hvi,nei,hvn,nen]
 subst hQ
 refine xregQ fun Q' hQ=>?_
 simp [hts,h0,h1,h3,vw_stM_same,vw_stM_ne,spl,stOk,oneC,hvi,nei,hvn,nen]
 subst hQ
 refine⟨rfl,?_,?_,?_,?_⟩
 ·exact (Old.st (Old.st hO (by omega) _ _) (by omega) _ _)
 ·rw [vw_stM_ne (by omega),vw_stM_ne (by omega)];exact h2
 ·simp [h3,vw_stM_same,vw_stM_ne,spl,stOk,oneC,stepF,stpCells,stp0,i0,n0]
 ·exact⟨x0,.int .i64 n,x2,_,x4,_,Sl.mk rfl (by simp [hts])⟩
theorem rstep_k8 {N0:Nat} {m:Mem} {n:Int} {f:Fs} {a1 a2 a3:Option Addr} (hF:FsV N0 m f (.agg ⟨fsC f a1 a2 a3⟩)) (hS:Shape 8 f):CallsA tb 79 [.agg ⟨rowCells 8⟩,.int .i64 n,.agg ⟨fsC f a1 a2 a3⟩] m (retR (StepFR 8 n f a1 a3 m)):=by
 obtain⟨o1,o2,o3⟩:=hF.parts
 obtain⟨ints,nats,way,text⟩:=f
 have hS':=hS.resolve_left (by decide)
 simp only [iN,nN] at hS'
 obtain rfl:=List.length_eq_zero_iff.1 hS'.1
 obtain rfl:=List.length_eq_zero_iff.1 hS'.2.1
 refine callsS Tryz.func79 e79 rfl rfl ?_
 simp only [List.length_cons,List.length_nil,List.cons_append,List.nil_append,Nat.reduceAdd]
 refine front79 fun l ts m2 x0 x2 x4 hts S hl=>?_
 obtain⟨hO,-,h0,h1,h2,h3⟩:=S
 subst hl
 refine xseqN (fun l ds m'=>ds=[]∧Old m.next m m'∧vw m' (m.next+2)=some ⟨true,36,false,stpCells stp0 (.slice none 0 0) (.slice none 0 0)⟩∧vw m' (m.next+3)=some ⟨true,36,false,stpCells (stepF 8 n ⟨[],[],way,text⟩) (.slice none 0 0) (.slice none 0 0)⟩∧∃ x0 x1 x2 x3 x4 x5,Sl [x0,x1,x2,x3,x4,x5,.pointer (some ⟨m.next+2,0,none⟩),.pointer (some ⟨m.next+3,0,none⟩)] 157 l) ?_ ?_
 ·rintro l ds m3 ⟨rfl,hO3,hv2,hv3,x0,x1,x2,x3,x4,x5,us,hus,rfl⟩
  exact tail79 hO3 hv2 hv3 rfl rfl rfl rfl hus
 simp only [rowCells,wordOf,formOf,fsC,stpCells,stp0,List.length_cons,List.length_nil,Nat.zero_add,Nat.reduceAdd] at h0 h1 h3
 obtain⟨r0,hr0⟩:∃ r0,r0=m.next:=⟨_,rfl⟩
 rw [← hr0] at h0 h1 h2 h3 hO ⊢
 refine xsr fun Q' hQ=>?_
 simp [hts,h0,h1,h3,vw_stM_same,vw_stM_ne,spl,stOk,oneC]
 subst hQ
 refine xblock ?_
 refine xsr fun Q' hQ=>?_
 simp [hts]
 subst hQ
 refine xno (by simp [hts]) ?_
 refine xsr fun Q' hQ=>?_
 simp [hts]
 subst hQ
 refine xno (by simp [hts]) ?_
 refine xseq ?_
 refine xsr fun Q' hQ=>?_
 simp [hts]
 subst hQ
 refine xno (by simp [hts]) ?_
 refine xsr fun Q' hQ=>?_
 simp [hts]
 subst hQ
 refine xno (by simp [hts]) ?_
 refine xsr fun Q' hQ=>?_
 simp [hts]
 subst hQ
 refine xno (by simp [hts]) ?_
 refine xregQ fun Q' hQ=>?_
 simp [hts]
 subst hQ
 rw [thenA_normal]
 refine xno (by simp [hts]) ?_
 refine xsr fun Q' hQ=>?_
 simp [hts]
 subst hQ
 refine xno (by simp [hts]) ?_
 refine xsr fun Q' hQ=>?_
 simp [hts]
 subst hQ
 refine xno (by simp [hts]) ?_
 refine xseq ?_
 refine xsr fun Q' hQ=>?_
 simp [hts]
 subst hQ
 refine xno (by simp [hts]) ?_
 refine xsr fun Q' hQ=>?_
 simp [hts]
 subst hQ
 refine xno (by simp [hts]) ?_
 refine xregQ fun Q' hQ=>?_
 simp [hts]
 subst hQ
 rw [thenA_normal]
 refine xno (by simp [hts]) ?_
 refine xsr fun Q' hQ=>?_
 simp [hts]
 subst hQ
 refine xno (by simp [hts]) ?_
 refine xsr fun Q' hQ=>?_
 simp [hts]
 subst hQ
 refine xno (by simp [hts]) ?_
 refine xsr fun Q' hQ=>?_
 simp [hts]
 subst hQ
 refine xno (by simp [hts]) ?_
 refine xseq ?_
 refine xsr fun Q' hQ=>?_
 simp [hts]
 subst hQ
 refine xno (by simp [hts]) ?_
 refine xsr fun Q' hQ=>?_
 simp [hts]
 subst hQ
 refine xno (by simp [hts]) ?_
 refine xsr fun Q' hQ=>?_
 simp [hts]
 subst hQ
 refine xno (by simp [hts]) ?_
 refine xregQ fun Q' hQ=>?_
 simp [hts]
 subst hQ
 rw [thenA_normal]
 refine xno (by simp [hts]) ?_
 refine xsr fun Q' hQ=>?_
 simp [hts]
 subst hQ
 refine xno (by simp [hts]) ?_
 refine xsr fun Q' hQ=>?_
 simp [hts]
 subst hQ
 refine xno (by simp [hts]) (xskip ?_)
 refine⟨rfl,?_,?_,?_,?_⟩
 ·exact hO
 ·exact h2
 ·simp [h3,vw_stM_same,vw_stM_ne,spl,stOk,oneC,stepF,stpCells,stp0,i0,n0]
 ·exact⟨x0,.int .i64 n,x2,_,x4,_,Sl.mk rfl (by simp [hts])⟩
theorem rstep_k9 {N0:Nat} {m:Mem} {n:Int} {f:Fs} {a1 a2 a3:Option Addr} (hF:FsV N0 m f (.agg ⟨fsC f a1 a2 a3⟩)) (hS:Shape 9 f):CallsA tb 79 [.agg ⟨rowCells 9⟩,.int .i64 n,.agg ⟨fsC f a1 a2 a3⟩] m (retR (StepFR 9 n f a1 a3 m)):=by
 obtain⟨o1,o2,o3⟩:=hF.parts
 obtain⟨ints,nats,way,text⟩:=f
 have hS':=hS.resolve_left (by decide)
 simp only [iN,nN] at hS'
 obtain⟨y0,rfl⟩:=len1 hS'.1
 obtain rfl:=List.length_eq_zero_iff.1 hS'.2.1
 refine callsS Tryz.func79 e79 rfl rfl ?_
 simp only [List.length_cons,List.length_nil,List.cons_append,List.nil_append,Nat.reduceAdd]
 refine front79 fun l ts m2 x0 x2 x4 hts S hl=>?_
 obtain⟨hO,-,h0,h1,h2,h3⟩:=S
 subst hl
 refine xseqN (fun l ds m'=>ds=[]∧Old m.next m m'∧vw m' (m.next+2)=some ⟨true,36,false,stpCells stp0 (.slice none 0 0) (.slice none 0 0)⟩∧vw m' (m.next+3)=some ⟨true,36,false,stpCells (stepF 9 n ⟨[y0],[],way,text⟩) (.slice none 0 0) (.slice none 0 0)⟩∧∃ x0 x1 x2 x3 x4 x5,Sl [x0,x1,x2,x3,x4,x5,.pointer (some ⟨m.next+2,0,none⟩),.pointer (some ⟨m.next+3,0,none⟩)] 157 l) ?_ ?_
 ·rintro l ds m3 ⟨rfl,hO3,hv2,hv3,x0,x1,x2,x3,x4,x5,us,hus,rfl⟩
  exact tail79 hO3 hv2 hv3 rfl rfl rfl rfl hus
 simp only [rowCells,wordOf,formOf,fsC,stpCells,stp0,List.length_cons,List.length_nil,Nat.zero_add,Nat.reduceAdd] at h0 h1 h3
 obtain⟨r0,hr0⟩:∃ r0,r0=m.next:=⟨_,rfl⟩
 rw [← hr0] at h0 h1 h2 h3 hO ⊢
 obtain⟨bi,ei,hbi,hvi⟩:=own_at o1 (by simp) (hr0▸hO)
 obtain rfl:a1=some ⟨bi,0,none⟩:=by cases ei;rfl
 simp only [i64s,List.map_cons,List.map_nil,List.length_cons,List.length_nil,Nat.zero_add,Nat.reduceAdd] at hvi
 have nei:¬ bi=r0+3:=by omega
 refine xsr fun Q' hQ=>?_
 simp [hts,h0,h1,h3,vw_stM_same,vw_stM_ne,spl,stOk,oneC,hvi,nei]
 subst hQ
 refine xblock ?_
 refine xsr fun Q' hQ=>?_
 simp [hts]
 subst hQ
 refine xno (by simp [hts]) ?_
 refine xsr fun Q' hQ=>?_
 simp [hts]
 subst hQ
 refine xno (by simp [hts]) ?_
 refine xseq ?_
 refine xsr fun Q' hQ=>?_
 simp [hts]
 subst hQ
 refine xno (by simp [hts]) ?_
 refine xsr fun Q' hQ=>?_
 simp [hts]
 subst hQ
 refine xno (by simp [hts]) ?_
 refine xsr fun Q' hQ=>?_
 simp [hts]
 subst hQ
 refine xno (by simp [hts]) ?_
 refine xregQ fun Q' hQ=>?_
 simp [hts]
 subst hQ
 rw [thenA_normal]
 refine xno (by simp [hts]) ?_
 refine xsr fun Q' hQ=>?_
 simp [hts]
 subst hQ
 refine xno (by simp [hts]) ?_
 refine xsr fun Q' hQ=>?_
 simp [hts]
 subst hQ
 refine xno (by simp [hts]) ?_
 refine xseq ?_
 refine xsr fun Q' hQ=>?_
 simp [hts]
 subst hQ
 refine xyes (by simp [hts]) (xskip ?_)
 rw [thenA_normal]
 refine xyes (by simp [hts]) ?_
 refine xsr fun Q' hQ=>?_
 simp [hts,h0,h1,h3,vw_stM_same,vw_stM_ne,spl,stOk,oneC,hvi,nei]
 subst hQ
 refine xregQ fun Q' hQ=>?_
 simp [hts,h0,h1,h3,vw_stM_same,vw_stM_ne,spl,stOk,oneC,hvi,nei]
 subst hQ
 refine⟨rfl,?_,?_,?_,?_⟩
 ·exact (Old.st (Old.st hO (by omega) _ _) (by omega) _ _)
 ·rw [vw_stM_ne (by omega),vw_stM_ne (by omega)];exact h2
 ·simp [h3,vw_stM_same,vw_stM_ne,spl,stOk,oneC,stepF,stpCells,stp0,i0,n0]
 ·exact⟨x0,.int .i64 n,x2,_,x4,_,Sl.mk rfl (by simp [hts])⟩
theorem rstep_k10 {N0:Nat} {m:Mem} {n:Int} {f:Fs} {a1 a2 a3:Option Addr} (hF:FsV N0 m f (.agg ⟨fsC f a1 a2 a3⟩)) (hS:Shape 10 f):CallsA tb 79 [.agg ⟨rowCells 10⟩,.int .i64 n,.agg ⟨fsC f a1 a2 a3⟩] m (retR (StepFR 10 n f a1 a3 m)):=by
 obtain⟨o1,o2,o3⟩:=hF.parts
 obtain⟨ints,nats,way,text⟩:=f
 have hS':=hS.resolve_left (by decide)
 simp only [iN,nN] at hS'
 obtain⟨y0,rfl⟩:=len1 hS'.1
 obtain rfl:=List.length_eq_zero_iff.1 hS'.2.1
 refine callsS Tryz.func79 e79 rfl rfl ?_
 simp only [List.length_cons,List.length_nil,List.cons_append,List.nil_append,Nat.reduceAdd]
 refine front79 fun l ts m2 x0 x2 x4 hts S hl=>?_
 obtain⟨hO,-,h0,h1,h2,h3⟩:=S
 subst hl
 refine xseqN (fun l ds m'=>ds=[]∧Old m.next m m'∧vw m' (m.next+2)=some ⟨true,36,false,stpCells stp0 (.slice none 0 0) (.slice none 0 0)⟩∧vw m' (m.next+3)=some ⟨true,36,false,stpCells (stepF 10 n ⟨[y0],[],way,text⟩) (.slice none 0 0) (.slice none 0 0)⟩∧∃ x0 x1 x2 x3 x4 x5,Sl [x0,x1,x2,x3,x4,x5,.pointer (some ⟨m.next+2,0,none⟩),.pointer (some ⟨m.next+3,0,none⟩)] 157 l) ?_ ?_
 ·rintro l ds m3 ⟨rfl,hO3,hv2,hv3,x0,x1,x2,x3,x4,x5,us,hus,rfl⟩
  exact tail79 hO3 hv2 hv3 rfl rfl rfl rfl hus
 simp only [rowCells,wordOf,formOf,fsC,stpCells,stp0,List.length_cons,List.length_nil,Nat.zero_add,Nat.reduceAdd] at h0 h1 h3
 obtain⟨r0,hr0⟩:∃ r0,r0=m.next:=⟨_,rfl⟩
 rw [← hr0] at h0 h1 h2 h3 hO ⊢
 obtain⟨bi,ei,hbi,hvi⟩:=own_at o1 (by simp) (hr0▸hO)
 obtain rfl:a1=some ⟨bi,0,none⟩:=by cases ei;rfl
 simp only [i64s,List.map_cons,List.map_nil,List.length_cons,List.length_nil,Nat.zero_add,Nat.reduceAdd] at hvi
 have nei:¬ bi=r0+3:=by omega
 refine xsr fun Q' hQ=>?_
 simp [hts,h0,h1,h3,vw_stM_same,vw_stM_ne,spl,stOk,oneC,hvi,nei]
 subst hQ
 refine xblock ?_
 refine xsr fun Q' hQ=>?_
 simp [hts]
 subst hQ
 refine xno (by simp [hts]) ?_
 refine xsr fun Q' hQ=>?_
 simp [hts]
 subst hQ
 refine xno (by simp [hts]) ?_
 refine xseq ?_
 refine xsr fun Q' hQ=>?_
 simp [hts]
 subst hQ
 refine xno (by simp [hts]) ?_
 refine xsr fun Q' hQ=>?_
 simp [hts]
 subst hQ
 refine xno (by simp [hts]) ?_
 refine xsr fun Q' hQ=>?_
 simp [hts]
 subst hQ
 refine xno (by simp [hts]) ?_
 refine xregQ fun Q' hQ=>?_
 simp [hts]
 subst hQ
 rw [thenA_normal]
 refine xno (by simp [hts]) ?_
 refine xsr fun Q' hQ=>?_
 simp [hts]
 subst hQ
 refine xno (by simp [hts]) ?_
 refine xsr fun Q' hQ=>?_
 simp [hts]
 subst hQ
 refine xno (by simp [hts]) ?_
 refine xseq ?_
 refine xsr fun Q' hQ=>?_
 simp [hts]
 subst hQ
 refine xno (by simp [hts]) ?_
 refine xsr fun Q' hQ=>?_
 simp [hts]
 subst hQ
 refine xyes (by simp [hts]) (xskip ?_)
 rw [thenA_normal]
 refine xyes (by simp [hts]) ?_
 refine xsr fun Q' hQ=>?_
 simp [hts,h0,h1,h3,vw_stM_same,vw_stM_ne,spl,stOk,oneC,hvi,nei]
 subst hQ
 refine xregQ fun Q' hQ=>?_
 simp [hts,h0,h1,h3,vw_stM_same,vw_stM_ne,spl,stOk,oneC,hvi,nei]
 subst hQ
 refine⟨rfl,?_,?_,?_,?_⟩
 ·exact (Old.st (Old.st hO (by omega) _ _) (by omega) _ _)
 ·rw [vw_stM_ne (by omega),vw_stM_ne (by omega)];exact h2
 ·simp [h3,vw_stM_same,vw_stM_ne,spl,stOk,oneC,stepF,stpCells,stp0,i0,n0]
 ·exact⟨x0,.int .i64 n,x2,_,x4,_,Sl.mk rfl (by simp [hts])⟩
theorem rstep_k11 {N0:Nat} {m:Mem} {n:Int} {f:Fs} {a1 a2 a3:Option Addr} (hF:FsV N0 m f (.agg ⟨fsC f a1 a2 a3⟩)) (hS:Shape 11 f):CallsA tb 79 [.agg ⟨rowCells 11⟩,.int .i64 n,.agg ⟨fsC f a1 a2 a3⟩] m (retR (StepFR 11 n f a1 a3 m)):=by
 obtain⟨o1,o2,o3⟩:=hF.parts
 obtain⟨ints,nats,way,text⟩:=f
 have hS':=hS.resolve_left (by decide)
 simp only [iN,nN] at hS'
 obtain⟨y0,rfl⟩:=len1 hS'.1
 obtain rfl:=List.length_eq_zero_iff.1 hS'.2.1
 refine callsS Tryz.func79 e79 rfl rfl ?_
 simp only [List.length_cons,List.length_nil,List.cons_append,List.nil_append,Nat.reduceAdd]
 refine front79 fun l ts m2 x0 x2 x4 hts S hl=>?_
 obtain⟨hO,-,h0,h1,h2,h3⟩:=S
 subst hl
 refine xseqN (fun l ds m'=>ds=[]∧Old m.next m m'∧vw m' (m.next+2)=some ⟨true,36,false,stpCells stp0 (.slice none 0 0) (.slice none 0 0)⟩∧vw m' (m.next+3)=some ⟨true,36,false,stpCells (stepF 11 n ⟨[y0],[],way,text⟩) (.slice none 0 0) (.slice none 0 0)⟩∧∃ x0 x1 x2 x3 x4 x5,Sl [x0,x1,x2,x3,x4,x5,.pointer (some ⟨m.next+2,0,none⟩),.pointer (some ⟨m.next+3,0,none⟩)] 157 l) ?_ ?_
 ·rintro l ds m3 ⟨rfl,hO3,hv2,hv3,x0,x1,x2,x3,x4,x5,us,hus,rfl⟩
  exact tail79 hO3 hv2 hv3 rfl rfl rfl rfl hus
 simp only [rowCells,wordOf,formOf,fsC,stpCells,stp0,List.length_cons,List.length_nil,Nat.zero_add,Nat.reduceAdd] at h0 h1 h3
 obtain⟨r0,hr0⟩:∃ r0,r0=m.next:=⟨_,rfl⟩
 rw [← hr0] at h0 h1 h2 h3 hO ⊢
 obtain⟨bi,ei,hbi,hvi⟩:=own_at o1 (by simp) (hr0▸hO)
 obtain rfl:a1=some ⟨bi,0,none⟩:=by cases ei;rfl
 simp only [i64s,List.map_cons,List.map_nil,List.length_cons,List.length_nil,Nat.zero_add,Nat.reduceAdd] at hvi
 have nei:¬ bi=r0+3:=by omega
 refine xsr fun Q' hQ=>?_
 simp [hts,h0,h1,h3,vw_stM_same,vw_stM_ne,spl,stOk,oneC,hvi,nei]
 subst hQ
 refine xblock ?_
 refine xsr fun Q' hQ=>?_
 simp [hts]
 subst hQ
 refine xno (by simp [hts]) ?_
 refine xsr fun Q' hQ=>?_
 simp [hts]
 subst hQ
 refine xno (by simp [hts]) ?_
 refine xseq ?_
 refine xsr fun Q' hQ=>?_
 simp [hts]
 subst hQ
 refine xno (by simp [hts]) ?_
 refine xsr fun Q' hQ=>?_
 simp [hts]
 subst hQ
 refine xno (by simp [hts]) ?_
 refine xsr fun Q' hQ=>?_
 simp [hts]
 subst hQ
 refine xno (by simp [hts]) ?_
 refine xregQ fun Q' hQ=>?_
 simp [hts]
 subst hQ
 rw [thenA_normal]
 refine xno (by simp [hts]) ?_
 refine xsr fun Q' hQ=>?_
 simp [hts]
 subst hQ
 refine xno (by simp [hts]) ?_
 refine xsr fun Q' hQ=>?_
 simp [hts]
 subst hQ
 refine xno (by simp [hts]) ?_
 refine xseq ?_
 refine xsr fun Q' hQ=>?_
 simp [hts]
 subst hQ
 refine xno (by simp [hts]) ?_
 refine xsr fun Q' hQ=>?_
 simp [hts]
 subst hQ
 refine xno (by simp [hts]) ?_
 refine xregQ fun Q' hQ=>?_
 simp [hts]
 subst hQ
 rw [thenA_normal]
 refine xyes (by simp [hts]) ?_
 refine xsr fun Q' hQ=>?_
 simp [hts,h0,h1,h3,vw_stM_same,vw_stM_ne,spl,stOk,oneC,hvi,nei]
 subst hQ
 refine xregQ fun Q' hQ=>?_
 simp [hts,h0,h1,h3,vw_stM_same,vw_stM_ne,spl,stOk,oneC,hvi,nei]
 subst hQ
 refine⟨rfl,?_,?_,?_,?_⟩
 ·exact (Old.st (Old.st hO (by omega) _ _) (by omega) _ _)
 ·rw [vw_stM_ne (by omega),vw_stM_ne (by omega)];exact h2
 ·simp [h3,vw_stM_same,vw_stM_ne,spl,stOk,oneC,stepF,stpCells,stp0,i0,n0]
 ·exact⟨x0,.int .i64 n,x2,_,x4,_,Sl.mk rfl (by simp [hts])⟩
theorem rstep_k12 {N0:Nat} {m:Mem} {n:Int} {f:Fs} {a1 a2 a3:Option Addr} (hF:FsV N0 m f (.agg ⟨fsC f a1 a2 a3⟩)) (hS:Shape 12 f):CallsA tb 79 [.agg ⟨rowCells 12⟩,.int .i64 n,.agg ⟨fsC f a1 a2 a3⟩] m (retR (StepFR 12 n f a1 a3 m)):=by
 obtain⟨o1,o2,o3⟩:=hF.parts
 obtain⟨ints,nats,way,text⟩:=f
 have hS':=hS.resolve_left (by decide)
 simp only [iN,nN] at hS'
 obtain⟨y0,y1,rfl⟩:=len2 hS'.1
 obtain⟨z0,rfl⟩:=len1 hS'.2.1
 have hmk:=hS'.2.2 trivial
 have hwm:IntKind.wrap .u32 z0=z0:=wru32 _ hmk.1 (by have:=hmk.2;simp only [n0,List.getD_cons_zero] at this;omega)
 refine callsS Tryz.func79 e79 rfl rfl ?_
 simp only [List.length_cons,List.length_nil,List.cons_append,List.nil_append,Nat.reduceAdd]
 refine front79 fun l ts m2 x0 x2 x4 hts S hl=>?_
 obtain⟨hO,-,h0,h1,h2,h3⟩:=S
 subst hl
 refine xseqN (fun l ds m'=>ds=[]∧Old m.next m m'∧vw m' (m.next+2)=some ⟨true,36,false,stpCells stp0 (.slice none 0 0) (.slice none 0 0)⟩∧vw m' (m.next+3)=some ⟨true,36,false,stpCells (stepF 12 n ⟨[y0,y1],[z0],way,text⟩) (.slice none 0 0) (.slice none 0 0)⟩∧∃ x0 x1 x2 x3 x4 x5,Sl [x0,x1,x2,x3,x4,x5,.pointer (some ⟨m.next+2,0,none⟩),.pointer (some ⟨m.next+3,0,none⟩)] 157 l) ?_ ?_
 ·rintro l ds m3 ⟨rfl,hO3,hv2,hv3,x0,x1,x2,x3,x4,x5,us,hus,rfl⟩
  exact tail79 hO3 hv2 hv3 rfl rfl rfl rfl hus
 simp only [rowCells,wordOf,formOf,fsC,stpCells,stp0,List.length_cons,List.length_nil,Nat.zero_add,Nat.reduceAdd] at h0 h1 h3
 obtain⟨r0,hr0⟩:∃ r0,r0=m.next:=⟨_,rfl⟩
 rw [← hr0] at h0 h1 h2 h3 hO ⊢
 obtain⟨bi,ei,hbi,hvi⟩:=own_at o1 (by simp) (hr0▸hO)
 obtain rfl:a1=some ⟨bi,0,none⟩:=by cases ei;rfl
 simp only [i64s,List.map_cons,List.map_nil,List.length_cons,List.length_nil,Nat.zero_add,Nat.reduceAdd] at hvi
 have nei:¬ bi=r0+3:=by omega
 obtain⟨bn,en,hbn,hvn⟩:=own_at o2 (by simp) (hr0▸hO)
 obtain rfl:a2=some ⟨bn,0,none⟩:=by cases en;rfl
 simp only [u64s,List.map_cons,List.map_nil,List.length_cons,List.length_nil,Nat.zero_add,Nat.reduceAdd] at hvn
 have nen:¬ bn=r0+3:=by omega
 refine xsr fun Q' hQ=>?_
 simp [hts,h0,h1,h3,vw_stM_same,vw_stM_ne,spl,stOk,oneC,hvi,nei,hvn,nen,hwm]
 subst hQ
 refine xblock ?_
 refine xsr fun Q' hQ=>?_
 simp [hts]
 subst hQ
 refine xno (by simp [hts]) ?_
 refine xsr fun Q' hQ=>?_
 simp [hts]
 subst hQ
 refine xno (by simp [hts]) ?_
 refine xseq ?_
 refine xsr fun Q' hQ=>?_
 simp [hts]
 subst hQ
 refine xno (by simp [hts]) ?_
 refine xsr fun Q' hQ=>?_
 simp [hts]
 subst hQ
 refine xno (by simp [hts]) ?_
 refine xsr fun Q' hQ=>?_
 simp [hts]
 subst hQ
 refine xno (by simp [hts]) ?_
 refine xregQ fun Q' hQ=>?_
 simp [hts]
 subst hQ
 rw [thenA_normal]
 refine xno (by simp [hts]) ?_
 refine xsr fun Q' hQ=>?_
 simp [hts]
 subst hQ
 refine xno (by simp [hts]) ?_
 refine xsr fun Q' hQ=>?_
 simp [hts]
 subst hQ
 refine xno (by simp [hts]) ?_
 refine xseq ?_
 refine xsr fun Q' hQ=>?_
 simp [hts]
 subst hQ
 refine xno (by simp [hts]) ?_
 refine xsr fun Q' hQ=>?_
 simp [hts]
 subst hQ
 refine xno (by simp [hts]) ?_
 refine xregQ fun Q' hQ=>?_
 simp [hts]
 subst hQ
 rw [thenA_normal]
 refine xno (by simp [hts]) ?_
 refine xsr fun Q' hQ=>?_
 simp [hts]
 subst hQ
 refine xyes (by simp [hts]) ?_
 refine xsr fun Q' hQ=>?_
 simp [hts,h0,h1,h3,vw_stM_same,vw_stM_ne,spl,stOk,oneC,hvi,nei,hvn,nen,hwm]
 subst hQ
 refine xsr fun Q' hQ=>?_
 simp [hts,h0,h1,h3,vw_stM_same,vw_stM_ne,spl,stOk,oneC,hvi,nei,hvn,nen,hwm]
 subst hQ
 refine xsr fun Q' hQ=>?_
 simp [hts,h0,h1,h3,vw_stM_same,vw_stM_ne,spl,stOk,oneC,hvi,nei,hvn,nen,hwm]
 subst hQ
 refine xregQ fun Q' hQ=>?_
 simp [hts,h0,h1,h3,vw_stM_same,vw_stM_ne,spl,stOk,oneC,hvi,nei,hvn,nen,hwm]
 subst hQ
 refine⟨rfl,?_,?_,?_,?_⟩
 ·exact (Old.st (Old.st (Old.st (Old.st hO (by omega) _ _) (by omega) _ _) (by omega) _ _) (by omega) _ _)
 ·rw [vw_stM_ne (by omega),vw_stM_ne (by omega),vw_stM_ne (by omega),vw_stM_ne (by omega)];exact h2
 ·simp [h3,vw_stM_same,vw_stM_ne,spl,stOk,oneC,stepF,stpCells,stp0,i0,n0,hwm]
 ·exact⟨x0,.int .i64 n,x2,_,x4,_,Sl.mk rfl (by simp [hts])⟩
theorem rstep_k13 {N0:Nat} {m:Mem} {n:Int} {f:Fs} {a1 a2 a3:Option Addr} (hF:FsV N0 m f (.agg ⟨fsC f a1 a2 a3⟩)) (hS:Shape 13 f):CallsA tb 79 [.agg ⟨rowCells 13⟩,.int .i64 n,.agg ⟨fsC f a1 a2 a3⟩] m (retR (StepFR 13 n f a1 a3 m)):=by
 obtain⟨o1,o2,o3⟩:=hF.parts
 obtain⟨ints,nats,way,text⟩:=f
 have hS':=hS.resolve_left (by decide)
 simp only [iN,nN] at hS'
 obtain⟨y0,rfl⟩:=len1 hS'.1
 obtain rfl:=List.length_eq_zero_iff.1 hS'.2.1
 refine callsS Tryz.func79 e79 rfl rfl ?_
 simp only [List.length_cons,List.length_nil,List.cons_append,List.nil_append,Nat.reduceAdd]
 refine front79 fun l ts m2 x0 x2 x4 hts S hl=>?_
 obtain⟨hO,-,h0,h1,h2,h3⟩:=S
 subst hl
 refine xseqN (fun l ds m'=>ds=[]∧Old m.next m m'∧vw m' (m.next+2)=some ⟨true,36,false,stpCells stp0 (.slice none 0 0) (.slice none 0 0)⟩∧vw m' (m.next+3)=some ⟨true,36,false,stpCells (stepF 13 n ⟨[y0],[],way,text⟩) (.slice none 0 0) (.slice none 0 0)⟩∧∃ x0 x1 x2 x3 x4 x5,Sl [x0,x1,x2,x3,x4,x5,.pointer (some ⟨m.next+2,0,none⟩),.pointer (some ⟨m.next+3,0,none⟩)] 157 l) ?_ ?_
 ·rintro l ds m3 ⟨rfl,hO3,hv2,hv3,x0,x1,x2,x3,x4,x5,us,hus,rfl⟩
  exact tail79 hO3 hv2 hv3 rfl rfl rfl rfl hus
 simp only [rowCells,wordOf,formOf,fsC,stpCells,stp0,List.length_cons,List.length_nil,Nat.zero_add,Nat.reduceAdd] at h0 h1 h3
 obtain⟨r0,hr0⟩:∃ r0,r0=m.next:=⟨_,rfl⟩
 rw [← hr0] at h0 h1 h2 h3 hO ⊢
 obtain⟨bi,ei,hbi,hvi⟩:=own_at o1 (by simp) (hr0▸hO)
 obtain rfl:a1=some ⟨bi,0,none⟩:=by cases ei;rfl
 simp only [i64s,List.map_cons,List.map_nil,List.length_cons,List.length_nil,Nat.zero_add,Nat.reduceAdd] at hvi
 have nei:¬ bi=r0+3:=by omega
 refine xsr fun Q' hQ=>?_
 simp [hts,h0,h1,h3,vw_stM_same,vw_stM_ne,spl,stOk,oneC,hvi,nei]
 subst hQ
 refine xblock ?_
 refine xsr fun Q' hQ=>?_
 simp [hts]
 subst hQ
 refine xno (by simp [hts]) ?_
 refine xsr fun Q' hQ=>?_
 simp [hts]
 subst hQ
 refine xno (by simp [hts]) ?_
 refine xseq ?_
 refine xsr fun Q' hQ=>?_
 simp [hts]
 subst hQ
 refine xno (by simp [hts]) ?_
 refine xsr fun Q' hQ=>?_
 simp [hts]
 subst hQ
 refine xno (by simp [hts]) ?_
 refine xsr fun Q' hQ=>?_
 simp [hts]
 subst hQ
 refine xno (by simp [hts]) ?_
 refine xregQ fun Q' hQ=>?_
 simp [hts]
 subst hQ
 rw [thenA_normal]
 refine xno (by simp [hts]) ?_
 refine xsr fun Q' hQ=>?_
 simp [hts]
 subst hQ
 refine xno (by simp [hts]) ?_
 refine xsr fun Q' hQ=>?_
 simp [hts]
 subst hQ
 refine xno (by simp [hts]) ?_
 refine xseq ?_
 refine xsr fun Q' hQ=>?_
 simp [hts]
 subst hQ
 refine xno (by simp [hts]) ?_
 refine xsr fun Q' hQ=>?_
 simp [hts]
 subst hQ
 refine xno (by simp [hts]) ?_
 refine xregQ fun Q' hQ=>?_
 simp [hts]
 subst hQ
 rw [thenA_normal]
 refine xno (by simp [hts]) ?_
 refine xsr fun Q' hQ=>?_
 simp [hts]
 subst hQ
 refine xno (by simp [hts]) ?_
 refine xsr fun Q' hQ=>?_
 simp [hts]
 subst hQ
 refine xyes (by simp [hts]) ?_
 refine xregQ fun Q' hQ=>?_
 simp [hts,h0,h1,h3,vw_stM_same,vw_stM_ne,spl,stOk,oneC,hvi,nei]
 subst hQ
 refine⟨rfl,?_,?_,?_,?_⟩
 ·exact (Old.st hO (by omega) _ _)
 ·rw [vw_stM_ne (by omega)];exact h2
 ·simp [h3,vw_stM_same,vw_stM_ne,spl,stOk,oneC,stepF,stpCells,stp0,i0,n0]
 ·exact⟨x0,.int .i64 n,x2,_,x4,_,Sl.mk rfl (by simp [hts])⟩
theorem rstep_k14 {N0:Nat} {m:Mem} {n:Int} {f:Fs} {a1 a2 a3:Option Addr} (hF:FsV N0 m f (.agg ⟨fsC f a1 a2 a3⟩)) (hS:Shape 14 f):CallsA tb 79 [.agg ⟨rowCells 14⟩,.int .i64 n,.agg ⟨fsC f a1 a2 a3⟩] m (retR (StepFR 14 n f a1 a3 m)):=by
 obtain⟨o1,o2,o3⟩:=hF.parts
 obtain⟨ints,nats,way,text⟩:=f
 refine callsS Tryz.func79 e79 rfl rfl ?_
 simp only [List.length_cons,List.length_nil,List.cons_append,List.nil_append,Nat.reduceAdd]
 refine front79 fun l ts m2 x0 x2 x4 hts S hl=>?_
 obtain⟨hO,-,h0,h1,h2,h3⟩:=S
 subst hl
 refine xseqN (fun l ds m'=>ds=[]∧Old m.next m m'∧vw m' (m.next+2)=some ⟨true,36,false,stpCells stp0 (.slice none 0 0) (.slice none 0 0)⟩∧vw m' (m.next+3)=some ⟨true,36,false,stpCells (stepF 14 n ⟨ints,nats,way,text⟩) (.slice none 0 0) (.slice a1 ints.length ints.length)⟩∧∃ x0 x1 x2 x3 x4 x5,Sl [x0,x1,x2,x3,x4,x5,.pointer (some ⟨m.next+2,0,none⟩),.pointer (some ⟨m.next+3,0,none⟩)] 157 l) ?_ ?_
 ·rintro l ds m3 ⟨rfl,hO3,hv2,hv3,x0,x1,x2,x3,x4,x5,us,hus,rfl⟩
  exact tail79 hO3 hv2 hv3 rfl rfl rfl rfl hus
 simp only [rowCells,wordOf,formOf,fsC,stpCells,stp0,List.length_cons,List.length_nil,Nat.zero_add,Nat.reduceAdd] at h0 h1 h3
 obtain⟨r0,hr0⟩:∃ r0,r0=m.next:=⟨_,rfl⟩
 rw [← hr0] at h0 h1 h2 h3 hO ⊢
 refine xsr fun Q' hQ=>?_
 simp [hts,h0,h1,h3,vw_stM_same,vw_stM_ne,spl,stOk,oneC]
 subst hQ
 refine xblock ?_
 refine xsr fun Q' hQ=>?_
 simp [hts]
 subst hQ
 refine xno (by simp [hts]) ?_
 refine xsr fun Q' hQ=>?_
 simp [hts]
 subst hQ
 refine xno (by simp [hts]) ?_
 refine xseq ?_
 refine xsr fun Q' hQ=>?_
 simp [hts]
 subst hQ
 refine xno (by simp [hts]) ?_
 refine xsr fun Q' hQ=>?_
 simp [hts]
 subst hQ
 refine xno (by simp [hts]) ?_
 refine xsr fun Q' hQ=>?_
 simp [hts]
 subst hQ
 refine xno (by simp [hts]) ?_
 refine xregQ fun Q' hQ=>?_
 simp [hts]
 subst hQ
 rw [thenA_normal]
 refine xno (by simp [hts]) ?_
 refine xsr fun Q' hQ=>?_
 simp [hts]
 subst hQ
 refine xno (by simp [hts]) ?_
 refine xsr fun Q' hQ=>?_
 simp [hts]
 subst hQ
 refine xno (by simp [hts]) ?_
 refine xseq ?_
 refine xsr fun Q' hQ=>?_
 simp [hts]
 subst hQ
 refine xno (by simp [hts]) ?_
 refine xsr fun Q' hQ=>?_
 simp [hts]
 subst hQ
 refine xno (by simp [hts]) ?_
 refine xregQ fun Q' hQ=>?_
 simp [hts]
 subst hQ
 rw [thenA_normal]
 refine xno (by simp [hts]) ?_
 refine xsr fun Q' hQ=>?_
 simp [hts]
 subst hQ
 refine xno (by simp [hts]) ?_
 refine xsr fun Q' hQ=>?_
 simp [hts]
 subst hQ
 refine xno (by simp [hts]) ?_
 refine xsr fun Q' hQ=>?_
 simp [hts]
 subst hQ
 refine xyes (by simp [hts]) ?_
 refine xregQ fun Q' hQ=>?_
 simp [hts,h0,h1,h3,vw_stM_same,vw_stM_ne,spl,stOk,oneC]
 subst hQ
 refine⟨rfl,?_,?_,?_,?_⟩
 ·exact (Old.st hO (by omega) _ _)
 ·rw [vw_stM_ne (by omega)];exact h2
 ·simp [h3,vw_stM_same,vw_stM_ne,spl,stOk,oneC,stepF,stpCells,stp0,i0,n0]
 ·exact⟨x0,.int .i64 n,x2,_,x4,_,Sl.mk rfl (by simp [hts])⟩
theorem rstep_k15 {N0:Nat} {m:Mem} {n:Int} {f:Fs} {a1 a2 a3:Option Addr} (hF:FsV N0 m f (.agg ⟨fsC f a1 a2 a3⟩)) (hS:Shape 15 f):CallsA tb 79 [.agg ⟨rowCells 15⟩,.int .i64 n,.agg ⟨fsC f a1 a2 a3⟩] m (retR (StepFR 15 n f a1 a3 m)):=by
 obtain⟨o1,o2,o3⟩:=hF.parts
 obtain⟨ints,nats,way,text⟩:=f
 have hS':=hS.resolve_left (by decide)
 simp only [iN,nN] at hS'
 obtain rfl:=List.length_eq_zero_iff.1 hS'.1
 obtain rfl:=List.length_eq_zero_iff.1 hS'.2.1
 refine callsS Tryz.func79 e79 rfl rfl ?_
 simp only [List.length_cons,List.length_nil,List.cons_append,List.nil_append,Nat.reduceAdd]
 refine front79 fun l ts m2 x0 x2 x4 hts S hl=>?_
 obtain⟨hO,-,h0,h1,h2,h3⟩:=S
 subst hl
 refine xseqN (fun l ds m'=>ds=[]∧Old m.next m m'∧vw m' (m.next+2)=some ⟨true,36,false,stpCells stp0 (.slice none 0 0) (.slice none 0 0)⟩∧vw m' (m.next+3)=some ⟨true,36,false,stpCells (stepF 15 n ⟨[],[],way,text⟩) (.slice none 0 0) (.slice none 0 0)⟩∧∃ x0 x1 x2 x3 x4 x5,Sl [x0,x1,x2,x3,x4,x5,.pointer (some ⟨m.next+2,0,none⟩),.pointer (some ⟨m.next+3,0,none⟩)] 157 l) ?_ ?_
 ·rintro l ds m3 ⟨rfl,hO3,hv2,hv3,x0,x1,x2,x3,x4,x5,us,hus,rfl⟩
  exact tail79 hO3 hv2 hv3 rfl rfl rfl rfl hus
 simp only [rowCells,wordOf,formOf,fsC,stpCells,stp0,List.length_cons,List.length_nil,Nat.zero_add,Nat.reduceAdd] at h0 h1 h3
 obtain⟨r0,hr0⟩:∃ r0,r0=m.next:=⟨_,rfl⟩
 rw [← hr0] at h0 h1 h2 h3 hO ⊢
 refine xsr fun Q' hQ=>?_
 simp [hts,h0,h1,h3,vw_stM_same,vw_stM_ne,spl,stOk,oneC]
 subst hQ
 refine xblock ?_
 refine xsr fun Q' hQ=>?_
 simp [hts]
 subst hQ
 refine xno (by simp [hts]) ?_
 refine xsr fun Q' hQ=>?_
 simp [hts]
 subst hQ
 refine xno (by simp [hts]) ?_
 refine xseq ?_
 refine xsr fun Q' hQ=>?_
 simp [hts]
 subst hQ
 refine xno (by simp [hts]) ?_
 refine xsr fun Q' hQ=>?_
 simp [hts]
 subst hQ
 refine xno (by simp [hts]) ?_
 refine xsr fun Q' hQ=>?_
 simp [hts]
 subst hQ
 refine xno (by simp [hts]) ?_
 refine xregQ fun Q' hQ=>?_
 simp [hts]
 subst hQ
 rw [thenA_normal]
 refine xno (by simp [hts]) ?_
 refine xsr fun Q' hQ=>?_
 simp [hts]
 subst hQ
 refine xno (by simp [hts]) ?_
 refine xsr fun Q' hQ=>?_
 simp [hts]
 subst hQ
 refine xno (by simp [hts]) ?_
 refine xseq ?_
 refine xsr fun Q' hQ=>?_
 simp [hts]
 subst hQ
 refine xno (by simp [hts]) ?_
 refine xsr fun Q' hQ=>?_
 simp [hts]
 subst hQ
 refine xno (by simp [hts]) ?_
 refine xregQ fun Q' hQ=>?_
 simp [hts]
 subst hQ
 rw [thenA_normal]
 refine xno (by simp [hts]) ?_
 refine xsr fun Q' hQ=>?_
 simp [hts]
 subst hQ
 refine xno (by simp [hts]) ?_
 refine xsr fun Q' hQ=>?_
 simp [hts]
 subst hQ
 refine xno (by simp [hts]) ?_
 refine xsr fun Q' hQ=>?_
 simp [hts]
 subst hQ
 refine xno (by simp [hts]) ?_
 refine xseq ?_
 refine xsr fun Q' hQ=>?_
 simp [hts]
 subst hQ
 refine xno (by simp [hts]) ?_
 refine xsr fun Q' hQ=>?_
 simp [hts]
 subst hQ
 refine xno (by simp [hts]) ?_
 refine xsr fun Q' hQ=>?_
 simp [hts]
 subst hQ
 refine xno (by simp [hts]) ?_
 refine xregQ fun Q' hQ=>?_
 simp [hts]
 subst hQ
 rw [thenA_normal]
 refine xno (by simp [hts]) ?_
 refine xsr fun Q' hQ=>?_
 simp [hts]
 subst hQ
 refine xno (by simp [hts]) ?_
 refine xsr fun Q' hQ=>?_
 simp [hts]
 subst hQ
 refine xno (by simp [hts]) (xskip ?_)
 refine⟨rfl,?_,?_,?_,?_⟩
 ·exact hO
 ·exact h2
 ·simp [h3,vw_stM_same,vw_stM_ne,spl,stOk,oneC,stepF,stpCells,stp0,i0,n0]
 ·exact⟨x0,.int .i64 n,x2,_,x4,_,Sl.mk rfl (by simp [hts])⟩
theorem rstep_k16 {N0:Nat} {m:Mem} {n:Int} {f:Fs} {a1 a2 a3:Option Addr} (hF:FsV N0 m f (.agg ⟨fsC f a1 a2 a3⟩)) (hS:Shape 16 f):CallsA tb 79 [.agg ⟨rowCells 16⟩,.int .i64 n,.agg ⟨fsC f a1 a2 a3⟩] m (retR (StepFR 16 n f a1 a3 m)):=by
 obtain⟨o1,o2,o3⟩:=hF.parts
 obtain⟨ints,nats,way,text⟩:=f
 have hS':=hS.resolve_left (by decide)
 simp only [iN,nN] at hS'
 obtain⟨y0,rfl⟩:=len1 hS'.1
 obtain rfl:=List.length_eq_zero_iff.1 hS'.2.1
 refine callsS Tryz.func79 e79 rfl rfl ?_
 simp only [List.length_cons,List.length_nil,List.cons_append,List.nil_append,Nat.reduceAdd]
 refine front79 fun l ts m2 x0 x2 x4 hts S hl=>?_
 obtain⟨hO,-,h0,h1,h2,h3⟩:=S
 subst hl
 refine xseqN (fun l ds m'=>ds=[]∧Old m.next m m'∧vw m' (m.next+2)=some ⟨true,36,false,stpCells stp0 (.slice none 0 0) (.slice none 0 0)⟩∧vw m' (m.next+3)=some ⟨true,36,false,stpCells (stepF 16 n ⟨[y0],[],way,text⟩) (.slice none 0 0) (.slice none 0 0)⟩∧∃ x0 x1 x2 x3 x4 x5,Sl [x0,x1,x2,x3,x4,x5,.pointer (some ⟨m.next+2,0,none⟩),.pointer (some ⟨m.next+3,0,none⟩)] 157 l) ?_ ?_
 ·rintro l ds m3 ⟨rfl,hO3,hv2,hv3,x0,x1,x2,x3,x4,x5,us,hus,rfl⟩
  exact tail79 hO3 hv2 hv3 rfl rfl rfl rfl hus
 simp only [rowCells,wordOf,formOf,fsC,stpCells,stp0,List.length_cons,List.length_nil,Nat.zero_add,Nat.reduceAdd] at h0 h1 h3
 obtain⟨r0,hr0⟩:∃ r0,r0=m.next:=⟨_,rfl⟩
 rw [← hr0] at h0 h1 h2 h3 hO ⊢
 obtain⟨bi,ei,hbi,hvi⟩:=own_at o1 (by simp) (hr0▸hO)
 obtain rfl:a1=some ⟨bi,0,none⟩:=by cases ei;rfl
 simp only [i64s,List.map_cons,List.map_nil,List.length_cons,List.length_nil,Nat.zero_add,Nat.reduceAdd] at hvi
 have nei:¬ bi=r0+3:=by omega
 refine xsr fun Q' hQ=>?_
 simp [hts,h0,h1,h3,vw_stM_same,vw_stM_ne,spl,stOk,oneC,hvi,nei]
 subst hQ
 refine xblock ?_
 refine xsr fun Q' hQ=>?_
 simp [hts]
 subst hQ
 refine xno (by simp [hts]) ?_
 refine xsr fun Q' hQ=>?_
 simp [hts]
 subst hQ
 refine xno (by simp [hts]) ?_
 refine xseq ?_
 refine xsr fun Q' hQ=>?_
 simp [hts]
 subst hQ
 refine xno (by simp [hts]) ?_
 refine xsr fun Q' hQ=>?_
 simp [hts]
 subst hQ
 refine xno (by simp [hts]) ?_
 refine xsr fun Q' hQ=>?_
 simp [hts]
 subst hQ
 refine xno (by simp [hts]) ?_
 refine xregQ fun Q' hQ=>?_
 simp [hts]
 subst hQ
 rw [thenA_normal]
 refine xyes (by simp [hts]) ?_
 refine xregQ fun Q' hQ=>?_
 simp [hts,h0,h1,h3,vw_stM_same,vw_stM_ne,spl,stOk,oneC,hvi,nei]
 subst hQ
 refine⟨rfl,?_,?_,?_,?_⟩
 ·exact (Old.st hO (by omega) _ _)
 ·rw [vw_stM_ne (by omega)];exact h2
 ·simp [h3,vw_stM_same,vw_stM_ne,spl,stOk,oneC,stepF,stpCells,stp0,i0,n0]
 ·exact⟨x0,.int .i64 n,x2,_,x4,_,Sl.mk rfl (by simp [hts])⟩
theorem rstep_k17 {N0:Nat} {m:Mem} {n:Int} {f:Fs} {a1 a2 a3:Option Addr} (hF:FsV N0 m f (.agg ⟨fsC f a1 a2 a3⟩)) (hS:Shape 17 f):CallsA tb 79 [.agg ⟨rowCells 17⟩,.int .i64 n,.agg ⟨fsC f a1 a2 a3⟩] m (retR (StepFR 17 n f a1 a3 m)):=by
 obtain⟨o1,o2,o3⟩:=hF.parts
 obtain⟨ints,nats,way,text⟩:=f
 have hS':=hS.resolve_left (by decide)
 simp only [iN,nN] at hS'
 obtain⟨y0,rfl⟩:=len1 hS'.1
 obtain rfl:=List.length_eq_zero_iff.1 hS'.2.1
 refine callsS Tryz.func79 e79 rfl rfl ?_
 simp only [List.length_cons,List.length_nil,List.cons_append,List.nil_append,Nat.reduceAdd]
 refine front79 fun l ts m2 x0 x2 x4 hts S hl=>?_
 obtain⟨hO,-,h0,h1,h2,h3⟩:=S
 subst hl
 refine xseqN (fun l ds m'=>ds=[]∧Old m.next m m'∧vw m' (m.next+2)=some ⟨true,36,false,stpCells stp0 (.slice none 0 0) (.slice none 0 0)⟩∧vw m' (m.next+3)=some ⟨true,36,false,stpCells (stepF 17 n ⟨[y0],[],way,text⟩) (.slice none 0 0) (.slice none 0 0)⟩∧∃ x0 x1 x2 x3 x4 x5,Sl [x0,x1,x2,x3,x4,x5,.pointer (some ⟨m.next+2,0,none⟩),.pointer (some ⟨m.next+3,0,none⟩)] 157 l) ?_ ?_
 ·rintro l ds m3 ⟨rfl,hO3,hv2,hv3,x0,x1,x2,x3,x4,x5,us,hus,rfl⟩
  exact tail79 hO3 hv2 hv3 rfl rfl rfl rfl hus
 simp only [rowCells,wordOf,formOf,fsC,stpCells,stp0,List.length_cons,List.length_nil,Nat.zero_add,Nat.reduceAdd] at h0 h1 h3
 obtain⟨r0,hr0⟩:∃ r0,r0=m.next:=⟨_,rfl⟩
 rw [← hr0] at h0 h1 h2 h3 hO ⊢
 obtain⟨bi,ei,hbi,hvi⟩:=own_at o1 (by simp) (hr0▸hO)
 obtain rfl:a1=some ⟨bi,0,none⟩:=by cases ei;rfl
 simp only [i64s,List.map_cons,List.map_nil,List.length_cons,List.length_nil,Nat.zero_add,Nat.reduceAdd] at hvi
 have nei:¬ bi=r0+3:=by omega
 refine xsr fun Q' hQ=>?_
 simp [hts,h0,h1,h3,vw_stM_same,vw_stM_ne,spl,stOk,oneC,hvi,nei]
 subst hQ
 refine xblock ?_
 refine xsr fun Q' hQ=>?_
 simp [hts]
 subst hQ
 refine xno (by simp [hts]) ?_
 refine xsr fun Q' hQ=>?_
 simp [hts]
 subst hQ
 refine xno (by simp [hts]) ?_
 refine xseq ?_
 refine xsr fun Q' hQ=>?_
 simp [hts]
 subst hQ
 refine xno (by simp [hts]) ?_
 refine xsr fun Q' hQ=>?_
 simp [hts]
 subst hQ
 refine xno (by simp [hts]) ?_
 refine xsr fun Q' hQ=>?_
 simp [hts]
 subst hQ
 refine xno (by simp [hts]) ?_
 refine xregQ fun Q' hQ=>?_
 simp [hts]
 subst hQ
 rw [thenA_normal]
 refine xno (by simp [hts]) ?_
 refine xsr fun Q' hQ=>?_
 simp [hts]
 subst hQ
 refine xno (by simp [hts]) ?_
 refine xsr fun Q' hQ=>?_
 simp [hts]
 subst hQ
 refine xno (by simp [hts]) ?_
 refine xseq ?_
 refine xsr fun Q' hQ=>?_
 simp [hts]
 subst hQ
 refine xno (by simp [hts]) ?_
 refine xsr fun Q' hQ=>?_
 simp [hts]
 subst hQ
 refine xno (by simp [hts]) ?_
 refine xregQ fun Q' hQ=>?_
 simp [hts]
 subst hQ
 rw [thenA_normal]
 refine xno (by simp [hts]) ?_
 refine xsr fun Q' hQ=>?_
 simp [hts]
 subst hQ
 refine xno (by simp [hts]) ?_
 refine xsr fun Q' hQ=>?_
 simp [hts]
 subst hQ
 refine xno (by simp [hts]) ?_
 refine xsr fun Q' hQ=>?_
 simp [hts]
 subst hQ
 refine xno (by simp [hts]) ?_
 refine xseq ?_
 refine xsr fun Q' hQ=>?_
 simp [hts]
 subst hQ
 refine xyes (by simp [hts]) (xskip ?_)
 rw [thenA_normal]
 refine xyes (by simp [hts]) ?_
 refine xregQ fun Q' hQ=>?_
 simp [hts,h0,h1,h3,vw_stM_same,vw_stM_ne,spl,stOk,oneC,hvi,nei]
 subst hQ
 refine⟨rfl,?_,?_,?_,?_⟩
 ·exact (Old.st hO (by omega) _ _)
 ·rw [vw_stM_ne (by omega)];exact h2
 ·simp [h3,vw_stM_same,vw_stM_ne,spl,stOk,oneC,stepF,stpCells,stp0,i0,n0]
 ·exact⟨x0,.int .i64 n,x2,_,x4,_,Sl.mk rfl (by simp [hts])⟩
theorem rstep_k18 {N0:Nat} {m:Mem} {n:Int} {f:Fs} {a1 a2 a3:Option Addr} (hF:FsV N0 m f (.agg ⟨fsC f a1 a2 a3⟩)) (hS:Shape 18 f):CallsA tb 79 [.agg ⟨rowCells 18⟩,.int .i64 n,.agg ⟨fsC f a1 a2 a3⟩] m (retR (StepFR 18 n f a1 a3 m)):=by
 obtain⟨o1,o2,o3⟩:=hF.parts
 obtain⟨ints,nats,way,text⟩:=f
 have hS':=hS.resolve_left (by decide)
 simp only [iN,nN] at hS'
 obtain⟨y0,rfl⟩:=len1 hS'.1
 obtain⟨z0,rfl⟩:=len1 hS'.2.1
 refine callsS Tryz.func79 e79 rfl rfl ?_
 simp only [List.length_cons,List.length_nil,List.cons_append,List.nil_append,Nat.reduceAdd]
 refine front79 fun l ts m2 x0 x2 x4 hts S hl=>?_
 obtain⟨hO,-,h0,h1,h2,h3⟩:=S
 subst hl
 refine xseqN (fun l ds m'=>ds=[]∧Old m.next m m'∧vw m' (m.next+2)=some ⟨true,36,false,stpCells stp0 (.slice none 0 0) (.slice none 0 0)⟩∧vw m' (m.next+3)=some ⟨true,36,false,stpCells (stepF 18 n ⟨[y0],[z0],way,text⟩) (.slice none 0 0) (.slice none 0 0)⟩∧∃ x0 x1 x2 x3 x4 x5,Sl [x0,x1,x2,x3,x4,x5,.pointer (some ⟨m.next+2,0,none⟩),.pointer (some ⟨m.next+3,0,none⟩)] 157 l) ?_ ?_
 ·rintro l ds m3 ⟨rfl,hO3,hv2,hv3,x0,x1,x2,x3,x4,x5,us,hus,rfl⟩
  exact tail79 hO3 hv2 hv3 rfl rfl rfl rfl hus
 simp only [rowCells,wordOf,formOf,fsC,stpCells,stp0,List.length_cons,List.length_nil,Nat.zero_add,Nat.reduceAdd] at h0 h1 h3
 obtain⟨r0,hr0⟩:∃ r0,r0=m.next:=⟨_,rfl⟩
 rw [← hr0] at h0 h1 h2 h3 hO ⊢
 obtain⟨bi,ei,hbi,hvi⟩:=own_at o1 (by simp) (hr0▸hO)
 obtain rfl:a1=some ⟨bi,0,none⟩:=by cases ei;rfl
 simp only [i64s,List.map_cons,List.map_nil,List.length_cons,List.length_nil,Nat.zero_add,Nat.reduceAdd] at hvi
 have nei:¬ bi=r0+3:=by omega
 obtain⟨bn,en,hbn,hvn⟩:=own_at o2 (by simp) (hr0▸hO)
 obtain rfl:a2=some ⟨bn,0,none⟩:=by cases en;rfl
 simp only [u64s,List.map_cons,List.map_nil,List.length_cons,List.length_nil,Nat.zero_add,Nat.reduceAdd] at hvn
 have nen:¬ bn=r0+3:=by omega
 refine xsr fun Q' hQ=>?_
 simp [hts,h0,h1,h3,vw_stM_same,vw_stM_ne,spl,stOk,oneC,hvi,nei,hvn,nen]
 subst hQ
 refine xblock ?_
 refine xsr fun Q' hQ=>?_
 simp [hts]
 subst hQ
 refine xno (by simp [hts]) ?_
 refine xsr fun Q' hQ=>?_
 simp [hts]
 subst hQ
 refine xno (by simp [hts]) ?_
 refine xseq ?_
 refine xsr fun Q' hQ=>?_
 simp [hts]
 subst hQ
 refine xno (by simp [hts]) ?_
 refine xsr fun Q' hQ=>?_
 simp [hts]
 subst hQ
 refine xno (by simp [hts]) ?_
 refine xsr fun Q' hQ=>?_
 simp [hts]
 subst hQ
 refine xno (by simp [hts]) ?_
 refine xregQ fun Q' hQ=>?_
 simp [hts]
 subst hQ
 rw [thenA_normal]
 refine xno (by simp [hts]) ?_
 refine xsr fun Q' hQ=>?_
 simp [hts]
 subst hQ
 refine xno (by simp [hts]) ?_
 refine xsr fun Q' hQ=>?_
 simp [hts]
 subst hQ
 refine xno (by simp [hts]) ?_
 refine xseq ?_
 refine xsr fun Q' hQ=>?_
 simp [hts]
 subst hQ
 refine xno (by simp [hts]) ?_
 refine xsr fun Q' hQ=>?_
 simp [hts]
 subst hQ
 refine xno (by simp [hts]) ?_
 refine xregQ fun Q' hQ=>?_
 simp [hts]
 subst hQ
 rw [thenA_normal]
 refine xno (by simp [hts]) ?_
 refine xsr fun Q' hQ=>?_
 simp [hts]
 subst hQ
 refine xno (by simp [hts]) ?_
 refine xsr fun Q' hQ=>?_
 simp [hts]
 subst hQ
 refine xno (by simp [hts]) ?_
 refine xsr fun Q' hQ=>?_
 simp [hts]
 subst hQ
 refine xno (by simp [hts]) ?_
 refine xseq ?_
 refine xsr fun Q' hQ=>?_
 simp [hts]
 subst hQ
 refine xno (by simp [hts]) ?_
 refine xsr fun Q' hQ=>?_
 simp [hts]
 subst hQ
 refine xno (by simp [hts]) ?_
 refine xsr fun Q' hQ=>?_
 simp [hts]
 subst hQ
 refine xno (by simp [hts]) ?_
 refine xregQ fun Q' hQ=>?_
 simp [hts]
 subst hQ
 rw [thenA_normal]
 refine xno (by simp [hts]) ?_
 refine xsr fun Q' hQ=>?_
 simp [hts]
 subst hQ
 refine xyes (by simp [hts]) ?_
 refine xsr fun Q' hQ=>?_
 simp [hts,h0,h1,h3,vw_stM_same,vw_stM_ne,spl,stOk,oneC,hvi,nei,hvn,nen]
 subst hQ
 refine xregQ fun Q' hQ=>?_
 simp [hts,h0,h1,h3,vw_stM_same,vw_stM_ne,spl,stOk,oneC,hvi,nei,hvn,nen]
 subst hQ
 refine⟨rfl,?_,?_,?_,?_⟩
 ·exact (Old.st (Old.st hO (by omega) _ _) (by omega) _ _)
 ·rw [vw_stM_ne (by omega),vw_stM_ne (by omega)];exact h2
 ·simp [h3,vw_stM_same,vw_stM_ne,spl,stOk,oneC,stepF,stpCells,stp0,i0,n0]
 ·exact⟨x0,.int .i64 n,x2,_,x4,_,Sl.mk rfl (by simp [hts])⟩
theorem rstep_k19 {N0:Nat} {m:Mem} {n:Int} {f:Fs} {a1 a2 a3:Option Addr} (hF:FsV N0 m f (.agg ⟨fsC f a1 a2 a3⟩)) (hS:Shape 19 f):CallsA tb 79 [.agg ⟨rowCells 19⟩,.int .i64 n,.agg ⟨fsC f a1 a2 a3⟩] m (retR (StepFR 19 n f a1 a3 m)):=by
 obtain⟨o1,o2,o3⟩:=hF.parts
 obtain⟨ints,nats,way,text⟩:=f
 have hS':=hS.resolve_left (by decide)
 simp only [iN,nN] at hS'
 obtain⟨y0,rfl⟩:=len1 hS'.1
 obtain rfl:=List.length_eq_zero_iff.1 hS'.2.1
 refine callsS Tryz.func79 e79 rfl rfl ?_
 simp only [List.length_cons,List.length_nil,List.cons_append,List.nil_append,Nat.reduceAdd]
 refine front79 fun l ts m2 x0 x2 x4 hts S hl=>?_
 obtain⟨hO,-,h0,h1,h2,h3⟩:=S
 subst hl
 refine xseqN (fun l ds m'=>ds=[]∧Old m.next m m'∧vw m' (m.next+2)=some ⟨true,36,false,stpCells stp0 (.slice none 0 0) (.slice none 0 0)⟩∧vw m' (m.next+3)=some ⟨true,36,false,stpCells (stepF 19 n ⟨[y0],[],way,text⟩) (.slice none 0 0) (.slice none 0 0)⟩∧∃ x0 x1 x2 x3 x4 x5,Sl [x0,x1,x2,x3,x4,x5,.pointer (some ⟨m.next+2,0,none⟩),.pointer (some ⟨m.next+3,0,none⟩)] 157 l) ?_ ?_
 ·rintro l ds m3 ⟨rfl,hO3,hv2,hv3,x0,x1,x2,x3,x4,x5,us,hus,rfl⟩
  exact tail79 hO3 hv2 hv3 rfl rfl rfl rfl hus
 simp only [rowCells,wordOf,formOf,fsC,stpCells,stp0,List.length_cons,List.length_nil,Nat.zero_add,Nat.reduceAdd] at h0 h1 h3
 obtain⟨r0,hr0⟩:∃ r0,r0=m.next:=⟨_,rfl⟩
 rw [← hr0] at h0 h1 h2 h3 hO ⊢
 obtain⟨bi,ei,hbi,hvi⟩:=own_at o1 (by simp) (hr0▸hO)
 obtain rfl:a1=some ⟨bi,0,none⟩:=by cases ei;rfl
 simp only [i64s,List.map_cons,List.map_nil,List.length_cons,List.length_nil,Nat.zero_add,Nat.reduceAdd] at hvi
 have nei:¬ bi=r0+3:=by omega
 refine xsr fun Q' hQ=>?_
 simp [hts,h0,h1,h3,vw_stM_same,vw_stM_ne,spl,stOk,oneC,hvi,nei]
 subst hQ
 refine xblock ?_
 refine xsr fun Q' hQ=>?_
 simp [hts]
 subst hQ
 refine xno (by simp [hts]) ?_
 refine xsr fun Q' hQ=>?_
 simp [hts]
 subst hQ
 refine xno (by simp [hts]) ?_
 refine xseq ?_
 refine xsr fun Q' hQ=>?_
 simp [hts]
 subst hQ
 refine xno (by simp [hts]) ?_
 refine xsr fun Q' hQ=>?_
 simp [hts]
 subst hQ
 refine xno (by simp [hts]) ?_
 refine xsr fun Q' hQ=>?_
 simp [hts]
 subst hQ
 refine xno (by simp [hts]) ?_
 refine xregQ fun Q' hQ=>?_
 simp [hts]
 subst hQ
 rw [thenA_normal]
 refine xno (by simp [hts]) ?_
 refine xsr fun Q' hQ=>?_
 simp [hts]
 subst hQ
 refine xno (by simp [hts]) ?_
 refine xsr fun Q' hQ=>?_
 simp [hts]
 subst hQ
 refine xno (by simp [hts]) ?_
 refine xseq ?_
 refine xsr fun Q' hQ=>?_
 simp [hts]
 subst hQ
 refine xno (by simp [hts]) ?_
 refine xsr fun Q' hQ=>?_
 simp [hts]
 subst hQ
 refine xno (by simp [hts]) ?_
 refine xregQ fun Q' hQ=>?_
 simp [hts]
 subst hQ
 rw [thenA_normal]
 refine xno (by simp [hts]) ?_
 refine xsr fun Q' hQ=>?_
 simp [hts]
 subst hQ
 refine xno (by simp [hts]) ?_
 refine xsr fun Q' hQ=>?_
 simp [hts]
 subst hQ
 refine xno (by simp [hts]) ?_
 refine xsr fun Q' hQ=>?_
 simp [hts]
 subst hQ
 refine xno (by simp [hts]) ?_
 refine xseq ?_
 refine xsr fun Q' hQ=>?_
 simp [hts]
 subst hQ
 refine xno (by simp [hts]) ?_
 refine xsr fun Q' hQ=>?_
 simp [hts]
 subst hQ
 refine xyes (by simp [hts]) (xskip ?_)
 rw [thenA_normal]
 refine xyes (by simp [hts]) ?_
 refine xregQ fun Q' hQ=>?_
 simp [hts,h0,h1,h3,vw_stM_same,vw_stM_ne,spl,stOk,oneC,hvi,nei]
 subst hQ
 refine⟨rfl,?_,?_,?_,?_⟩
 ·exact (Old.st hO (by omega) _ _)
 ·rw [vw_stM_ne (by omega)];exact h2
 ·simp [h3,vw_stM_same,vw_stM_ne,spl,stOk,oneC,stepF,stpCells,stp0,i0,n0]
 ·exact⟨x0,.int .i64 n,x2,_,x4,_,Sl.mk rfl (by simp [hts])⟩
theorem rstep_k20 {N0:Nat} {m:Mem} {n:Int} {f:Fs} {a1 a2 a3:Option Addr} (hF:FsV N0 m f (.agg ⟨fsC f a1 a2 a3⟩)) (hS:Shape 20 f):CallsA tb 79 [.agg ⟨rowCells 20⟩,.int .i64 n,.agg ⟨fsC f a1 a2 a3⟩] m (retR (StepFR 20 n f a1 a3 m)):=by
 obtain⟨o1,o2,o3⟩:=hF.parts
 obtain⟨ints,nats,way,text⟩:=f
 have hS':=hS.resolve_left (by decide)
 simp only [iN,nN] at hS'
 obtain⟨y0,rfl⟩:=len1 hS'.1
 obtain rfl:=List.length_eq_zero_iff.1 hS'.2.1
 refine callsS Tryz.func79 e79 rfl rfl ?_
 simp only [List.length_cons,List.length_nil,List.cons_append,List.nil_append,Nat.reduceAdd]
 refine front79 fun l ts m2 x0 x2 x4 hts S hl=>?_
 obtain⟨hO,-,h0,h1,h2,h3⟩:=S
 subst hl
 refine xseqN (fun l ds m'=>ds=[]∧Old m.next m m'∧vw m' (m.next+2)=some ⟨true,36,false,stpCells stp0 (.slice none 0 0) (.slice none 0 0)⟩∧vw m' (m.next+3)=some ⟨true,36,false,stpCells (stepF 20 n ⟨[y0],[],way,text⟩) (.slice none 0 0) (.slice none 0 0)⟩∧∃ x0 x1 x2 x3 x4 x5,Sl [x0,x1,x2,x3,x4,x5,.pointer (some ⟨m.next+2,0,none⟩),.pointer (some ⟨m.next+3,0,none⟩)] 157 l) ?_ ?_
 ·rintro l ds m3 ⟨rfl,hO3,hv2,hv3,x0,x1,x2,x3,x4,x5,us,hus,rfl⟩
  exact tail79 hO3 hv2 hv3 rfl rfl rfl rfl hus
 simp only [rowCells,wordOf,formOf,fsC,stpCells,stp0,List.length_cons,List.length_nil,Nat.zero_add,Nat.reduceAdd] at h0 h1 h3
 obtain⟨r0,hr0⟩:∃ r0,r0=m.next:=⟨_,rfl⟩
 rw [← hr0] at h0 h1 h2 h3 hO ⊢
 obtain⟨bi,ei,hbi,hvi⟩:=own_at o1 (by simp) (hr0▸hO)
 obtain rfl:a1=some ⟨bi,0,none⟩:=by cases ei;rfl
 simp only [i64s,List.map_cons,List.map_nil,List.length_cons,List.length_nil,Nat.zero_add,Nat.reduceAdd] at hvi
 have nei:¬ bi=r0+3:=by omega
 refine xsr fun Q' hQ=>?_
 simp [hts,h0,h1,h3,vw_stM_same,vw_stM_ne,spl,stOk,oneC,hvi,nei]
 subst hQ
 refine xblock ?_
 refine xsr fun Q' hQ=>?_
 simp [hts]
 subst hQ
 refine xno (by simp [hts]) ?_
 refine xsr fun Q' hQ=>?_
 simp [hts]
 subst hQ
 refine xno (by simp [hts]) ?_
 refine xseq ?_
 refine xsr fun Q' hQ=>?_
 simp [hts]
 subst hQ
 refine xno (by simp [hts]) ?_
 refine xsr fun Q' hQ=>?_
 simp [hts]
 subst hQ
 refine xno (by simp [hts]) ?_
 refine xsr fun Q' hQ=>?_
 simp [hts]
 subst hQ
 refine xno (by simp [hts]) ?_
 refine xregQ fun Q' hQ=>?_
 simp [hts]
 subst hQ
 rw [thenA_normal]
 refine xno (by simp [hts]) ?_
 refine xsr fun Q' hQ=>?_
 simp [hts]
 subst hQ
 refine xno (by simp [hts]) ?_
 refine xsr fun Q' hQ=>?_
 simp [hts]
 subst hQ
 refine xno (by simp [hts]) ?_
 refine xseq ?_
 refine xsr fun Q' hQ=>?_
 simp [hts]
 subst hQ
 refine xno (by simp [hts]) ?_
 refine xsr fun Q' hQ=>?_
 simp [hts]
 subst hQ
 refine xno (by simp [hts]) ?_
 refine xregQ fun Q' hQ=>?_
 simp [hts]
 subst hQ
 rw [thenA_normal]
 refine xno (by simp [hts]) ?_
 refine xsr fun Q' hQ=>?_
 simp [hts]
 subst hQ
 refine xno (by simp [hts]) ?_
 refine xsr fun Q' hQ=>?_
 simp [hts]
 subst hQ
 refine xno (by simp [hts]) ?_
 refine xsr fun Q' hQ=>?_
 simp [hts]
 subst hQ
 refine xno (by simp [hts]) ?_
 refine xseq ?_
 refine xsr fun Q' hQ=>?_
 simp [hts]
 subst hQ
 refine xno (by simp [hts]) ?_
 refine xsr fun Q' hQ=>?_
 simp [hts]
 subst hQ
 refine xno (by simp [hts]) ?_
 refine xsr fun Q' hQ=>?_
 simp [hts]
 subst hQ
 refine xyes (by simp [hts]) (xskip ?_)
 rw [thenA_normal]
 refine xyes (by simp [hts]) ?_
 refine xregQ fun Q' hQ=>?_
 simp [hts,h0,h1,h3,vw_stM_same,vw_stM_ne,spl,stOk,oneC,hvi,nei]
 subst hQ
 refine⟨rfl,?_,?_,?_,?_⟩
 ·exact (Old.st hO (by omega) _ _)
 ·rw [vw_stM_ne (by omega)];exact h2
 ·simp [h3,vw_stM_same,vw_stM_ne,spl,stOk,oneC,stepF,stpCells,stp0,i0,n0]
 ·exact⟨x0,.int .i64 n,x2,_,x4,_,Sl.mk rfl (by simp [hts])⟩
theorem rstep_k21 {N0:Nat} {m:Mem} {n:Int} {f:Fs} {a1 a2 a3:Option Addr} (hF:FsV N0 m f (.agg ⟨fsC f a1 a2 a3⟩)) (hS:Shape 21 f):CallsA tb 79 [.agg ⟨rowCells 21⟩,.int .i64 n,.agg ⟨fsC f a1 a2 a3⟩] m (retR (StepFR 21 n f a1 a3 m)):=by
 obtain⟨o1,o2,o3⟩:=hF.parts
 obtain⟨ints,nats,way,text⟩:=f
 have hS':=hS.resolve_left (by decide)
 simp only [iN,nN] at hS'
 obtain⟨y0,rfl⟩:=len1 hS'.1
 obtain rfl:=List.length_eq_zero_iff.1 hS'.2.1
 refine callsS Tryz.func79 e79 rfl rfl ?_
 simp only [List.length_cons,List.length_nil,List.cons_append,List.nil_append,Nat.reduceAdd]
 refine front79 fun l ts m2 x0 x2 x4 hts S hl=>?_
 obtain⟨hO,-,h0,h1,h2,h3⟩:=S
 subst hl
 refine xseqN (fun l ds m'=>ds=[]∧Old m.next m m'∧vw m' (m.next+2)=some ⟨true,36,false,stpCells stp0 (.slice none 0 0) (.slice none 0 0)⟩∧vw m' (m.next+3)=some ⟨true,36,false,stpCells (stepF 21 n ⟨[y0],[],way,text⟩) (.slice none 0 0) (.slice none 0 0)⟩∧∃ x0 x1 x2 x3 x4 x5,Sl [x0,x1,x2,x3,x4,x5,.pointer (some ⟨m.next+2,0,none⟩),.pointer (some ⟨m.next+3,0,none⟩)] 157 l) ?_ ?_
 ·rintro l ds m3 ⟨rfl,hO3,hv2,hv3,x0,x1,x2,x3,x4,x5,us,hus,rfl⟩
  exact tail79 hO3 hv2 hv3 rfl rfl rfl rfl hus
 simp only [rowCells,wordOf,formOf,fsC,stpCells,stp0,List.length_cons,List.length_nil,Nat.zero_add,Nat.reduceAdd] at h0 h1 h3
 obtain⟨r0,hr0⟩:∃ r0,r0=m.next:=⟨_,rfl⟩
 rw [← hr0] at h0 h1 h2 h3 hO ⊢
 obtain⟨bi,ei,hbi,hvi⟩:=own_at o1 (by simp) (hr0▸hO)
 obtain rfl:a1=some ⟨bi,0,none⟩:=by cases ei;rfl
 simp only [i64s,List.map_cons,List.map_nil,List.length_cons,List.length_nil,Nat.zero_add,Nat.reduceAdd] at hvi
 have nei:¬ bi=r0+3:=by omega
 refine xsr fun Q' hQ=>?_
 simp [hts,h0,h1,h3,vw_stM_same,vw_stM_ne,spl,stOk,oneC,hvi,nei]
 subst hQ
 refine xblock ?_
 refine xsr fun Q' hQ=>?_
 simp [hts]
 subst hQ
 refine xno (by simp [hts]) ?_
 refine xsr fun Q' hQ=>?_
 simp [hts]
 subst hQ
 refine xno (by simp [hts]) ?_
 refine xseq ?_
 refine xsr fun Q' hQ=>?_
 simp [hts]
 subst hQ
 refine xno (by simp [hts]) ?_
 refine xsr fun Q' hQ=>?_
 simp [hts]
 subst hQ
 refine xno (by simp [hts]) ?_
 refine xsr fun Q' hQ=>?_
 simp [hts]
 subst hQ
 refine xno (by simp [hts]) ?_
 refine xregQ fun Q' hQ=>?_
 simp [hts]
 subst hQ
 rw [thenA_normal]
 refine xno (by simp [hts]) ?_
 refine xsr fun Q' hQ=>?_
 simp [hts]
 subst hQ
 refine xno (by simp [hts]) ?_
 refine xsr fun Q' hQ=>?_
 simp [hts]
 subst hQ
 refine xno (by simp [hts]) ?_
 refine xseq ?_
 refine xsr fun Q' hQ=>?_
 simp [hts]
 subst hQ
 refine xno (by simp [hts]) ?_
 refine xsr fun Q' hQ=>?_
 simp [hts]
 subst hQ
 refine xno (by simp [hts]) ?_
 refine xregQ fun Q' hQ=>?_
 simp [hts]
 subst hQ
 rw [thenA_normal]
 refine xno (by simp [hts]) ?_
 refine xsr fun Q' hQ=>?_
 simp [hts]
 subst hQ
 refine xno (by simp [hts]) ?_
 refine xsr fun Q' hQ=>?_
 simp [hts]
 subst hQ
 refine xno (by simp [hts]) ?_
 refine xsr fun Q' hQ=>?_
 simp [hts]
 subst hQ
 refine xno (by simp [hts]) ?_
 refine xseq ?_
 refine xsr fun Q' hQ=>?_
 simp [hts]
 subst hQ
 refine xno (by simp [hts]) ?_
 refine xsr fun Q' hQ=>?_
 simp [hts]
 subst hQ
 refine xno (by simp [hts]) ?_
 refine xsr fun Q' hQ=>?_
 simp [hts]
 subst hQ
 refine xno (by simp [hts]) ?_
 refine xregQ fun Q' hQ=>?_
 simp [hts]
 subst hQ
 rw [thenA_normal]
 refine xyes (by simp [hts]) ?_
 refine xregQ fun Q' hQ=>?_
 simp [hts,h0,h1,h3,vw_stM_same,vw_stM_ne,spl,stOk,oneC,hvi,nei]
 subst hQ
 refine⟨rfl,?_,?_,?_,?_⟩
 ·exact (Old.st hO (by omega) _ _)
 ·rw [vw_stM_ne (by omega)];exact h2
 ·simp [h3,vw_stM_same,vw_stM_ne,spl,stOk,oneC,stepF,stpCells,stp0,i0,n0]
 ·exact⟨x0,.int .i64 n,x2,_,x4,_,Sl.mk rfl (by simp [hts])⟩
theorem rstep_k22 {N0:Nat} {m:Mem} {n:Int} {f:Fs} {a1 a2 a3:Option Addr} (hF:FsV N0 m f (.agg ⟨fsC f a1 a2 a3⟩)) (hS:Shape 22 f):CallsA tb 79 [.agg ⟨rowCells 22⟩,.int .i64 n,.agg ⟨fsC f a1 a2 a3⟩] m (retR (StepFR 22 n f a1 a3 m)):=by
 obtain⟨o1,o2,o3⟩:=hF.parts
 obtain⟨ints,nats,way,text⟩:=f
 have hS':=hS.resolve_left (by decide)
 simp only [iN,nN] at hS'
 obtain⟨y0,rfl⟩:=len1 hS'.1
 obtain⟨z0,z1,rfl⟩:=len2 hS'.2.1
 refine callsS Tryz.func79 e79 rfl rfl ?_
 simp only [List.length_cons,List.length_nil,List.cons_append,List.nil_append,Nat.reduceAdd]
 refine front79 fun l ts m2 x0 x2 x4 hts S hl=>?_
 obtain⟨hO,-,h0,h1,h2,h3⟩:=S
 subst hl
 refine xseqN (fun l ds m'=>ds=[]∧Old m.next m m'∧vw m' (m.next+2)=some ⟨true,36,false,stpCells stp0 (.slice none 0 0) (.slice none 0 0)⟩∧vw m' (m.next+3)=some ⟨true,36,false,stpCells (stepF 22 n ⟨[y0],[z0,z1],way,text⟩) (.slice none 0 0) (.slice none 0 0)⟩∧∃ x0 x1 x2 x3 x4 x5,Sl [x0,x1,x2,x3,x4,x5,.pointer (some ⟨m.next+2,0,none⟩),.pointer (some ⟨m.next+3,0,none⟩)] 157 l) ?_ ?_
 ·rintro l ds m3 ⟨rfl,hO3,hv2,hv3,x0,x1,x2,x3,x4,x5,us,hus,rfl⟩
  exact tail79 hO3 hv2 hv3 rfl rfl rfl rfl hus
 simp only [rowCells,wordOf,formOf,fsC,stpCells,stp0,List.length_cons,List.length_nil,Nat.zero_add,Nat.reduceAdd] at h0 h1 h3
 obtain⟨r0,hr0⟩:∃ r0,r0=m.next:=⟨_,rfl⟩
 rw [← hr0] at h0 h1 h2 h3 hO ⊢
 obtain⟨bi,ei,hbi,hvi⟩:=own_at o1 (by simp) (hr0▸hO)
 obtain rfl:a1=some ⟨bi,0,none⟩:=by cases ei;rfl
 simp only [i64s,List.map_cons,List.map_nil,List.length_cons,List.length_nil,Nat.zero_add,Nat.reduceAdd] at hvi
 have nei:¬ bi=r0+3:=by omega
 obtain⟨bn,en,hbn,hvn⟩:=own_at o2 (by simp) (hr0▸hO)
 obtain rfl:a2=some ⟨bn,0,none⟩:=by cases en;rfl
 simp only [u64s,List.map_cons,List.map_nil,List.length_cons,List.length_nil,Nat.zero_add,Nat.reduceAdd] at hvn
 have nen:¬ bn=r0+3:=by omega
 refine xsr fun Q' hQ=>?_
 simp [hts,h0,h1,h3,vw_stM_same,vw_stM_ne,spl,stOk,oneC,hvi,nei,hvn,nen]
 subst hQ
 refine xblock ?_
 refine xsr fun Q' hQ=>?_
 simp [hts]
 subst hQ
 refine xno (by simp [hts]) ?_
 refine xsr fun Q' hQ=>?_
 simp [hts]
 subst hQ
 refine xno (by simp [hts]) ?_
 refine xseq ?_
 refine xsr fun Q' hQ=>?_
 simp [hts]
 subst hQ
 refine xno (by simp [hts]) ?_
 refine xsr fun Q' hQ=>?_
 simp [hts]
 subst hQ
 refine xno (by simp [hts]) ?_
 refine xsr fun Q' hQ=>?_
 simp [hts]
 subst hQ
 refine xno (by simp [hts]) ?_
 refine xregQ fun Q' hQ=>?_
 simp [hts]
 subst hQ
 rw [thenA_normal]
 refine xno (by simp [hts]) ?_
 refine xsr fun Q' hQ=>?_
 simp [hts]
 subst hQ
 refine xno (by simp [hts]) ?_
 refine xsr fun Q' hQ=>?_
 simp [hts]
 subst hQ
 refine xno (by simp [hts]) ?_
 refine xseq ?_
 refine xsr fun Q' hQ=>?_
 simp [hts]
 subst hQ
 refine xno (by simp [hts]) ?_
 refine xsr fun Q' hQ=>?_
 simp [hts]
 subst hQ
 refine xno (by simp [hts]) ?_
 refine xregQ fun Q' hQ=>?_
 simp [hts]
 subst hQ
 rw [thenA_normal]
 refine xno (by simp [hts]) ?_
 refine xsr fun Q' hQ=>?_
 simp [hts]
 subst hQ
 refine xno (by simp [hts]) ?_
 refine xsr fun Q' hQ=>?_
 simp [hts]
 subst hQ
 refine xno (by simp [hts]) ?_
 refine xsr fun Q' hQ=>?_
 simp [hts]
 subst hQ
 refine xno (by simp [hts]) ?_
 refine xseq ?_
 refine xsr fun Q' hQ=>?_
 simp [hts]
 subst hQ
 refine xno (by simp [hts]) ?_
 refine xsr fun Q' hQ=>?_
 simp [hts]
 subst hQ
 refine xno (by simp [hts]) ?_
 refine xsr fun Q' hQ=>?_
 simp [hts]
 subst hQ
 refine xno (by simp [hts]) ?_
 refine xregQ fun Q' hQ=>?_
 simp [hts]
 subst hQ
 rw [thenA_normal]
 refine xno (by simp [hts]) ?_
 refine xsr fun Q' hQ=>?_
 simp [hts]
 subst hQ
 refine xno (by simp [hts]) ?_
 refine xsr fun Q' hQ=>?_
 simp [hts]
 subst hQ
 refine xyes (by simp [hts]) ?_
 refine xsr fun Q' hQ=>?_
 simp [hts,h0,h1,h3,vw_stM_same,vw_stM_ne,spl,stOk,oneC,hvi,nei,hvn,nen]
 subst hQ
 refine xsr fun Q' hQ=>?_
 simp [hts,h0,h1,h3,vw_stM_same,vw_stM_ne,spl,stOk,oneC,hvi,nei,hvn,nen]
 subst hQ
 refine xregQ fun Q' hQ=>?_
 simp [hts,h0,h1,h3,vw_stM_same,vw_stM_ne,spl,stOk,oneC,hvi,nei,hvn,nen]
 subst hQ
 refine⟨rfl,?_,?_,?_,?_⟩
 ·exact (Old.st (Old.st (Old.st hO (by omega) _ _) (by omega) _ _) (by omega) _ _)
 ·rw [vw_stM_ne (by omega),vw_stM_ne (by omega),vw_stM_ne (by omega)];exact h2
 ·simp [h3,vw_stM_same,vw_stM_ne,spl,stOk,oneC,stepF,stpCells,stp0,i0,n0]
 ·exact⟨x0,.int .i64 n,x2,_,x4,_,Sl.mk rfl (by simp [hts])⟩
theorem rstep_ok {N0:Nat} {m:Mem} {n:Int} {f:Fs} {a1 a2 a3:Option Addr}:∀ (k:Nat),1≤k→k≤22→FsV N0 m f (.agg ⟨fsC f a1 a2 a3⟩)→Shape k f→CallsA tb 79 [.agg ⟨rowCells k⟩,.int .i64 n,.agg ⟨fsC f a1 a2 a3⟩] m (retR (StepFR k n f a1 a3 m))
 |1,_,_,hF,hS=>rstep_k1 hF hS
 |2,_,_,hF,hS=>rstep_k2 hF hS
 |3,_,_,hF,hS=>rstep_k3 hF hS
 |4,_,_,hF,hS=>rstep_k4 hF hS
 |5,_,_,hF,hS=>rstep_k5 hF hS
 |6,_,_,hF,hS=>rstep_k6 hF hS
 |7,_,_,hF,hS=>rstep_k7 hF hS
 |8,_,_,hF,hS=>rstep_k8 hF hS
 |9,_,_,hF,hS=>rstep_k9 hF hS
 |10,_,_,hF,hS=>rstep_k10 hF hS
 |11,_,_,hF,hS=>rstep_k11 hF hS
 |12,_,_,hF,hS=>rstep_k12 hF hS
 |13,_,_,hF,hS=>rstep_k13 hF hS
 |14,_,_,hF,hS=>rstep_k14 hF hS
 |15,_,_,hF,hS=>rstep_k15 hF hS
 |16,_,_,hF,hS=>rstep_k16 hF hS
 |17,_,_,hF,hS=>rstep_k17 hF hS
 |18,_,_,hF,hS=>rstep_k18 hF hS
 |19,_,_,hF,hS=>rstep_k19 hF hS
 |20,_,_,hF,hS=>rstep_k20 hF hS
 |21,_,_,hF,hS=>rstep_k21 hF hS
 |22,_,_,hF,hS=>rstep_k22 hF hS
 |0,h,_,_,_=>absurd h (by omega)
 |k+23,_,h,_,_=>absurd h (by omega)
end Go.Proofs.YtgmkbdmgifdfeaaGreatDoor

