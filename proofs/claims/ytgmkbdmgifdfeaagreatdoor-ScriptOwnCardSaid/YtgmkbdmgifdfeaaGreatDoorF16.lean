/- A part of a proof: ScriptOwn. -/
import Derived.Test.YtgmkbdmgifdfeaaGreatDoorF15
set_option linter.unusedVariables false
set_option linter.unusedSimpArgs false
set_option maxRecDepth 8000
namespace Go.Proofs.YtgmkbdmgifdfeaaGreatDoor
open Go Go.Ev
def adrOf:Fd→Nat
 | .stream=>82 | .qc=>51 | .qb=>52 | .place=>97 | .pos=>98 | .cursor=>104 | .time=>89 | .life=>55 | .seq=>54 | .to=>56 | .ticks=>57
 |_=>0
def IsFd (m:Mem) (k0:Nat) (rv pv:Value):Fd→Prop
 | .data=>rv=.func (.func 90) ⟨[]⟩ ⟨[]⟩∧pv=.func (.func 92) ⟨[]⟩ ⟨[]⟩
 | .way=>rv=.func (.func 94) ⟨[]⟩ ⟨[]⟩∧pv=.func (.func 96) ⟨[]⟩ ⟨[]⟩
 | .mask=>rv=.func (.func 99) ⟨[]⟩ ⟨[]⟩∧pv=.func (.func 101) ⟨[]⟩ ⟨[]⟩
 | .choices=>rv=.func (.func 102) ⟨[]⟩ ⟨[]⟩∧pv=.func (.func 103) ⟨[]⟩ ⟨[]⟩
 | .time=>∃ cb,k0≤cb∧cb<k0+109∧rv=.func (.func 86) ⟨[]⟩ ⟨[.pointer (some ⟨cb,0,none⟩)]⟩∧pv=.func (.func 88) ⟨[]⟩ ⟨[.pointer (some ⟨cb,0,none⟩)]⟩∧vw m cb=some ⟨true,121,false,[.func (.func 89) ⟨[]⟩ ⟨[]⟩]⟩
 | .life=>∃ cb,k0≤cb∧cb<k0+109∧rv=.func (.func 86) ⟨[]⟩ ⟨[.pointer (some ⟨cb,0,none⟩)]⟩∧pv=.func (.func 88) ⟨[]⟩ ⟨[.pointer (some ⟨cb,0,none⟩)]⟩∧vw m cb=some ⟨true,121,false,[.func (.func 55) ⟨[]⟩ ⟨[]⟩]⟩
 | .seq=>∃ cb,k0≤cb∧cb<k0+109∧rv=.func (.func 86) ⟨[]⟩ ⟨[.pointer (some ⟨cb,0,none⟩)]⟩∧pv=.func (.func 88) ⟨[]⟩ ⟨[.pointer (some ⟨cb,0,none⟩)]⟩∧vw m cb=some ⟨true,121,false,[.func (.func 54) ⟨[]⟩ ⟨[]⟩]⟩
 | .to=>∃ cb,k0≤cb∧cb<k0+109∧rv=.func (.func 86) ⟨[]⟩ ⟨[.pointer (some ⟨cb,0,none⟩)]⟩∧pv=.func (.func 88) ⟨[]⟩ ⟨[.pointer (some ⟨cb,0,none⟩)]⟩∧vw m cb=some ⟨true,121,false,[.func (.func 56) ⟨[]⟩ ⟨[]⟩]⟩
 | .ticks=>∃ cb,k0≤cb∧cb<k0+109∧rv=.func (.func 86) ⟨[]⟩ ⟨[.pointer (some ⟨cb,0,none⟩)]⟩∧pv=.func (.func 88) ⟨[]⟩ ⟨[.pointer (some ⟨cb,0,none⟩)]⟩∧vw m cb=some ⟨true,121,false,[.func (.func 57) ⟨[]⟩ ⟨[]⟩]⟩
 |f=>∃ cb,k0≤cb∧cb<k0+109∧rv=.func (.func 83) ⟨[]⟩ ⟨[.pointer (some ⟨cb,0,none⟩)]⟩∧pv=.func (.func 85) ⟨[]⟩ ⟨[.pointer (some ⟨cb,0,none⟩)]⟩∧vw m cb=some ⟨true,118,false,[.func (.func (adrOf f)) ⟨[]⟩ ⟨[]⟩]⟩
def FormAt (m:Mem) (k0:Nat) (kind:Nat):Prop :=
 ∃ tab,vw m (k0+108)=some ⟨true,80,false,tab⟩∧tab[2*kind]? = some (.string ⟨⟨wordOf kind⟩⟩)∧∃ fs,tab[2*kind+1]? = some fs ∧
   ((fs=.slice none 0 0∧fieldsOf kind=[])∨∃ b n cells,fs=.slice (some ⟨b,0,none⟩) n n∧(fieldsOf kind).length=n∧k0≤b∧b<k0+109∧vw m b=some ⟨true,84,false,cells⟩∧cells.length=2*n ∧
     ∀ j f,(fieldsOf kind)[j]? = some f→∃ rv pv,cells[2*j]? = some rv∧cells[2*j+1]? = some pv∧IsFd m k0 rv pv f)
theorem form1 {m:Mem} {k0:Nat} (h:RowsAt formsRows m k0):FormAt m k0 1:=by
 refine⟨_,h 108 _ rfl,rfl,_,rfl,.inr ⟨k0+19,1,_,rfl,rfl,by omega,by omega,h 19 _ rfl,rfl,fun j f hj=>?_⟩⟩
 exact match j,hj with
  |0,hj=>by cases hj;exact⟨_,_,rfl,rfl,k0+17,by omega,by omega,rfl,rfl,h 17 _ rfl⟩
  |j+1,hj=>absurd hj (by simp [fieldsOf])
theorem form2 {m:Mem} {k0:Nat} (h:RowsAt formsRows m k0):FormAt m k0 2:=by
 refine⟨_,h 108 _ rfl,rfl,_,rfl,.inr ⟨k0+7,3,_,rfl,rfl,by omega,by omega,h 7 _ rfl,rfl,fun j f hj=>?_⟩⟩
 exact match j,hj with
  |0,hj=>by cases hj;exact⟨_,_,rfl,rfl,k0+1,by omega,by omega,rfl,rfl,h 1 _ rfl⟩
  |1,hj=>by cases hj;exact⟨_,_,rfl,rfl,k0+3,by omega,by omega,rfl,rfl,h 3 _ rfl⟩
  |2,hj=>by cases hj;exact⟨_,_,rfl,rfl,k0+5,by omega,by omega,rfl,rfl,h 5 _ rfl⟩
  |j+3,hj=>absurd hj (by simp [fieldsOf])
theorem form3 {m:Mem} {k0:Nat} (h:RowsAt formsRows m k0):FormAt m k0 3:=by
 refine⟨_,h 108 _ rfl,rfl,_,rfl,.inr ⟨k0+23,1,_,rfl,rfl,by omega,by omega,h 23 _ rfl,rfl,fun j f hj=>?_⟩⟩
 exact match j,hj with
  |0,hj=>by cases hj;exact⟨_,_,rfl,rfl,k0+21,by omega,by omega,rfl,rfl,h 21 _ rfl⟩
  |j+1,hj=>absurd hj (by simp [fieldsOf])
theorem form4 {m:Mem} {k0:Nat} (h:RowsAt formsRows m k0):FormAt m k0 4:=by
 refine⟨_,h 108 _ rfl,rfl,_,rfl,.inr ⟨k0+27,1,_,rfl,rfl,by omega,by omega,h 27 _ rfl,rfl,fun j f hj=>?_⟩⟩
 exact match j,hj with
  |0,hj=>by cases hj;exact⟨_,_,rfl,rfl,k0+25,by omega,by omega,rfl,rfl,h 25 _ rfl⟩
  |j+1,hj=>absurd hj (by simp [fieldsOf])
theorem form5 {m:Mem} {k0:Nat} (h:RowsAt formsRows m k0):FormAt m k0 5:=by
 refine⟨_,h 108 _ rfl,rfl,_,rfl,.inr ⟨k0+31,1,_,rfl,rfl,by omega,by omega,h 31 _ rfl,rfl,fun j f hj=>?_⟩⟩
 exact match j,hj with
  |0,hj=>by cases hj;exact⟨_,_,rfl,rfl,k0+29,by omega,by omega,rfl,rfl,h 29 _ rfl⟩
  |j+1,hj=>absurd hj (by simp [fieldsOf])
theorem form6 {m:Mem} {k0:Nat} (h:RowsAt formsRows m k0):FormAt m k0 6:=by
 refine⟨_,h 108 _ rfl,rfl,_,rfl,.inr ⟨k0+39,4,_,rfl,rfl,by omega,by omega,h 39 _ rfl,rfl,fun j f hj=>?_⟩⟩
 exact match j,hj with
  |0,hj=>by cases hj;exact⟨_,_,rfl,rfl,k0+33,by omega,by omega,rfl,rfl,h 33 _ rfl⟩
  |1,hj=>by cases hj;exact⟨_,_,rfl,rfl,k0+36,by omega,by omega,rfl,rfl,h 36 _ rfl⟩
  |2,hj=>by cases hj;exact⟨_,_,rfl,rfl,k0+11,by omega,by omega,rfl,rfl,h 11 _ rfl⟩
  |3,hj=>by cases hj;exact⟨_,_,rfl,rfl,rfl,rfl⟩
  |j+4,hj=>absurd hj (by simp [fieldsOf])
theorem form7 {m:Mem} {k0:Nat} (h:RowsAt formsRows m k0):FormAt m k0 7:=by
 refine⟨_,h 108 _ rfl,rfl,_,rfl,.inr ⟨k0+43,2,_,rfl,rfl,by omega,by omega,h 43 _ rfl,rfl,fun j f hj=>?_⟩⟩
 exact match j,hj with
  |0,hj=>by cases hj;exact⟨_,_,rfl,rfl,k0+41,by omega,by omega,rfl,rfl,h 41 _ rfl⟩
  |1,hj=>by cases hj;exact⟨_,_,rfl,rfl,k0+8,by omega,by omega,rfl,rfl,h 8 _ rfl⟩
  |j+2,hj=>absurd hj (by simp [fieldsOf])
theorem form8 {m:Mem} {k0:Nat} (h:RowsAt formsRows m k0):FormAt m k0 8 :=
 ⟨_,h 108 _ rfl,rfl,_,rfl,.inl ⟨rfl,rfl⟩⟩
theorem form9 {m:Mem} {k0:Nat} (h:RowsAt formsRows m k0):FormAt m k0 9:=by
 refine⟨_,h 108 _ rfl,rfl,_,rfl,.inr ⟨k0+48,2,_,rfl,rfl,by omega,by omega,h 48 _ rfl,rfl,fun j f hj=>?_⟩⟩
 exact match j,hj with
  |0,hj=>by cases hj;exact⟨_,_,rfl,rfl,rfl,rfl⟩
  |1,hj=>by cases hj;exact⟨_,_,rfl,rfl,k0+46,by omega,by omega,rfl,rfl,h 46 _ rfl⟩
  |j+2,hj=>absurd hj (by simp [fieldsOf])
theorem form10 {m:Mem} {k0:Nat} (h:RowsAt formsRows m k0):FormAt m k0 10:=by
 refine⟨_,h 108 _ rfl,rfl,_,rfl,.inr ⟨k0+53,2,_,rfl,rfl,by omega,by omega,h 53 _ rfl,rfl,fun j f hj=>?_⟩⟩
 exact match j,hj with
  |0,hj=>by cases hj;exact⟨_,_,rfl,rfl,rfl,rfl⟩
  |1,hj=>by cases hj;exact⟨_,_,rfl,rfl,k0+51,by omega,by omega,rfl,rfl,h 51 _ rfl⟩
  |j+2,hj=>absurd hj (by simp [fieldsOf])
theorem form11 {m:Mem} {k0:Nat} (h:RowsAt formsRows m k0):FormAt m k0 11:=by
 refine⟨_,h 108 _ rfl,rfl,_,rfl,.inr ⟨k0+58,2,_,rfl,rfl,by omega,by omega,h 58 _ rfl,rfl,fun j f hj=>?_⟩⟩
 exact match j,hj with
  |0,hj=>by cases hj;exact⟨_,_,rfl,rfl,rfl,rfl⟩
  |1,hj=>by cases hj;exact⟨_,_,rfl,rfl,k0+56,by omega,by omega,rfl,rfl,h 56 _ rfl⟩
  |j+2,hj=>absurd hj (by simp [fieldsOf])
theorem form12 {m:Mem} {k0:Nat} (h:RowsAt formsRows m k0):FormAt m k0 12:=by
 refine⟨_,h 108 _ rfl,rfl,_,rfl,.inr ⟨k0+67,4,_,rfl,rfl,by omega,by omega,h 67 _ rfl,rfl,fun j f hj=>?_⟩⟩
 exact match j,hj with
  |0,hj=>by cases hj;exact⟨_,_,rfl,rfl,rfl,rfl⟩
  |1,hj=>by cases hj;exact⟨_,_,rfl,rfl,k0+61,by omega,by omega,rfl,rfl,h 61 _ rfl⟩
  |2,hj=>by cases hj;exact⟨_,_,rfl,rfl,k0+64,by omega,by omega,rfl,rfl,h 64 _ rfl⟩
  |3,hj=>by cases hj;exact⟨_,_,rfl,rfl,rfl,rfl⟩
  |j+4,hj=>absurd hj (by simp [fieldsOf])
theorem form13 {m:Mem} {k0:Nat} (h:RowsAt formsRows m k0):FormAt m k0 13:=by
 refine⟨_,h 108 _ rfl,rfl,_,rfl,.inr ⟨k0+71,1,_,rfl,rfl,by omega,by omega,h 71 _ rfl,rfl,fun j f hj=>?_⟩⟩
 exact match j,hj with
  |0,hj=>by cases hj;exact⟨_,_,rfl,rfl,k0+69,by omega,by omega,rfl,rfl,h 69 _ rfl⟩
  |j+1,hj=>absurd hj (by simp [fieldsOf])
theorem form14 {m:Mem} {k0:Nat} (h:RowsAt formsRows m k0):FormAt m k0 14:=by
 refine⟨_,h 108 _ rfl,rfl,_,rfl,.inr ⟨k0+73,1,_,rfl,rfl,by omega,by omega,h 73 _ rfl,rfl,fun j f hj=>?_⟩⟩
 exact match j,hj with
  |0,hj=>by cases hj;exact⟨_,_,rfl,rfl,rfl,rfl⟩
  |j+1,hj=>absurd hj (by simp [fieldsOf])
theorem form15 {m:Mem} {k0:Nat} (h:RowsAt formsRows m k0):FormAt m k0 15 :=
 ⟨_,h 108 _ rfl,rfl,_,rfl,.inl ⟨rfl,rfl⟩⟩
theorem form16 {m:Mem} {k0:Nat} (h:RowsAt formsRows m k0):FormAt m k0 16:=by
 refine⟨_,h 108 _ rfl,rfl,_,rfl,.inr ⟨k0+77,1,_,rfl,rfl,by omega,by omega,h 77 _ rfl,rfl,fun j f hj=>?_⟩⟩
 exact match j,hj with
  |0,hj=>by cases hj;exact⟨_,_,rfl,rfl,k0+75,by omega,by omega,rfl,rfl,h 75 _ rfl⟩
  |j+1,hj=>absurd hj (by simp [fieldsOf])
theorem form17 {m:Mem} {k0:Nat} (h:RowsAt formsRows m k0):FormAt m k0 17:=by
 refine⟨_,h 108 _ rfl,rfl,_,rfl,.inr ⟨k0+81,1,_,rfl,rfl,by omega,by omega,h 81 _ rfl,rfl,fun j f hj=>?_⟩⟩
 exact match j,hj with
  |0,hj=>by cases hj;exact⟨_,_,rfl,rfl,k0+79,by omega,by omega,rfl,rfl,h 79 _ rfl⟩
  |j+1,hj=>absurd hj (by simp [fieldsOf])
theorem form18 {m:Mem} {k0:Nat} (h:RowsAt formsRows m k0):FormAt m k0 18:=by
 refine⟨_,h 108 _ rfl,rfl,_,rfl,.inr ⟨k0+88,2,_,rfl,rfl,by omega,by omega,h 88 _ rfl,rfl,fun j f hj=>?_⟩⟩
 exact match j,hj with
  |0,hj=>by cases hj;exact⟨_,_,rfl,rfl,k0+83,by omega,by omega,rfl,rfl,h 83 _ rfl⟩
  |1,hj=>by cases hj;exact⟨_,_,rfl,rfl,k0+86,by omega,by omega,rfl,rfl,h 86 _ rfl⟩
  |j+2,hj=>absurd hj (by simp [fieldsOf])
theorem form19 {m:Mem} {k0:Nat} (h:RowsAt formsRows m k0):FormAt m k0 19:=by
 refine⟨_,h 108 _ rfl,rfl,_,rfl,.inr ⟨k0+92,1,_,rfl,rfl,by omega,by omega,h 92 _ rfl,rfl,fun j f hj=>?_⟩⟩
 exact match j,hj with
  |0,hj=>by cases hj;exact⟨_,_,rfl,rfl,k0+90,by omega,by omega,rfl,rfl,h 90 _ rfl⟩
  |j+1,hj=>absurd hj (by simp [fieldsOf])
theorem form20 {m:Mem} {k0:Nat} (h:RowsAt formsRows m k0):FormAt m k0 20:=by
 refine⟨_,h 108 _ rfl,rfl,_,rfl,.inr ⟨k0+96,1,_,rfl,rfl,by omega,by omega,h 96 _ rfl,rfl,fun j f hj=>?_⟩⟩
 exact match j,hj with
  |0,hj=>by cases hj;exact⟨_,_,rfl,rfl,k0+94,by omega,by omega,rfl,rfl,h 94 _ rfl⟩
  |j+1,hj=>absurd hj (by simp [fieldsOf])
theorem form21 {m:Mem} {k0:Nat} (h:RowsAt formsRows m k0):FormAt m k0 21:=by
 refine⟨_,h 108 _ rfl,rfl,_,rfl,.inr ⟨k0+100,1,_,rfl,rfl,by omega,by omega,h 100 _ rfl,rfl,fun j f hj=>?_⟩⟩
 exact match j,hj with
  |0,hj=>by cases hj;exact⟨_,_,rfl,rfl,k0+98,by omega,by omega,rfl,rfl,h 98 _ rfl⟩
  |j+1,hj=>absurd hj (by simp [fieldsOf])
theorem form22 {m:Mem} {k0:Nat} (h:RowsAt formsRows m k0):FormAt m k0 22:=by
 refine⟨_,h 108 _ rfl,rfl,_,rfl,.inr ⟨k0+107,3,_,rfl,rfl,by omega,by omega,h 107 _ rfl,rfl,fun j f hj=>?_⟩⟩
 exact match j,hj with
  |0,hj=>by cases hj;exact⟨_,_,rfl,rfl,k0+102,by omega,by omega,rfl,rfl,h 102 _ rfl⟩
  |1,hj=>by cases hj;exact⟨_,_,rfl,rfl,k0+105,by omega,by omega,rfl,rfl,h 105 _ rfl⟩
  |2,hj=>by cases hj;exact⟨_,_,rfl,rfl,k0+14,by omega,by omega,rfl,rfl,h 14 _ rfl⟩
  |j+3,hj=>absurd hj (by simp [fieldsOf])
theorem form_at {m:Mem} {k0:Nat} (h:RowsAt formsRows m k0) {kind:Nat} (h1:1≤kind) (h2:kind≤22):FormAt m k0 kind :=
 match kind,h1,h2 with
 |1,_,_=>form1 h|2,_,_=>form2 h|3,_,_=>form3 h|4,_,_=>form4 h|5,_,_=>form5 h|6,_,_=>form6 h|7,_,_=>form7 h|8,_,_=>form8 h
 |9,_,_=>form9 h|10,_,_=>form10 h|11,_,_=>form11 h|12,_,_=>form12 h|13,_,_=>form13 h|14,_,_=>form14 h|15,_,_=>form15 h|16,_,_=>form16 h
 |17,_,_=>form17 h|18,_,_=>form18 h|19,_,_=>form19 h|20,_,_=>form20 h|21,_,_=>form21 h|22,_,_=>form22 h
 |0,h1,_=>absurd h1 (by omega)
 |k+23,_,h2=>absurd h2 (by omega)
end Go.Proofs.YtgmkbdmgifdfeaaGreatDoor

set_option maxRecDepth 8000
namespace Go.Proofs.YtgmkbdmgifdfeaaGreatDoor
open Go Go.Ev
theorem intF {g0 o p xp cb:Nat} {m:Mem} {ws:List (List UInt8)} {cs:List Value} (ha:Adr g0 o) (ho:o<cs.length) (hcb:vw m cb=some ⟨true,118,false,[.func (.func g0) ⟨[]⟩ ⟨[]⟩]⟩) (hx:vw m xp=some ⟨true,36,false,cs⟩) (hxl:xp<m.next) (hpx:p<xp) (hL:LineAt m p ws) (hE:ErrAt m) :
  CallsA tb 83 [.pointer (some ⟨p,0,none⟩),.pointer (some ⟨xp,0,none⟩),.pointer (some ⟨cb,0,none⟩)] m (optR (rd1 intOf ws) (fun a r m'=>vw m' xp=some ⟨true,36,false,cs.set o (.int .i64 a.1)⟩∧LineAt m' p a.2∧Kp [p,xp] m m') (fun m'=>Kp [p,xp] m m')):=by
 refine callsS Tryz.func83 e83 rfl rfl ?_
 simp only [s83,List.replicate,List.length_cons,List.length_nil,List.cons_append,List.nil_append,Nat.reduceAdd,Nat.reduceSub]
 refine xregQ fun Q' hQ=>?_
 simp [hcb]
 refine xcall ha.1 (ha.2 m xp) ?_ (fun ch m' h=>h.elim)
 rintro r m1 ⟨rfl,rfl⟩
 refine xcall (ov_none (by decide)) (whole_ok' hL hE) ?_ ?_
 ·rintro r m2 ⟨a,h1,rfl,h2,h3⟩
  have hx2:vw m2 xp=some ⟨true,36,false,cs⟩:=by rw [h3.vw hxl (by simp;omega)];exact hx
  have ho':o+1≤cs.length:=ho
  simp [hx2,ho']
  subst hQ
  refine⟨rfl,_,resX_nil,a,h1,?_,?_,?_⟩
  ·rw [vw_stM_eq hx2 (stOk_one rfl ho rfl)];rfl
  ·exact h2.kp ((Kp.refl [xp] _).st (by simp) _ _) (by simp;omega)
  ·exact (h3.mono (by simp)).st (by simp) _ _
 ·rintro ch m2 ⟨h1,rfl,h3⟩
  subst hQ
  exact⟨rfl,h1,rfl,h3.mono (by simp)⟩
theorem natF {g0 o p xp cb:Nat} {m:Mem} {ws:List (List UInt8)} {cs:List Value} (ha:Adr g0 o) (ho:o<cs.length) (hcb:vw m cb=some ⟨true,121,false,[.func (.func g0) ⟨[]⟩ ⟨[]⟩]⟩) (hx:vw m xp=some ⟨true,36,false,cs⟩) (hxl:xp<m.next) (hpx:p<xp) (hL:LineAt m p ws) (hE:ErrAt m) :
  CallsA tb 86 [.pointer (some ⟨p,0,none⟩),.pointer (some ⟨xp,0,none⟩),.pointer (some ⟨cb,0,none⟩)] m (optR (rd1 longOf ws) (fun a r m'=>vw m' xp=some ⟨true,36,false,cs.set o (.int .u64 a.1)⟩∧LineAt m' p a.2∧Kp [p,xp] m m') (fun m'=>Kp [p,xp] m m')):=by
 refine callsS Tryz.func86 e86 rfl rfl ?_
 simp only [s86,List.replicate,List.length_cons,List.length_nil,List.cons_append,List.nil_append,Nat.reduceAdd,Nat.reduceSub]
 refine xregQ fun Q' hQ=>?_
 simp [hcb]
 refine xcall ha.1 (ha.2 m xp) ?_ (fun ch m' h=>h.elim)
 rintro r m1 ⟨rfl,rfl⟩
 refine xcall (ov_none (by decide)) (long_ok' hL hE) ?_ ?_
 ·rintro r m2 ⟨a,h1,rfl,h2,h3⟩
  have hx2:vw m2 xp=some ⟨true,36,false,cs⟩:=by rw [h3.vw hxl (by simp;omega)];exact hx
  have ho':o+1≤cs.length:=ho
  simp [hx2,ho']
  subst hQ
  refine⟨rfl,_,resX_nil,a,h1,?_,?_,?_⟩
  ·rw [vw_stM_eq hx2 (stOk_one rfl ho rfl)];rfl
  ·exact h2.kp ((Kp.refl [xp] _).st (by simp) _ _) (by simp;omega)
  ·exact (h3.mono (by simp)).st (by simp) _ _
 ·rintro ch m2 ⟨h1,rfl,h3⟩
  subst hQ
  exact⟨rfl,h1,rfl,h3.mono (by simp)⟩
theorem maskF {p xp:Nat} {m:Mem} {ws:List (List UInt8)} {cs:List Value} (ho:cs.length=17) (hx:vw m xp=some ⟨true,36,false,cs⟩) (hxl:xp<m.next) (hpx:p<xp) (hL:LineAt m p ws) (hE:ErrAt m) :
  CallsA tb 99 [.pointer (some ⟨p,0,none⟩),.pointer (some ⟨xp,0,none⟩)] m (optR (rd1 maskOf ws) (fun a r m'=>vw m' xp=some ⟨true,36,false,cs.set 12 (.int .u32 a.1)⟩∧LineAt m' p a.2∧Kp [p,xp] m m') (fun m'=>Kp [p,xp] m m')):=by
 refine callsS Tryz.func99 e99 rfl rfl ?_
 simp only [s99,List.replicate,List.length_cons,List.length_nil,List.cons_append,List.nil_append,Nat.reduceAdd,Nat.reduceSub]
 refine xregQ fun Q' hQ=>?_
 simp
 refine xcall (ov_none (by decide)) (number_ok (b:=4294967295) hL hE (by omega)) ?_ ?_
 ·rintro r m2 ⟨⟨v,ws'⟩,h1,rfl,h2,h3⟩
  have hx2:vw m2 xp=some ⟨true,36,false,cs⟩:=by rw [h3.vw hxl (by simp;omega)];exact hx
  have hv:v≤4294967295:=by
   cases ws with
   |nil=>cases h1
   |cons w ws =>
    simp only [rd1,Option.map_eq_some_iff,Prod.mk.injEq] at h1
    obtain⟨v',h4,rfl,_⟩:=h1
    exact numOf_le h4
  have hw:IntKind.wrap .u32 (v:Int)=(v:Int):=wru32 _ (by omega) (by omega)
  simp [hx2,ho,hw]
  subst hQ
  refine⟨rfl,_,resX_nil,((v:Int),ws'),?_,?_,?_,?_⟩
  ·cases ws with
   |nil=>cases h1
   |cons w ws =>
    simp only [rd1,Option.map_eq_some_iff,Prod.mk.injEq] at h1
    obtain⟨v',h4,rfl,rfl⟩:=h1
    simp [rd1,maskOf,h4]
  ·rw [vw_stM_eq hx2 (stOk_one rfl (by simp [ho]) rfl)];rfl
  ·exact h2.kp ((Kp.refl [xp] _).st (by simp) _ _) (by simp;omega)
  ·exact (h3.mono (by simp)).st (by simp) _ _
 ·rintro ch m2 ⟨h1,rfl,h3⟩
  subst hQ
  refine⟨rfl,?_,rfl,h3.mono (by simp)⟩
  cases ws with
  |nil=>rfl
  |cons w ws =>
   simp only [rd1,Option.map_eq_none_iff] at h1
   simp [rd1,maskOf,h1]
theorem wayF {p xp:Nat} {m:Mem} {ws:List (List UInt8)} {cs:List Value} (ho:cs.length=17) (hx:vw m xp=some ⟨true,36,false,cs⟩) (hxl:xp<m.next) (hpx:p<xp) (hL:LineAt m p ws) :
  CallsA tb 94 [.pointer (some ⟨p,0,none⟩),.pointer (some ⟨xp,0,none⟩)] m (optR (rd1 wayOf ws) (fun a r m'=>vw m' xp=some ⟨true,36,false,cs.set 9 (.int .i64 a.1)⟩∧LineAt m' p a.2∧Kp [p,xp] m m') (fun m'=>Kp [p,xp] m m')):=by
 refine callsS Tryz.func94 e94 rfl rfl ?_
 simp only [s94,List.replicate,List.length_cons,List.length_nil,List.cons_append,List.nil_append,Nat.reduceAdd,Nat.reduceSub]
 refine xregQ fun Q' hQ=>?_
 simp
 refine xcall (ov_none (by decide)) (way_ok' hL) ?_ ?_
 ·rintro r m2 ⟨a,h1,rfl,h2,h3⟩
  have hx2:vw m2 xp=some ⟨true,36,false,cs⟩:=by rw [h3.vw hxl (by simp;omega)];exact hx
  simp [hx2,ho]
  subst hQ
  refine⟨rfl,_,resX_nil,a,h1,?_,?_,?_⟩
  ·rw [vw_stM_eq hx2 (stOk_one rfl (by simp [ho]) rfl)];rfl
  ·exact h2.kp ((Kp.refl [xp] _).st (by simp) _ _) (by simp;omega)
  ·exact (h3.mono (by simp)).st (by simp) _ _
 ·rintro ch m2 ⟨h1,rfl,h3⟩
  subst hQ
  exact⟨rfl,h1,rfl,h3.mono (by simp)⟩
theorem dataF {p xp:Nat} {m:Mem} {ws:List (List UInt8)} {cs:List Value} (ho:cs.length=17) (hx:vw m xp=some ⟨true,36,false,cs⟩) (hxl:xp<m.next) (hpx:p<xp) (hL:LineAt m p ws) :
  CallsA tb 90 [.pointer (some ⟨p,0,none⟩),.pointer (some ⟨xp,0,none⟩)] m (optR (rd1 textOf ws) (fun a r m'=>∃ d,vw m' xp=some ⟨true,36,false,cs.set 5 d⟩∧Own m.next m' d 5 a.1.length (u8s a.1)∧a.1.length≤2000000∧LineAt m' p a.2∧Kp [p,xp] m m') (fun m'=>Kp [p,xp] m m')):=by
 refine callsS Tryz.func90 e90 rfl rfl ?_
 simp only [s90,List.replicate,List.length_cons,List.length_nil,List.cons_append,List.nil_append,Nat.reduceAdd,Nat.reduceSub]
 refine xregQ fun Q' hQ=>?_
 simp
 refine xcall (ov_none (by decide)) (text_ok hL) ?_ ?_
 ·rintro r m2 ⟨a,h1,h0,hle,h2,h3⟩
  obtain⟨ad,rfl⟩:=h0.shape
  have hx2:vw m2 xp=some ⟨true,36,false,cs⟩:=by rw [h3.vw hxl (by simp;omega)];exact hx
  simp [hx2,ho]
  subst hQ
  refine⟨rfl,_,resX_nil,a,h1,.slice ad a.1.length a.1.length,?_,?_,hle,?_,?_⟩
  ·rw [vw_stM_eq hx2 (stOk_one rfl (by simp [ho]) rfl)];rfl
  ·rcases h0 with h0|⟨b,e,g1,g2,g3⟩
   ·exact .inl h0
   ·exact .inr ⟨b,e,g1,by rw [stM_next];exact g2,by rw [vw_stM_ne (by omega)];exact g3⟩
  ·exact h2.kp ((Kp.refl [xp] _).st (by simp) _ _) (by simp;omega)
  ·exact (h3.mono (by simp)).st (by simp) _ _
 ·rintro ch m2 ⟨h1,rfl,h3⟩
  subst hQ
  exact⟨rfl,h1,rfl,h3.mono (by simp)⟩
def Ch (n0:Nat) (S:List Nat) (m m':Mem):Prop:=m.next≤m'.next∧∀ x,x<n0→x∉S→m'.objs.get x=m.objs.get x
theorem Ch.refl (n0:Nat) (S:List Nat) (m:Mem):Ch n0 S m m:=⟨Nat.le_refl _,fun _ _ _=>rfl⟩
theorem Ch.trans {n0:Nat} {S:List Nat} {a b c:Mem} (h:Ch n0 S a b) (k:Ch n0 S b c):Ch n0 S a c:=⟨Nat.le_trans h.1 k.1,fun x hx hs=>(k.2 x hx hs).trans (h.2 x hx hs)⟩
theorem Ch.of_kp {n0:Nat} {S:List Nat} {a b:Mem} (h:Kp S a b) (hn:n0≤a.next):Ch n0 S a b:=⟨h.1,fun x hx hs=>h.2 x (by omega) hs⟩
theorem Ch.of_old {n0:Nat} {S:List Nat} {a b:Mem} (h:Old n0 a b):Ch n0 S a b:=⟨h.1,fun x hx _=>h.2 x hx⟩
theorem Ch.vw {n0:Nat} {S:List Nat} {a b:Mem} (h:Ch n0 S a b) {x:Nat} (hx:x<n0) (hs:x∉S):Go.Ev.vw b x=Go.Ev.vw a x:=by unfold Go.Ev.vw;rw [h.2 x hx hs]
theorem Ch.st {n0:Nat} {S:List Nat} {a b:Mem} (h:Ch n0 S a b) {k:Nat} (hk:k∈S) (i:Nat) (l:List Value):Ch n0 S a (stM b k i l) :=
 ⟨by rw [stM_next];exact h.1,fun x hx hs=>by rw [stM_get (fun e=>hs (by rw [e];exact hk))];exact h.2 x hx hs⟩
theorem LineAt.ch {n0:Nat} {S:List Nat} {m m':Mem} {p:Nat} {ws:List (List UInt8)} (h:LineAt m p ws) (k:Ch n0 S m m') (hp:p<n0) (hS:∀ x∈S,p<x):LineAt m' p ws:=by
 obtain⟨h1,h2,h3,h4,v,h5,h6⟩:=h
 refine⟨h1,Nat.lt_of_lt_of_le h2 k.1,h3,h4,v,by rw [k.vw hp (fun e=>by have:=hS p e;omega)];exact h5,?_⟩
 rcases h6 with h6|⟨b,all,h7,h8,h9⟩
 ·exact .inl h6
 ·exact .inr ⟨b,all,h7,by rw [k.vw (by omega) (fun e=>by have:=hS b e;omega)];exact h8,h9⟩
theorem ErrAt.ch {n0:Nat} {S:List Nat} {m m':Mem} (h:ErrAt m) (k:Ch n0 S m m') (hn:8≤n0) (hS:∀ x∈S,8≤x):ErrAt m':=by
 obtain⟨h1,⟨e,t,a,h2⟩,e',t',a',h3⟩:=h
 exact⟨Nat.lt_of_lt_of_le h1 k.1,⟨e,t,a,by rw [k.vw (by omega) (fun h=>by have:=hS 6 h;omega)];exact h2⟩,e',t',a',by rw [k.vw (by omega) (fun h=>by have:=hS 7 h;omega)];exact h3⟩
theorem _root_.Go.Ev.Own.ch {n0 n:Nat} {S:List Nat} {m m':Mem} {v:Value} {e:TypeId} {cells:List Value} (h:Own n0 m v e n cells) (k:Kp S m m') (hS:∀ x∈S,x<n0):Own n0 m' v e n cells:=by
 rcases h with h|⟨b,h1,h2,h3,h4⟩
 ·exact .inl h
 ·exact .inr ⟨b,h1,h2,Nat.lt_of_lt_of_le h3 k.1,by rw [k.vw h3 (fun e=>by have:=hS b e;omega)];exact h4⟩
theorem _root_.Go.Ev.Own.stb {n0 n k:Nat} {m:Mem} {v:Value} {e:TypeId} {cells:List Value} (h:Own n0 m v e n cells) (hk:k<n0) (i:Nat) (l:List Value):Own n0 (stM m k i l) v e n cells:=by
 rcases h with h|⟨b,h1,h2,h3,h4⟩
 ·exact .inl h
 ·exact .inr ⟨b,h1,h2,by rw [stM_next];exact h3,by rw [vw_stM_ne (by omega)];exact h4⟩
theorem app1i {n0:Nat} {m:Mem} {v:Value} {o:List Int} (h:Own n0 m v 3 o.length (i64s o)) (hn:n0≤m.next) (c:Int) :
  ∃ aw v' m3,v=.slice aw o.length o.length∧appendTo (newObjA m (.row ⟨T.setL [.int .i64 c] 0 .lf,1,[.int .i64 0],3,.none,false⟩)) 3 1 (.slice aw o.length o.length) 1 [.int .i64 c]=some (v',m3)∧Own n0 m3 v' 3 (o++[c]).length (i64s (o++[c]))∧Old n0 m m3∧(∀ x,x<m.next→blkV v≠some x→m3.objs.get x=m.objs.get x)∧∃ b,blkV v'=some b∧m.next≤b:=by
 obtain⟨aw,rfl⟩:=h.shape
 obtain⟨v',m3,h5,h6,h7,h8,b,hb1,hb2⟩:=h.append (k:=0) (sz:=1) (new:=[.int .i64 c]) ((Old.refl _ m).new (Nat.le_refl _) (.row ⟨T.setL [.int .i64 c] 0 .lf,1,[.int .i64 0],3,.none,false⟩)) hn (by simp) (by simp) (by simp)
 have e1:i64s (o++[c])=i64s o++[.int .i64 c]:=by simp [i64s]
 exact⟨aw,v',m3,rfl,h5,by rw [e1,List.length_append];exact h6,((Old.refl n0 m).new hn _).trans h8,fun x hx hb=>by rw [h7.2 x (by rw [next_newObjA];omega) hb,get_newObjA,if_neg (by omega)],b,by rw [hb1];rfl,by rw [next_newObjA] at hb2;omega⟩
theorem choicesF {n0 p xp:Nat} {m:Mem} {ws:List (List UInt8)} {cs:List Value} {c:Value} {l:List Int} (ho:cs.length=17) (hx:vw m xp=some ⟨true,36,false,cs⟩) (hc:cs[14]? = some c) (hown:Own n0 m c 3 l.length (i64s l)) (hn:n0≤m.next) (hxl:xp<n0) (hpx:p<xp) (hL:LineAt m p ws) (hE:ErrAt m) (hl:l.length≤2000000) :
  CallsA tb 102 [.pointer (some ⟨p,0,none⟩),.pointer (some ⟨xp,0,none⟩)] m (optR (allInts ws) (fun a r m'=>∃ c',vw m' xp=some ⟨true,36,false,cs.set 14 c'⟩∧Own n0 m' c' 3 (l++a).length (i64s (l++a))∧LineAt m' p []∧Ch n0 [p,xp] m m'∧∀ x,x<m.next→x≠p→x≠xp→blkV c≠some x→m'.objs.get x=m.objs.get x) (fun m'=>Ch n0 [p,xp] m m')):=by
 refine callsS Tryz.func102 e102 rfl rfl ?_
 simp only [s102,List.replicate,List.length_cons,List.length_nil,List.cons_append,List.nil_append,Nat.reduceAdd,Nat.reduceSub]
 have hp8:=hL.1
 refine xblock (xwhile (N:=ws.length) (I:=fun q ls ds m2=>∃ ws' a la c',q=ws'.length∧la=l++a∧a.length+ws'.length≤ws.length∧ds=[]∧allInts ws=(allInts ws').map (a ++ ·)∧vw m2 xp=some ⟨true,36,false,cs.set 14 c'⟩∧Own n0 m2 c' 3 la.length (i64s la)∧LineAt m2 p ws'∧Ch n0 [p,xp] m m2∧(∀ x,x<m.next→x≠p→x≠xp→blkV c≠some x→m2.objs.get x=m.objs.get x)∧(c'=c∨∃ b,blkV c'=some b∧m.next≤b) ∧
   Sl [.pointer (some ⟨p,0,none⟩),.pointer (some ⟨xp,0,none⟩)] 19 ls) ?_ ?_)
 ·refine⟨ws,[],l,c,rfl,by simp,by simp,rfl,by simp,?_,hown,hL,.refl _ _ _,fun _ _ _ _ _=>rfl,.inl rfl,Sl.mk rfl rfl⟩
  have:cs.set 14 c=cs:=by
   apply List.ext_getElem?
   intro i
   rw [List.getElem?_set]
   by_cases e:14=i
   ·subst e;rw [if_pos rfl,if_pos (by omega),hc]
   ·rw [if_neg e]
  rw [this];exact hx
 rintro q ls ds m2 ⟨ws',a,la,c',rfl,hla,hal,rfl,hai,hx2,hown2,hL2,hC2,hB2,hcb,us,hus,rfl⟩
 obtain⟨ap,ac,hv2⟩:=hL2.len
 refine xseq (xseq (xregQ fun Q' hQ=>?_))
 simp [hus,hv2]
 subst hQ
 refine xif (v:=decide (0<ws'.length)) (by simp [hus]) (fun h=>xskip ?_) (fun h=>xexit ?_)
 ·simp only [decide_eq_true_eq] at h
  cases ws' with
  |nil=>simp at h
  |cons w ws' =>
   have hE2:=hE.ch hC2 (by omega) (by simp;omega)
   obtain⟨ac2,hcc⟩:=hown2.shape
   subst hcc
   have hll:la.length≤8000000:=by have:=hL.2.2.1;rw [hla,List.length_append];simp at hal;omega
   have hxm:xp<m2.next:=by have:=hC2.1;omega
   refine xblock (xdrw 5 fun Q' hQ=>?_)
   simp [hus,hx2,ho]
   refine xcall (ov_none (by decide)) (whole_ok' hL2 hE2) ?_ ?_
   rotate_left
   ·rintro ch m3 ⟨h1,rfl,h3⟩
    subst hQ
    refine⟨rfl,?_,rfl,hC2.trans (.of_kp (h3.mono (by simp)) (by have:=hC2.1;omega))⟩
    rw [hai]
    simp only [rd1,Option.map_eq_none_iff] at h1
    simp [allInts,h1]
   rintro r m3 ⟨⟨v,ws3⟩,h1,rfl,h2,h3⟩
   simp only [rd1,Option.map_eq_some_iff,Prod.mk.injEq] at h1
   obtain⟨v',h4,rfl,rfl⟩:=h1
   have hx3:vw m3 xp=some ⟨true,36,false,cs.set 14 (.slice ac2 la.length la.length)⟩:=by rw [h3.vw hxm (by simp;omega)];exact hx2
   have hown3:=hown2.ch h3 (by simp;omega)
   have hn3:n0≤m3.next:=by have:=hC2.1;have:=h3.1;omega
   obtain⟨aw,v4,m4,he,g1,g2,g3,g4,bn,g5,g6⟩:=app1i hown3 hn3 v'
   cases he
   obtain⟨aw1,hv4⟩:=g2.shape
   subst hv4
   have hx4:vw m4 xp=some ⟨true,36,false,cs.set 14 (.slice ac2 la.length la.length)⟩:=by rw [g3.vw hxl];exact hx3
   simp [hus,hx3,ho,hx4,fits_true _ la.length la.length 1 8 (by omega),g1]
   subst hQ
   have hx5:=vw_stM_eq hx4 (i:=14) (l:=[.slice aw1 (la++[v']).length (la++[v']).length]) (stOk_one rfl (by simp [ho]) rfl)
   simp [spl] at hx5
   refine⟨ws'.length,by simp,ws',a++[v'],la++[v'],.slice aw1 (la++[v']).length (la++[v']).length,rfl,by rw [hla];simp,by simp at hal ⊢;omega,rfl,?_,?_,?_,?_,?_,?_,?_,Sl.mk rfl (by simp [hus])⟩
   ·rw [hai];simp [allInts,h4]
    cases allInts ws'<;>simp
   ·simpa using hx5
   ·exact g2.stb hxl _ _
   ·have h5:=h2.ch (Ch.of_old (S:=[]) g3) (by omega) (by simp)
    exact h5.kp ((Kp.refl [xp] _).st (by simp) _ _) (by simp;omega)
   ·exact (hC2.trans ((Ch.of_kp (h3.mono (by simp)) (by have:=hC2.1;omega)).trans (Ch.of_old g3))).st (by simp) _ _
   ·intro x hx1 hx2' hx3' hx4'
    have hcx:blkV (.slice ac2 la.length la.length)≠some x:=by
     rcases hcb with e|⟨b,e1,e2⟩
     ·rw [e];exact hx4'
     ·rw [e1];intro e;cases e;omega
    rw [stM_get (by omega),g4 x (by have:=hC2.1;have:=h3.1;omega) hcx,h3.2 x (by have:=hC2.1;omega) (by simp;omega)]
    exact hB2 x hx1 hx2' hx3' hx4'
   ·exact .inr ⟨bn,by rw [← g5],by have:=hC2.1;have:=h3.1;omega⟩
 ·simp only [decide_eq_false_iff_not] at h
  cases ws' with
  |cons w ws'=>simp at h
  |nil =>
   subst hla
   exact⟨rfl,_,resX_nil,a,by simp [hai,allInts],c',hx2,hown2,hL2,hC2,hB2⟩
end Go.Proofs.YtgmkbdmgifdfeaaGreatDoor

set_option maxRecDepth 8000
namespace Go.Proofs.YtgmkbdmgifdfeaaGreatDoor
open Go Go.Ev
theorem stpl (s:Stp) (d c:Value):(stpCells s d c).length=17:=rfl
def StpAt (n0:Nat) (m:Mem) (xp:Nat) (s:Stp):Prop :=
 xp<n0∧n0≤m.next∧∃ d c,vw m xp=some ⟨true,36,false,stpCells s d c⟩∧Own n0 m d 5 s.data.length (u8s s.data)∧Own n0 m c 3 s.choices.length (i64s s.choices)
def ReadR (n0 p xp:Nat) (m:Mem) (x:Option (Stp × List (List UInt8))):OutA→Mem→Prop :=
 optR x (fun a r m'=>StpAt n0 m' xp a.1∧LineAt m' p a.2∧Ch n0 [p,xp] m m') (fun m'=>Ch n0 [p,xp] m m')
theorem opt_map {α β : Type} {x:Option α} {f : α → β} {S : α → Value→Mem→Prop} {S' : β → Value→Mem→Prop} {P P':Mem→Prop} (h1:∀ a v m,x=some a→S a v m→S' (f a) v m) (h2:∀ m,P m→P' m):∀ o m,optR x S P o m→optR (x.map f) S' P' o m :=
 optR_mono (fun a v m h k=>⟨f a,by rw [h];rfl,h1 a v m h k⟩) fun m h k=>⟨by rw [h];rfl,h2 m k⟩
theorem StpAt.upd {n0 xp p:Nat} {m m':Mem} {s s':Stp} {d c:Value} (h:StpAt n0 m xp s) (hd:Own n0 m d 5 s.data.length (u8s s.data)) (hc:Own n0 m c 3 s.choices.length (i64s s.choices)) (k:Kp [p,xp] m m') (hp:p<xp) (hv:vw m' xp=some ⟨true,36,false,stpCells s' d c⟩) (e1:s'.data=s.data) (e2:s'.choices=s.choices):StpAt n0 m' xp s':=by
 obtain⟨h1,h2,_⟩:=h
 have hS:∀ x∈[p,xp],x<n0:=by simp;omega
 exact⟨h1,Nat.le_trans h2 k.1,d,c,hv,by rw [e1];exact hd.ch k hS,by rw [e2];exact hc.ch k hS⟩
theorem int_read {f:Fd} {g0 o:Nat} {m0:Mem} {cb:Nat} (ha:Adr g0 o) (ho:o<17) (upd:Stp→Int→Stp) (hread:∀ s ws,f.read s ws=(rd1 intOf ws).map fun a=>(upd s a.1,a.2)) (hu:∀ s v,(upd s v).data=s.data∧(upd s v).choices=s.choices) (hc:∀ s d c v,(stpCells s d c).set o (.int .i64 v)=stpCells (upd s v) d c)
  {n0 p xp:Nat} {m:Mem} {s:Stp} {ws:List (List UInt8)} (hS:StpAt n0 m xp s) (hL:LineAt m p ws) (hE:ErrAt m) (hpx:p<xp) (hcb:vw m cb=some ⟨true,118,false,[.func (.func g0) ⟨[]⟩ ⟨[]⟩]⟩)
  {ds:List Deferred} {K:Value→List Deferred→Mem→Prop} {PK:List PanicEntry→Mem→Prop} (k:∀ v m',ReadR n0 p xp m (f.read s ws) (.ret v) m'→K v ds m') (pk:∀ ch m',ReadR n0 p xp m (f.read s ws) (.pan ch) m'→PK ch m') :
   wpNext tb (callValue tb (.func (.func 83) ⟨[]⟩ ⟨[.pointer (some ⟨cb,0,none⟩)]⟩) [.pointer (some ⟨p,0,none⟩),.pointer (some ⟨xp,0,none⟩)] m) ds m K PK:=by
 have hS0:=hS
 obtain⟨h1,h2,d,c,h3,h4,h5⟩:=hS
 rw [hread] at k pk
 have hm:=opt_map (x:=rd1 intOf ws) (f:=fun a=>(upd s a.1,a.2)) (S':=fun a r m'=>StpAt n0 m' xp a.1∧LineAt m' p a.2∧Ch n0 [p,xp] m m') (P':=fun m'=>Ch n0 [p,xp] m m')
  (S:=fun a r m'=>vw m' xp=some ⟨true,36,false,(stpCells s d c).set o (.int .i64 a.1)⟩∧LineAt m' p a.2∧Kp [p,xp] m m') (P:=fun m'=>Kp [p,xp] m m')
  (fun a v m' _ ⟨k1,k2,k3⟩=>⟨hS0.upd h4 h5 k3 hpx (by rw [k1,hc]) (hu s a.1).1 (hu s a.1).2,k2,Ch.of_kp k3 h2⟩) (fun m' k1=>Ch.of_kp k1 h2)
 exact xcall (ov_none (by decide)) (intF ha (by rw [stpl];exact ho) hcb h3 (by omega) hpx hL hE) (fun v m' h=>k v m' (hm _ _ h)) fun ch m' h=>pk ch m' (hm _ _ h)
theorem nat_read {f:Fd} {g0 o:Nat} {m0:Mem} {cb:Nat} (ha:Adr g0 o) (ho:o<17) (upd:Stp→Int→Stp) (hread:∀ s ws,f.read s ws=(rd1 longOf ws).map fun a=>(upd s a.1,a.2)) (hu:∀ s v,(upd s v).data=s.data∧(upd s v).choices=s.choices) (hc:∀ s d c v,(stpCells s d c).set o (.int .u64 v)=stpCells (upd s v) d c)
  {n0 p xp:Nat} {m:Mem} {s:Stp} {ws:List (List UInt8)} (hS:StpAt n0 m xp s) (hL:LineAt m p ws) (hE:ErrAt m) (hpx:p<xp) (hcb:vw m cb=some ⟨true,121,false,[.func (.func g0) ⟨[]⟩ ⟨[]⟩]⟩)
  {ds:List Deferred} {K:Value→List Deferred→Mem→Prop} {PK:List PanicEntry→Mem→Prop} (k:∀ v m',ReadR n0 p xp m (f.read s ws) (.ret v) m'→K v ds m') (pk:∀ ch m',ReadR n0 p xp m (f.read s ws) (.pan ch) m'→PK ch m') :
   wpNext tb (callValue tb (.func (.func 86) ⟨[]⟩ ⟨[.pointer (some ⟨cb,0,none⟩)]⟩) [.pointer (some ⟨p,0,none⟩),.pointer (some ⟨xp,0,none⟩)] m) ds m K PK:=by
 have hS0:=hS
 obtain⟨h1,h2,d,c,h3,h4,h5⟩:=hS
 rw [hread] at k pk
 have hm:=opt_map (x:=rd1 longOf ws) (f:=fun a=>(upd s a.1,a.2)) (S':=fun a r m'=>StpAt n0 m' xp a.1∧LineAt m' p a.2∧Ch n0 [p,xp] m m') (P':=fun m'=>Ch n0 [p,xp] m m')
  (S:=fun a r m'=>vw m' xp=some ⟨true,36,false,(stpCells s d c).set o (.int .u64 a.1)⟩∧LineAt m' p a.2∧Kp [p,xp] m m') (P:=fun m'=>Kp [p,xp] m m')
  (fun a v m' _ ⟨k1,k2,k3⟩=>⟨hS0.upd h4 h5 k3 hpx (by rw [k1,hc]) (hu s a.1).1 (hu s a.1).2,k2,Ch.of_kp k3 h2⟩) (fun m' k1=>Ch.of_kp k1 h2)
 exact xcall (ov_none (by decide)) (natF ha (by rw [stpl];exact ho) hcb h3 (by omega) hpx hL hE) (fun v m' h=>k v m' (hm _ _ h)) fun ch m' h=>pk ch m' (hm _ _ h)
theorem field_read {m:Mem} {k0:Nat} {rv pv:Value} {f:Fd} (hF:IsFd m k0 rv pv f) {n0 p xp:Nat} {s:Stp} {ws:List (List UInt8)} (hS:StpAt n0 m xp s) (hL:LineAt m p ws) (hE:ErrAt m) (hpx:p<xp) (hch:f=.choices→s.choices=[])
  {ds:List Deferred} {K:Value→List Deferred→Mem→Prop} {PK:List PanicEntry→Mem→Prop} (k:∀ v m',ReadR n0 p xp m (f.read s ws) (.ret v) m'→K v ds m') (pk:∀ ch m',ReadR n0 p xp m (f.read s ws) (.pan ch) m'→PK ch m') :
   wpNext tb (callValue tb rv [.pointer (some ⟨p,0,none⟩),.pointer (some ⟨xp,0,none⟩)] m) ds m K PK:=by
 cases f with
 |stream =>
  obtain⟨cb,-,-,rfl,-,hcb⟩:=hF
  exact int_read (m0:=m) adr82 (by omega) (fun s v => { s with stream:=v }) (fun s ws=>by cases ws<;>simp [Fd.read,rd1,Option.map_map,Function.comp_def]) (fun _ _=>⟨rfl,rfl⟩) (fun _ _ _ _=>rfl) hS hL hE hpx hcb k pk
 |qc =>
  obtain⟨cb,-,-,rfl,-,hcb⟩:=hF
  exact int_read (m0:=m) adr51 (by omega) (fun s v => { s with qc:=v }) (fun s ws=>by cases ws<;>simp [Fd.read,rd1,Option.map_map,Function.comp_def]) (fun _ _=>⟨rfl,rfl⟩) (fun _ _ _ _=>rfl) hS hL hE hpx hcb k pk
 |qb =>
  obtain⟨cb,-,-,rfl,-,hcb⟩:=hF
  exact int_read (m0:=m) adr52 (by omega) (fun s v => { s with qb:=v }) (fun s ws=>by cases ws<;>simp [Fd.read,rd1,Option.map_map,Function.comp_def]) (fun _ _=>⟨rfl,rfl⟩) (fun _ _ _ _=>rfl) hS hL hE hpx hcb k pk
 |place =>
  obtain⟨cb,-,-,rfl,-,hcb⟩:=hF
  exact int_read (m0:=m) adr97 (by omega) (fun s v => { s with place:=v }) (fun s ws=>by cases ws<;>simp [Fd.read,rd1,Option.map_map,Function.comp_def]) (fun _ _=>⟨rfl,rfl⟩) (fun _ _ _ _=>rfl) hS hL hE hpx hcb k pk
 |pos =>
  obtain⟨cb,-,-,rfl,-,hcb⟩:=hF
  exact int_read (m0:=m) adr98 (by omega) (fun s v => { s with pos:=v }) (fun s ws=>by cases ws<;>simp [Fd.read,rd1,Option.map_map,Function.comp_def]) (fun _ _=>⟨rfl,rfl⟩) (fun _ _ _ _=>rfl) hS hL hE hpx hcb k pk
 |cursor =>
  obtain⟨cb,-,-,rfl,-,hcb⟩:=hF
  exact int_read (m0:=m) adr104 (by omega) (fun s v => { s with cursor:=v }) (fun s ws=>by cases ws<;>simp [Fd.read,rd1,Option.map_map,Function.comp_def]) (fun _ _=>⟨rfl,rfl⟩) (fun _ _ _ _=>rfl) hS hL hE hpx hcb k pk
 |time =>
  obtain⟨cb,-,-,rfl,-,hcb⟩:=hF
  exact nat_read (m0:=m) adr89 (by omega) (fun s v => { s with time:=v }) (fun s ws=>by cases ws<;>simp [Fd.read,rd1,Option.map_map,Function.comp_def]) (fun _ _=>⟨rfl,rfl⟩) (fun _ _ _ _=>rfl) hS hL hE hpx hcb k pk
 |life =>
  obtain⟨cb,-,-,rfl,-,hcb⟩:=hF
  exact nat_read (m0:=m) adr55 (by omega) (fun s v => { s with life:=v }) (fun s ws=>by cases ws<;>simp [Fd.read,rd1,Option.map_map,Function.comp_def]) (fun _ _=>⟨rfl,rfl⟩) (fun _ _ _ _=>rfl) hS hL hE hpx hcb k pk
 |seq =>
  obtain⟨cb,-,-,rfl,-,hcb⟩:=hF
  exact nat_read (m0:=m) adr54 (by omega) (fun s v => { s with seq:=v }) (fun s ws=>by cases ws<;>simp [Fd.read,rd1,Option.map_map,Function.comp_def]) (fun _ _=>⟨rfl,rfl⟩) (fun _ _ _ _=>rfl) hS hL hE hpx hcb k pk
 |to =>
  obtain⟨cb,-,-,rfl,-,hcb⟩:=hF
  exact nat_read (m0:=m) adr56 (by omega) (fun s v => { s with to:=v }) (fun s ws=>by cases ws<;>simp [Fd.read,rd1,Option.map_map,Function.comp_def]) (fun _ _=>⟨rfl,rfl⟩) (fun _ _ _ _=>rfl) hS hL hE hpx hcb k pk
 |ticks =>
  obtain⟨cb,-,-,rfl,-,hcb⟩:=hF
  exact nat_read (m0:=m) adr57 (by omega) (fun s v => { s with ticks:=v }) (fun s ws=>by cases ws<;>simp [Fd.read,rd1,Option.map_map,Function.comp_def]) (fun _ _=>⟨rfl,rfl⟩) (fun _ _ _ _=>rfl) hS hL hE hpx hcb k pk
 |mask =>
  obtain⟨rfl,-⟩:=hF
  have hS0:=hS
  obtain⟨h1,h2,d,c,h3,h4,h5⟩:=hS
  rw [show Fd.read .mask s ws=(rd1 maskOf ws).map fun a=>({ s with mask:=a.1 },a.2) from by cases ws<;>simp [Fd.read,rd1,Option.map_map,Function.comp_def]] at k pk
  have hm:=opt_map (x:=rd1 maskOf ws) (f:=fun a=>(({ s with mask:=a.1 }:Stp),a.2)) (S':=fun a r m'=>StpAt n0 m' xp a.1∧LineAt m' p a.2∧Ch n0 [p,xp] m m') (P':=fun m'=>Ch n0 [p,xp] m m')
   (S:=fun a r m'=>vw m' xp=some ⟨true,36,false,(stpCells s d c).set 12 (.int .u32 a.1)⟩∧LineAt m' p a.2∧Kp [p,xp] m m') (P:=fun m'=>Kp [p,xp] m m')
   (fun a v m' _ ⟨k1,k2,k3⟩=>⟨hS0.upd h4 h5 k3 hpx (by rw [k1];rfl) rfl rfl,k2,Ch.of_kp k3 h2⟩) (fun m' k1=>Ch.of_kp k1 h2)
  exact xcall (ov_none (by decide)) (maskF (stpl _ _ _) h3 (by omega) hpx hL hE) (fun v m' h=>k v m' (hm _ _ h)) fun ch m' h=>pk ch m' (hm _ _ h)
 |way =>
  obtain⟨rfl,-⟩:=hF
  have hS0:=hS
  obtain⟨h1,h2,d,c,h3,h4,h5⟩:=hS
  rw [show Fd.read .way s ws=(rd1 wayOf ws).map fun a=>({ s with way:=a.1 },a.2) from by cases ws<;>simp [Fd.read,rd1,Option.map_map,Function.comp_def]] at k pk
  have hm:=opt_map (x:=rd1 wayOf ws) (f:=fun a=>(({ s with way:=a.1 }:Stp),a.2)) (S':=fun a r m'=>StpAt n0 m' xp a.1∧LineAt m' p a.2∧Ch n0 [p,xp] m m') (P':=fun m'=>Ch n0 [p,xp] m m')
   (S:=fun a r m'=>vw m' xp=some ⟨true,36,false,(stpCells s d c).set 9 (.int .i64 a.1)⟩∧LineAt m' p a.2∧Kp [p,xp] m m') (P:=fun m'=>Kp [p,xp] m m')
   (fun a v m' _ ⟨k1,k2,k3⟩=>⟨hS0.upd h4 h5 k3 hpx (by rw [k1];rfl) rfl rfl,k2,Ch.of_kp k3 h2⟩) (fun m' k1=>Ch.of_kp k1 h2)
  exact xcall (ov_none (by decide)) (wayF (stpl _ _ _) h3 (by omega) hpx hL) (fun v m' h=>k v m' (hm _ _ h)) fun ch m' h=>pk ch m' (hm _ _ h)
 |data =>
  obtain⟨rfl,-⟩:=hF
  have hS0:=hS
  obtain⟨h1,h2,d,c,h3,h4,h5⟩:=hS
  rw [show Fd.read .data s ws=(rd1 textOf ws).map fun a=>({ s with data:=a.1 },a.2) from by cases ws<;>simp [Fd.read,rd1,Option.map_map,Function.comp_def]] at k pk
  have hS2:∀ x∈[p,xp],x<n0:=by simp;omega
  have hm:=opt_map (x:=rd1 textOf ws) (f:=fun a=>(({ s with data:=a.1 }:Stp),a.2)) (S':=fun a r m'=>StpAt n0 m' xp a.1∧LineAt m' p a.2∧Ch n0 [p,xp] m m') (P':=fun m'=>Ch n0 [p,xp] m m')
   (S:=fun a r m'=>∃ d',vw m' xp=some ⟨true,36,false,(stpCells s d c).set 5 d'⟩∧Own m.next m' d' 5 a.1.length (u8s a.1)∧a.1.length≤2000000∧LineAt m' p a.2∧Kp [p,xp] m m') (P:=fun m'=>Kp [p,xp] m m')
   (fun a v m' _ ⟨d',k1,k4,_,k2,k3⟩=>⟨⟨h1,Nat.le_trans h2 k3.1,d',c,by rw [k1];rfl,k4.le h2,h5.ch k3 hS2⟩,k2,Ch.of_kp k3 h2⟩) (fun m' k1=>Ch.of_kp k1 h2)
  exact xcall (ov_none (by decide)) (dataF (stpl _ _ _) h3 (by omega) hpx hL) (fun v m' h=>k v m' (hm _ _ h)) fun ch m' h=>pk ch m' (hm _ _ h)
 |choices =>
  obtain⟨rfl,-⟩:=hF
  obtain⟨h1,h2,d,c,h3,h4,h5⟩:=hS
  have hS2:∀ x∈[p,xp],x<n0:=by simp;omega
  have hnil:=hch rfl
  have hd:∀ m',(∀ x,x<m.next→x≠p→x≠xp→blkV c≠some x→m'.objs.get x=m.objs.get x)→m.next≤m'.next→Own n0 m' d 5 s.data.length (u8s s.data):=by
   intro m' hB hnx
   rcases h4 with h4|⟨b,g1,g2,g3,g4⟩
   ·exact .inl h4
   ·refine .inr ⟨b,g1,g2,by omega,?_⟩
    have hne:blkV c≠some b:=by
     rcases h5 with ⟨e,_⟩|⟨b',e,q2,q3,q4⟩
     ·rw [e];intro h;cases h
     ·rw [e];intro h
      have:b'=b:=Option.some.inj h
      subst this
      rw [g4] at q4;cases q4
    unfold vw at g4 ⊢
    rw [hB b g3 (by omega) (by omega) hne];exact g4
  have hm:∀ o m2,optR (allInts ws) (fun a r m'=>∃ c',vw m' xp=some ⟨true,36,false,(stpCells s d c).set 14 c'⟩∧Own n0 m' c' 3 (s.choices++a).length (i64s (s.choices++a))∧LineAt m' p []∧Ch n0 [p,xp] m m'∧∀ x,x<m.next→x≠p→x≠xp→blkV c≠some x→m'.objs.get x=m.objs.get x) (fun m'=>Ch n0 [p,xp] m m') o m2→ReadR n0 p xp m (Fd.read .choices s ws) o m2:=by
   rw [show Fd.read .choices s ws=(allInts ws).map fun l=>({ s with choices:=s.choices++l },[]) from by cases ws<;>rfl]
   exact opt_map (fun a v m' _ ⟨c',k1,k4,k2,k3,k5⟩=>⟨⟨h1,Nat.le_trans h2 k3.1,d,c',by rw [k1];rfl,hd m' k5 k3.1,k4⟩,k2,k3⟩) fun m' k1=>k1
  exact xcall (ov_none (by decide)) (choicesF (l:=s.choices) (stpl _ _ _) h3 rfl h5 h2 h1 hpx hL hE (by rw [hnil];simp)) (fun v m' h=>k v m' (hm _ _ h)) fun ch m' h=>pk ch m' (hm _ _ h)
end Go.Proofs.YtgmkbdmgifdfeaaGreatDoor

namespace Go.Proofs.YtgmkbdmgifdfeaaGreatDoor
open Go
def piece (tx:List UInt8) (f k:Nat):List UInt8:=(tx.drop f).take (k-f)
theorem piece_add (tx:List UInt8) {f k w:Nat} (h:f≤k):piece tx f k++(tx.drop k).take w=piece tx f (k+w):=by
 unfold piece
 rw [show k+w-f=(k-f)+w from by omega,List.take_add,List.drop_drop,show f+(k-f)=k from by omega]
def RuneAt (tx:List UInt8) (k w:Nat) (R:Nat):Prop :=
 (w=1∧∃ c,tx[k]? = some c∧c.toNat<128∧R=c.toNat)∨(1≤w∧k+w≤tx.length∧(∀ j,j<w→∃ c,tx[k+j]? = some c∧128≤c.toNat)∧128≤R)
theorem u8_ne {c:UInt8} {n:Nat} (hn:n<256) (h:c.toNat≠n):c≠UInt8.ofNat n:=fun e=>h (by rw [e,UInt8.toNat_ofNat_of_lt' (by simpa using hn)])
theorem hi_not {c:UInt8} (h:128≤c.toNat):isBl c=false∧c≠34∧c≠92∧c≠35:=by
 refine⟨?_,u8_ne (n:=34) (by omega) (by omega),u8_ne (n:=92) (by omega) (by omega),u8_ne (n:=35) (by omega) (by omega)⟩
 have h1:c≠32:=u8_ne (n:=32) (by omega) (by omega)
 have h2:c≠9:=u8_ne (n:=9) (by omega) (by omega)
 simp [isBl,h1,h2]
theorem splitGo_cons (c:UInt8) (r:List UInt8) (acc:List (List UInt8)) (cur:Option (List UInt8)) (q e:Bool):splitGo (c::r) acc cur q e =
  if e then splitGo r acc (cur.map (· ++ [c])) q false
  else if q then
   (if c=92 then splitGo r acc (cur.map (· ++ [c])) q true
    else if c=34 then (if atBl r then splitGo r acc (cur.map (· ++ [c])) false false else none)
    else splitGo r acc (cur.map (· ++ [c])) q false)
  else match cur with
   |none=>if isBl c then splitGo r acc none false false
    else if acc=[]∧c=35 then some []
    else splitGo r acc (some [c]) (c==34) false
   |some w=>if isBl c then splitGo r (acc++[w]) none false false
    else splitGo r acc (some (w++[c])) false false:=by
 conv=>lhs;rw [splitGo.eq_def]
 rfl
theorem splitGo_nil (acc:List (List UInt8)) (cur:Option (List UInt8)) (q e:Bool):splitGo [] acc cur q e=if q then none else some (acc++cur.toList):=by rw [splitGo.eq_def]
theorem hi_run:∀ (hs r:List UInt8) (acc:List (List UInt8)) (w:List UInt8) (q:Bool),(∀ c∈hs,128≤c.toNat)→splitGo (hs++r) acc (some w) q false=splitGo r acc (some (w++hs)) q false
 | [],r,acc,w,q,_=>by simp
 |c::hs,r,acc,w,q,h=>by
  obtain⟨h1,h2,h3,h4⟩:=hi_not (h c (.head _))
  have ih:=hi_run hs r acc (w++[c]) q fun c hc=>h c (.tail _ hc)
  rw [List.cons_append,splitGo_cons]
  cases q with
  |true =>
   simp [h2,h3]
   rw [ih];simp
  |false =>
   simp [h1]
   rw [ih];simp
theorem split_step {tx:List UInt8} {k w R:Nat} (h:RuneAt tx k w R) (acc:List (List UInt8)) (cur:Option (List UInt8)) (q e:Bool) (hq:q=true→cur.isSome=true) (he:e=true→q=true) :
  splitGo (tx.drop k) acc cur q e =
   if e then splitGo (tx.drop (k+w)) acc (cur.map (· ++ (tx.drop k).take w)) q false
   else if q then
    (if R=92 then splitGo (tx.drop (k+w)) acc (cur.map (· ++ (tx.drop k).take w)) q true
     else if R=34 then (if atBl (tx.drop (k+1)) then splitGo (tx.drop (k+w)) acc (cur.map (· ++ (tx.drop k).take w)) false false else none)
     else splitGo (tx.drop (k+w)) acc (cur.map (· ++ (tx.drop k).take w)) q false)
   else match cur with
    |none=>if R=32∨R=9 then splitGo (tx.drop (k+w)) acc none false false
     else if acc=[]∧R=35 then some []
     else splitGo (tx.drop (k+w)) acc (some ((tx.drop k).take w)) (decide (R=34)) false
    |some v=>if R=32∨R=9 then splitGo (tx.drop (k+w)) (acc++[v]) none false false
     else splitGo (tx.drop (k+w)) acc (some (v++(tx.drop k).take w)) false false:=by
 rcases h with ⟨rfl,c,hc,hlo,rfl⟩|⟨h1,h2,h3,h4⟩
 ·have hk:k<tx.length:=(List.getElem?_eq_some_iff.1 hc).1
  have hd:tx.drop k=c::tx.drop (k+1):=by
   rw [List.drop_eq_getElem_cons hk];congr 1;exact (List.getElem?_eq_some_iff.1 hc).2
  have ht:(tx.drop k).take 1=[c]:=by rw [hd];rfl
  have cv:∀ n:Nat,n<256→(c=UInt8.ofNat n↔c.toNat=n):=fun n hn=>⟨fun e=>by rw [e,UInt8.toNat_ofNat_of_lt' (by simpa using hn)],fun e=>by apply UInt8.toNat_inj.1;rw [e,UInt8.toNat_ofNat_of_lt' (by simpa using hn)]⟩
  have c32:(c=32)↔c.toNat=32:=cv 32 (by omega)
  have c9:(c=9)↔c.toNat=9:=cv 9 (by omega)
  have c92:(c=92)↔c.toNat=92:=cv 92 (by omega)
  have c34:(c=34)↔c.toNat=34:=cv 34 (by omega)
  have c35:(c=35)↔c.toNat=35:=cv 35 (by omega)
  have hbl:isBl c=true↔(c.toNat=32∨c.toNat=9):=by simp [isBl,c32,c9]
  have hbl34:(c==34)=decide (c.toNat=34):=by rw [Bool.eq_iff_iff];simp [c34]
  rw [ht,hd,splitGo_cons]
  cases cur with
  |none=>simp only [c92,c34,c35,hbl,hbl34]
  |some v=>simp only [c92,c34,c35,hbl,hbl34]
 ·obtain⟨hs,hsd⟩:∃ hs,hs=(tx.drop k).take w:=⟨_,rfl⟩
  have hdr:tx.drop k=hs++tx.drop (k+w):=by rw [hsd,← List.drop_drop,List.take_append_drop]
  have hall:∀ c∈hs,128≤c.toNat:=by
   intro c hc
   rw [hsd] at hc
   obtain⟨j,hj,he⟩:=List.mem_iff_getElem.1 hc
   have hj2:j<w:=by simp at hj;omega
   obtain⟨c',e1,e2⟩:=h3 j hj2
   have:(List.take w (List.drop k tx))[j]? = some c:=by rw [List.getElem?_eq_getElem hj,he]
   rw [List.getElem?_take,if_pos hj2,List.getElem?_drop,e1] at this
   cases this;exact e2
  have hne:hs≠[]:=by
   intro e
   have:=congrArg List.length hsd
   rw [e] at this
   simp at this;omega
  rw [← hsd]
  have n1:¬ R=92:=by omega
  have n2:¬ R=34:=by omega
  have n3:¬ (R=32∨R=9):=by omega
  have n4:¬ R=35:=by omega
  rw [hdr]
  cases hs with
  |nil=>exact absurd rfl hne
  |cons c hs =>
   obtain⟨g1,g2,g3,g4⟩:=hi_not (hall c (.head _))
   have hall2:∀ c∈hs,128≤c.toNat:=fun c hc=>hall c (.tail _ hc)
   simp only [n1,n2,n3,n4,if_false,and_false,decide_false]
   cases e with
   |true =>
    obtain rfl:=he rfl
    cases cur with
    |none=>simp at hq
    |some v=>rw [List.cons_append,splitGo_cons];simp;rw [hi_run _ _ _ _ _ hall2];simp
   |false =>
    cases q with
    |true =>
     cases cur with
     |none=>simp at hq
     |some v=>rw [List.cons_append,splitGo_cons];simp [g2,g3];rw [hi_run _ _ _ _ _ hall2];simp
    |false =>
     cases cur with
     |none=>rw [List.cons_append,splitGo_cons];simp [g1,g4,g2,show (c==34)=false from by simp [g2]];rw [hi_run _ _ _ _ _ hall2];simp
     |some v=>rw [List.cons_append,splitGo_cons];simp [g1];rw [hi_run _ _ _ _ _ hall2];simp
theorem split_len:∀ (r:List UInt8) (acc:List (List UInt8)) (cur:Option (List UInt8)) (q e:Bool) (ws:List (List UInt8)) (B:Nat),splitGo r acc cur q e=some ws→(∀ w∈acc,w.length≤B)→(∀ w,cur=some w→w.length+r.length≤B)→r.length≤B →
  ws.length≤acc.length+r.length+1∧∀ w∈ws,w.length≤B
 | [],acc,cur,q,e,ws,B,h,ha,hc,hr=>by
   rw [splitGo_nil] at h
   split at h<;>first|(cases h;done)|skip
   simp only [Option.some.injEq] at h
   subst h
   cases cur with
   |none=>simp;exact ha
   |some w =>
    simp
    refine fun v hv=>?_
    rcases hv with hv|hv
    ·exact ha v hv
    ·subst hv;have:=hc v rfl;simpa using this
 |c::r,acc,cur,q,e,ws,B,h,ha,hc,hr=>by
  have hc2:∀ w,cur.map (· ++ [c])=some w→w.length+r.length≤B:=by
   intro w hw
   cases cur with
   |none=>cases hw
   |some v=>cases hw;have:=hc v rfl;simp at this ⊢;omega
  have hr2:r.length≤B:=by simp at hr;omega
  have fin:∀ {acc':List (List UInt8)} {cur':Option (List UInt8)} {q' e':Bool},splitGo r acc' cur' q' e'=some ws→acc'.length≤acc.length+1→(∀ w∈acc',w.length≤B)→(∀ w,cur'=some w→w.length+r.length≤B)→ws.length≤acc.length+(c::r).length+1∧∀ w∈ws,w.length≤B:=by
   intro acc' cur' q' e' h' hl ha' hc'
   obtain⟨k1,k2⟩:=split_len r acc' cur' q' e' ws B h' ha' hc' hr2
   exact⟨by simp only [List.length_cons];omega,k2⟩
  rw [splitGo_cons] at h
  repeat' (split at h)
  all_goals first
   | (cases h;done)
   |exact fin h (by omega) ha hc2
   | (simp only [Option.some.injEq] at h;subst h;simp;done)
   | (refine fin h (by omega) ha ?_;intro w hw;cases hw;done)
   | (refine fin h (by omega) ha ?_;intro w hw;cases hw;show 1+r.length≤B;rw [List.length_cons] at hr;omega)
   |exact fin h (by simp) (fun w hw=>by simp at hw;rcases hw with hw|rfl;exact ha w hw;have:=hc w rfl;simp at this;omega) (fun w hw=>by cases hw)
   |exact fin h (by omega) ha (fun w hw=>by cases hw;have:=hc _ rfl;simp at this ⊢;omega)
end Go.Proofs.YtgmkbdmgifdfeaaGreatDoor

namespace Go.Proofs.YtgmkbdmgifdfeaaGreatDoor
open Go
theorem get_at {s:ByteArray} {k:Nat} {c:UInt8} (h:s.data.toList[k]? = some c):s.get! k=c:=by
 have hk:=(List.getElem?_eq_some_iff.1 h).1
 have e:=(List.getElem?_eq_some_iff.1 h).2
 have hk2:k<s.size:=by simpa using hk
 rw [← e]
 show s.get! k=_
 simp only [ByteArray.get!]
 show s.data[k]! = _
 rw [getElem!_pos s.data k (by simpa using hk)]
 simp
theorem dec_hi {s:ByteArray} {k:Nat} {c:UInt8} (h:s.data.toList[k]? = some c) (hc:128≤c.toNat):RuneAt s.data.toList k (Utf8.decode s k).2 (Utf8.decode s k).1:=by
 have hk:=(List.getElem?_eq_some_iff.1 h).1
 have hsz:s.size=s.data.toList.length:=by simp
 have g0:(s.get! (k+0)).toNat=c.toNat:=by rw [Nat.add_zero,get_at h]
 have cont:∀ j,(k+j<s.size&&(s.get! (k+j)).toNat / 64==2)=true→∃ b,s.data.toList[k+j]? = some b∧128≤b.toNat∧b.toNat<192∧(s.get! (k+j)).toNat=b.toNat:=by
  intro j hj
  simp only [Bool.and_eq_true,decide_eq_true_eq,beq_iff_eq] at hj
  obtain⟨h1,h2⟩:=hj
  have hb:s.data.toList[k+j]? = some (s.data.toList[k+j]'(by rw [← hsz];exact h1)):=List.getElem?_eq_getElem _
  generalize s.data.toList[k+j]'(by rw [← hsz];exact h1)=b at hb
  have:=get_at hb
  rw [this] at h2 ⊢
  exact⟨b,hb,by omega,by omega,rfl⟩
 right
 have one:1≤1∧k+1≤s.data.toList.length∧(∀ j,j<1→∃ c,s.data.toList[k+j]? = some c∧128≤c.toNat)∧128≤Utf8.runeError :=
  ⟨Nat.le_refl _,hk,fun j hj=>(by obtain rfl:j=0:=(by omega);exact⟨c,by simpa using h,hc⟩),by decide⟩
 unfold Utf8.decode
 simp only [g0]
 rw [if_neg (by omega)]
 split
 ·rename_i hx
  simp only [Bool.and_eq_true] at hx
  obtain⟨b1,e1,l1,u1,v1⟩:=cont 1 (by simpa using hx.2)
  split
  ·rename_i hy
   refine⟨by omega,?_,fun j hj=>?_,by simpa using hy⟩
   ·have:=(List.getElem?_eq_some_iff.1 e1).1;omega
   ·rcases (show j=0∨j=1 by omega) with rfl|rfl
    ·exact⟨c,by simpa using h,hc⟩
    ·exact⟨b1,e1,l1⟩
  ·exact one
 ·split
  ·rename_i hx
   simp only [Bool.and_eq_true] at hx
   obtain⟨b1,e1,l1,u1,v1⟩:=cont 1 (by simpa using hx.1.2)
   obtain⟨b2,e2,l2,u2,v2⟩:=cont 2 (by simpa using hx.2)
   split
   ·rename_i hy
    simp only [Bool.and_eq_true,decide_eq_true_eq] at hy
    refine⟨by omega,?_,fun j hj=>?_,by have:=hy.1;simp only at this ⊢;omega⟩
    ·have:=(List.getElem?_eq_some_iff.1 e2).1;omega
    ·rcases (show j=0∨j=1∨j=2 by omega) with rfl|rfl|rfl
     ·exact⟨c,by simpa using h,hc⟩
     ·exact⟨b1,e1,l1⟩
     ·exact⟨b2,e2,l2⟩
   ·exact one
  ·split
   ·rename_i hx
    simp only [Bool.and_eq_true] at hx
    obtain⟨b1,e1,l1,u1,v1⟩:=cont 1 (by simpa using hx.1.1.2)
    obtain⟨b2,e2,l2,u2,v2⟩:=cont 2 (by simpa using hx.1.2)
    obtain⟨b3,e3,l3,u3,v3⟩:=cont 3 (by simpa using hx.2)
    split
    ·rename_i hy
     simp only [Bool.and_eq_true,decide_eq_true_eq] at hy
     refine⟨by omega,?_,fun j hj=>?_,by have:=hy.1;simp only at this ⊢;omega⟩
     ·have:=(List.getElem?_eq_some_iff.1 e3).1;omega
     ·rcases (show j=0∨j=1∨j=2∨j=3 by omega) with rfl|rfl|rfl|rfl
      ·exact⟨c,by simpa using h,hc⟩
      ·exact⟨b1,e1,l1⟩
      ·exact⟨b2,e2,l2⟩
      ·exact⟨b3,e3,l3⟩
    ·exact one
   ·exact one
end Go.Proofs.YtgmkbdmgifdfeaaGreatDoor

