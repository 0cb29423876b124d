/- 'halyardlaw21.ScriptOwn' returns true, and its argument reads as it did: of every text, in every world that holds the listed variables of Go's library. The card. -/
import Derived.ChangeMaps5
import Derived.Deep.DeepHandedRow
import Derived.LaidMore
import Derived.Lay
import Derived.Lib.LaidTab
import Derived.ReadAgain
import Derived.SevenTiedAt
import Derived.Stop.Joined
import Derived.Test.YtgmkbdmgifdfeaaGreatDoorCards
import Derived.Test.YtgmkbdmgifdfeaaGreatDoorTie
import Derived.Test.YtgmkbdmgifdfeaaGreatDoorF26
set_option linter.unusedVariables false
set_option linter.unusedSimpArgs false
set_option maxRecDepth 100000
namespace Go.Proofs.YtgmkbdmgifdfeaaGreatDoor
open Go Go.Ev Go.RowKit
theorem laidVars_row {P:Program} {w:World}:∀ {l:List (String × DataW Unit)} {ps:List MemPlace},DataW.LaidVars P w l ps→∀ n d,(n,d)∈l →
  ∃ g t cs fuel p,P.globalNamed n=some g∧(P.globals[g]?).map (·.type)=some t∧w.var? P n=some cs∧DataW.trod (fun _=>()) P w 0 (fun _=>true) false fuel t cs.toList=some (d,p)∧∀ x∈MemPlace.row ⟨g,0,none⟩ cs.size,x∈ps
 | [],_,_,_,_,hm=>by cases hm
 | (n',d')::r,ps,h,n,d,hm=>by
   obtain⟨g,t,cs,fuel,p,q,h1,h2,h3,h4,h5,h6⟩:=h
   rcases List.mem_cons.1 hm with e|e
   ·cases e
    exact⟨g,t,cs,fuel,p,h1,h2,h3,h4,fun x hx=>by rw [h6];simp [hx]⟩
   ·obtain⟨g',t',cs',fuel',p',k1,k2,k3,k4,k5⟩:=laidVars_row h5 n d e
    exact⟨g',t',cs',fuel',p',k1,k2,k3,k4,fun x hx=>by rw [h6];simp [k5 x hx]⟩
theorem laid_row {P:Program} {w:World} {l:List (String × DataW Unit)} (h:laidMet P l w) {n:String} {d:DataW Unit} (hm:(n,d)∈l) {g0:Nat} (hg:P.globalNamed n=some g0) :
  ∃ t cs fuel p,(P.globals[g0]?).map (·.type)=some t∧w.var? P n=some cs∧DataW.trod (fun _=>()) P w 0 (fun _=>true) false fuel t cs.toList=some (d,p)∧(0<cs.size→∃ t',w.heap[g0]? = some (.cells cs t' (0,0))):=by
 obtain⟨ps,hv,hn,hr⟩:=h
 obtain⟨g,t,cs,fuel,p,k1,k2,k3,k4,k5⟩:=laidVars_row hv n d hm
 obtain rfl:=Option.some.inj (hg.symm.trans k1)
 refine⟨t,cs,fuel,p,k2,k3,k4,fun hpos=>?_⟩
 obtain⟨⟨c,t',hc⟩,_⟩:=hr g0 0 (k5 _ (MemPlace.mem_row.2 ⟨0,hpos,by simp⟩))
 have:=k3
 simp only [World.var?,hg,Option.bind_some,hc,Option.some.injEq] at this
 subst this
 exact⟨t',hc⟩
theorem pow10_data:(Rows.laid_internal_strconv_uint64pow10:DataW Unit)=Lib.tabData .u64 ((List.range 20).map fun i=>((10 ^ i:Nat):Int)):=by kernel_rfl
theorem und165:Tryz.prog.underlying 177=some (.array 20 22):=by kernel_rfl
theorem cells177:Tryz.prog.cellsOf 177=20:=by kernel_rfl
theorem tPow10:(Tryz.prog.globals[0]?).map (·.type)=some 177:=by kernel_rfl
theorem gErrRange:Tryz.prog.globalNamed "strconv.ErrRange" = some 7:=by kernel_rfl
theorem of_laid {laid:List (String × DataW Unit)} {W:World} (h:laidMet Tryz.prog laid W) (h1:("internal/strconv.uint64pow10",Rows.laid_internal_strconv_uint64pow10)∈laid) (h2:("strconv.ErrRange",Rows.laid_strconv_ErrRange)∈laid) :
  8≤W.heap.size∧∃ t,W.heap[0]? = some (.cells ⟨pow10Cells⟩ t (0,0)):=by
 constructor
 ·obtain⟨t,cs,fuel,p,_,hv,_⟩:=laid_row h h2 gErrRange
  simp only [World.var?,gErrRange,Option.bind_some] at hv
  split at hv<;>first|(simp at hv;done)|skip
  rename_i hb
  have:=(Array.getElem?_eq_some_iff.1 hb).1
  omega
 ·obtain⟨t,cs,fuel,p,ht,hv,hd,hr⟩:=laid_row h h1 pow_gName
  obtain rfl:=Option.some.inj (tPow10.symm.trans ht)
  rw [pow10_data] at hd
  have hc:=Lib.cells_of_tab und165 Tryz.underlying22 (by kernel_rfl) cells177 hd
  have hc2:cs=⟨pow10Cells⟩:=by
   apply Array.ext'
   rw [hc,List.map_map]
   rfl
  subst hc2
  exact hr (by simp [pow10Cells])
theorem pow_abs {W:World} {t:TypeId} (h8:8≤W.heap.size) (h:W.heap[0]? = some (.cells ⟨pow10Cells⟩ t (0,0))):PowAt (absM W):=by
 refine⟨by show 0<W.heap.size;omega,t,?_⟩
 unfold vw
 rw [absM_get,h]
 show vwRow false (absRow W.heap.size ⟨pow10Cells⟩ t (0,0))=_
 refine vwRow_of (cs:=pow10Cells) (by rfl) (by simp [absRow]) fun i=>?_
 rw [absRow_cell]
 by_cases hi:i<20
 ·have hl:i<pow10Cells.length:=by simpa [pow10Cells] using hi
  rw [show (⟨pow10Cells⟩:Array Value)[i]? = some pow10Cells[i] from by simp [hl],List.getElem?_eq_getElem hl]
  simp [pow10Cells,absC]
 ·rw [Array.getElem?_eq_none (by simp [pow10Cells];omega),List.getElem?_eq_none (by simp [pow10Cells];omega)];rfl
end Go.Proofs.YtgmkbdmgifdfeaaGreatDoor

set_option maxRecDepth 100000
namespace Go.Proofs.YtgmkbdmgifdfeaaGreatDoor
open Go Go.Ev Go.ChangeShapes Go.WideShapes Go.ChangeAt Go.RowKit Go.ChangeMaps
abbrev laidOwn:List (String × DataW Unit):=Rows.scriptOwnRow.laid
theorem own_calls {W:World} {s:ByteArray} (h8:8≤W.heap.size) (hE:ErrAt (absM W)) (hP:PowAt (absM W)) (hs:s.data.toList.length≤9223372036854775807) :
  Calls Tryz.prog 9 #[.string s] W fun e w'=>e=.returned (.bool true)∧Below W.heap.size W w':=by
 have hm:=absM_met W (by omega)
 have hc:=own_ok (m:=absM W) (tx:=s.data.toList) hE hP h8 hs
 have hc2:=hc.mono (R':=fun out m'=>∃ r,out=.ret r∧r=.bool true) (fun o m' h=>by
  cases o with
  |ret r=>exact⟨r,rfl,h⟩
  |pan ch=>exact h.elim)
 have ha:VRs (Env.globs W.heap.size) [.string ⟨⟨s.data.toList⟩⟩] [.string s]:=.cons (.string _) .nil
 refine (calls_out (fun I => @pkTb I W.heap.size W) hm (fun g hg=>globs_at (by omega)) ha hc2).mono ?_
 rintro e w' ⟨r,r',E',m',rfl,rfl,hr,hM⟩
 cases hr
 exact⟨rfl,hM.base⟩
theorem ownK:ownKnob Tryz.prog.godebug=none:=by kernel_rfl
theorem lifted (os:Os) (started:os.Started) (H:Type) (enc:TypeId × Value→H) :
  ReturnsInHanded {} Tryz.checked os 9 .any (fun w args=>(Rows.scriptOwnSpec.pre enc Tryz.prog Tryz.f9 [] false w args∧laidMetH Tryz.prog laidOwn w)∧sizedMet enc Tryz.prog Tryz.f9 (OpenSpec.ofChange Rows.scriptOwnSpec) false w args)
   (Rows.scriptOwnSpec.post enc Tryz.prog Tryz.f9 false true false false):=by
 refine returnsInHanded_of_change_and (C:=Tryz.checked) (X:=fun w _=>laidMetH Tryz.prog laidOwn w) (fun _ _ _ hh h=>h.of_heap hh) ownK started (by kernel_rfl) Tryz.func9
  (ChangeSpec.witness_shaped (enc:=enc) (C:=Tryz.checked) (os:=os) (X:=fun w _=>laidMetH Tryz.prog laidOwn w) false (World.laidAll Tryz.prog os laidOwn) #[.string ⟨⟨[]⟩⟩] 8 (World.laidAll_os _ _ _)
   (World.shaped_of_ZipB (by kernel_rfl) (by kernel_rfl)) (by kernel_rfl) (by kernel_rfl) (by kernel_rfl)
   (by rw [MakeChecks.laidMetH_plain _ _ _ (by kernel_rfl)];exact laidMet_laidAll _ (by kernel_rfl) (by kernel_rfl))) ?_
 intro W base args ds gs before hval hW _ _ hL _
 rw [MakeChecks.laidMetH_plain _ _ _ (by kernel_rfl)] at hL
 have hW':=hW
 obtain⟨p,q,hA0,hV,rfl,hfz,hnd⟩:=hW
 have hA:DataW.TrodAll enc Tryz.prog W 0 (fun _=>true) true Tryz.f9.params.toList args.toList ds p:=hA0
 rw [Tryz.params9] at hA hval
 obtain⟨v0,vs0,d0,ds0,p0,q0,hargs,rfl,rfl,h0,r0⟩:=trodAll_cons hA
 obtain⟨rfl,rfl,rfl⟩:=trodAll_nil r0
 obtain rfl:args = #[v0]:=by cases args;simp_all
 obtain⟨rfl,rfl⟩:=trodVars_none hV
 clear hA0 hA r0
 simp only [List.append_nil] at hW'
 obtain⟨s,rfl,rfl,rfl,hs⟩:=open_string Tryz.underlying9 (hval 0 9 v0 (by simp) (by simp)) h0
 obtain⟨h8,hE⟩:=err_abs hL
 obtain⟨-,tp,htp⟩:=of_laid hL (by simp [laidOwn,Rows.scriptOwnRow]) (by simp [laidOwn,Rows.scriptOwnRow])
 have hP:=pow_abs h8 htp
 have hm:maxLen=9223372036854775807:=by kernel_rfl
 rw [hm] at hs
 have hsz:s.data.toList.length=s.size:=Array.length_toList
 refine (own_calls h8 hE hP (by rw [hsz];exact hs)).mono fun e W' ⟨he,hb⟩=>?_
 subst he
 refine⟨_,rfl,_,_,_,[],[]++[],[],hW',trodAll_mk1 (shut_bool Tryz.underlying4 _),?_,rfl,hb.frame _,fun h=>by cases h⟩
 rw [Tryz.params9]
 exact⟨[],[],shut_string Tryz.underlying9 (by rw [hm];exact hs),rfl,rfl⟩
theorem scriptOwn_holds:Rows.ScriptOwnSaid :=
 OpenClaim.holds_of_wide 9 Tryz.f9 rfl rfl rfl rfl rfl rfl rfl ⟨rfl,rfl,rfl,rfl,rfl⟩ rfl rfl rfl rfl rfl (by kernel_rfl) Tryz.func9 (by kernel_rfl)
  (of_decide_eq_true (by kernel_rfl)) (by unfold Func.isWrapper;first|(rw [if_pos (by decide +kernel)];kernel_rfl)|(rw [if_neg (by decide +kernel)];exact⟨rfl,rfl⟩))
  (fun os started H enc _=>lifted os started H enc)
theorem scriptOwn_card:Rows.ScriptOwnCardSaid :=
 Claim7.holds_tied_plain_at .later [] _ _ _ _ scriptOwn_holds (fun _ h=>by cases h) (by kernel_rfl) (fun _ h=>by cases h) scriptOwn_row_tie rfl ⟨rfl,rfl⟩ (by kernel_rfl) rfl
  (fun f fn hf hfn=>by
   obtain rfl:f=9:=Option.some.inj ((show Tryz.prog.funcNamed "halyard/halyardlaw21.ScriptOwn" = some 9 by kernel_rfl).symm.trans hf) |>.symm
   obtain rfl:fn=Tryz.f9:=(Option.some.inj (Tryz.func9.symm.trans hfn)).symm
   exact⟨by kernel_rfl,fun j t ht=>by
    rw [Tryz.params9] at ht
    have hm:=Array.mem_of_getElem? ht
    simp only [List.mem_toArray,List.mem_cons,List.not_mem_nil,or_false] at hm
    subst hm
    exact (show Tryz.prog.wantsStandIn 9=false by kernel_rfl)⟩)
  (by kernel_rfl)
end Go.Proofs.YtgmkbdmgifdfeaaGreatDoor

