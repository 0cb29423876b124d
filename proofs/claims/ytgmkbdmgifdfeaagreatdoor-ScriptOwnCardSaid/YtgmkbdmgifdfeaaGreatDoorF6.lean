/- A part of a proof: ScriptOwn. -/
import Derived.Laws.RangeString
import Derived.Test.YtgmkbdmgifdfeaaGreatDoorF5
set_option linter.unusedVariables false
set_option linter.unusedSimpArgs false
namespace Go.Ev
open Go.RowKit
section
variable {tb:Tabs} {N:Nat} {w0:World} {E:Env} {m:Mem} {w:World}
theorem MR.newOb (H:MR tb.p N w0 E m w) {o:AObj} {ob:Obj} (ho:o.own=true) {sh ex:Nat} (hob:∀ E',Env.le E E'→ObjR tb.p E' ⟨w.heap.size,sh,ex⟩ o ob) :
  ∃ E',E' m.next=some ⟨w.heap.size,sh,ex⟩∧MR tb.p N w0 E' (newObjA m o) { w with heap:=w.heap.push ob }∧MExt m.next E m E' (newObjA m o)∧Env.le E E':=by
 have hn:=(H.dom m.next (Nat.le_refl _)).2
 have HM:=(H.lay o).mat (b:=m.next) (o:=o) (ob:=ob) (w' := { w with heap:=w.heap.push ob }) (sh:=sh) (ex:=ex) hn (by rw [get_newObjA,if_pos rfl]) (by rw [next_newObjA];omega) ho rfl rfl rfl rfl (hob _ (Env.add_le hn))
 exact⟨_,Env.add_at,HM,(MExt.lay H _).trans (MExt.mat hn (Nat.le_refl _)),Env.add_le hn⟩
theorem run_rangeA (ok:TabsOk tb) (H:MR tb.p N w0 E m w) {t:TypeId} {x x' v:Value} (hx:VR E x x') {m':Mem} (h:rangeA tb t m x=some (v,m')):WrOk tb N w0 E m w v m' (Instr.range t x'):=by
 unfold rangeA at h
 obtain⟨i,hi,h1⟩:=oB_some.1 h
 clear h
 have fin:∀ (o:AObj) (ob:Obj),o.own=true→(∀ E',Env.le E E'→ObjR tb.p E' ⟨w.heap.size,0,0⟩ o ob)→v=.pointer (some ⟨m.next,0,none⟩)→m'=newObjA m o →
   (Instr.range t x').run tb.p w=.ok (.pointer (some ⟨w.heap.size,0,none⟩)) { w with heap:=w.heap.push ob }→WrOk tb N w0 E m w v m' (Instr.range t x'):=by
  intro o ob ho hob hv hm hrun
  obtain⟨E',e1,e2,e3,_⟩:=H.newOb ho hob
  refine⟨_,_,E',hrun,?_,by rw [hm];exact e2,by rw [hm];exact e3⟩
  rw [hv]
  exact .ptr (o:=0) e1
 split at h1<;>first|(simp at h1;done)|skip
 ·rename_i s hd
  simp only [Option.some.injEq,Prod.mk.injEq] at h1
  cases hx
  exact fin _ (.stringIter s 0) rfl (fun E' _=>.strIter rfl (by simp)) h1.1.symm h1.2.symm (by simp [Instr.range,run_ty ok hi,hd])
 ·rename_i kt et hd
  simp only [Option.some.injEq,Prod.mk.injEq] at h1
  cases hx
  exact fin _ (.mapIter none 0 #[] 0) rfl (fun E' _=>.mapIter0 _ _ _ rfl) h1.1.symm h1.2.symm (by simp [Instr.range,run_ty ok hi,hd])
 ·rename_i kt et r hd
  obtain⟨⟨es,c⟩,hm,h2⟩:=oB_some.1 h1
  simp only [Option.some.injEq,Prod.mk.injEq] at h2
  cases hx with
  | @map _ j hE =>
    obtain⟨es',hh,hes⟩:=H.map hE hm
    exact fin _ (.mapIter (some j.blk) c #[] c) rfl (fun E' hle=>.mapIter _ _ _ rfl (hle _ _ hE)) h2.1.symm h2.2.symm (by simp [Instr.range,run_ty ok hi,hd,run_getMap hh])
theorem putIter (H:MR tb.p N w0 E m w) {b:Nat} {i:Info} (hE:E b=some i) {o o2:AObj} (hg:m.objs.get b=some o) (ho:o.own=true) (ho2:o2.own=true) {ob ob2:Obj} (hh:w.heap[i.blk]? = some ob) (hnc:∀ c e f,ob≠.cells c e f) (h2:ObjR tb.p E i o2 ob2) :
  (setObj i.blk ob2).run tb.p w=.ok () { w with heap:=w.heap.setIfInBounds i.blk ob2 }∧MR tb.p N w0 E (putObj m b o2) { w with heap:=w.heap.setIfInBounds i.blk ob2 }:=by
 have hlt:i.blk<w.heap.size:=(Array.getElem?_eq_some_iff.1 hh).1
 refine⟨?_,?_⟩
 ·cases ob<;>first|(simp [setObj,Sem.run,hh];done)|exact absurd rfl (hnc _ _ _)
 ·refine H.put hE hg ho (.inl ho2) (by simp) ?_ rfl rfl rfl fun _=>⟨_,by simp [hlt],h2⟩
  intro k hk
  simp only [Array.getElem?_setIfInBounds]
  rw [if_neg (fun e=>hk e.symm)]
theorem run_nextStr (H:MR tb.p N w0 E m w) {b:Nat} {i:Info} (hE:E b=some i) (hs0:i.shift=0) {s:ByteArray} {pos:Nat} {rest:List UInt8} (hg:m.objs.get b=some (.strIter s pos rest)) (hh:w.heap[i.blk]? = some (.stringIter s pos)) (hr:rest=s.data.toList.drop pos)
  {v:Value} {m':Mem} (h:nextStr m b s pos rest=some (v,m')) (ty:TypeId):WrOk tb N w0 E m w v m' (Instr.next (.pointer (some ⟨i.blk,0,none⟩)) true ty):=by
 have hget:(getObj i.blk).run tb.p w=.ok (.stringIter s pos) w:=by simp [getObj,Sem.run,hh]
 unfold nextStr at h
 split at h
 ·rename_i c rest
  have hlt:pos<s.size:=by
   have:(s.data.toList.drop pos).length=rest.length+1:=by rw [← hr];rfl
   simp only [List.length_drop,Array.length_toList] at this
   show pos<s.data.size
   omega
  split at h
  rotate_left
  ·simp only [Option.some.injEq,Prod.mk.injEq] at h
   obtain⟨rfl,rfl⟩:=h
   obtain⟨p1,p2⟩:=putIter H hE hg rfl (o2:=.strIter s (pos+(Utf8.decode s pos).2) (s.data.toList.drop (pos+(Utf8.decode s pos).2))) rfl hh (by simp) (ob2:=.stringIter s (pos+(Utf8.decode s pos).2)) (.strIter hs0 rfl)
   refine⟨.tuple #[.bool true,goInt pos,.int .i32 (Utf8.decode s pos).1],_,E,?_,.tuple (.cons (.bool _) (.cons (by rw [vInt_eq];exact .int _ _) (.cons (by rw [vInt_eq];exact .int _ _) .nil))),p2,.put _ hE⟩
   unfold Instr.next
   simp only [Sem.run_bind,hget,Result.andThen_ok]
   rw [if_pos hlt]
   simp only [Sem.run_bind,p1,Result.andThen_ok]
   rfl
  rename_i hc
  have hc:c.toNat<128:=by simpa [Nat.blt_eq] using hc
  simp only [Option.some.injEq,Prod.mk.injEq] at h
  obtain⟨rfl,rfl⟩:=h
  have hcp:s[pos]'hlt=c:=by
   have h1:(s.data.toList.drop pos)[0]? = some c:=by rw [← hr];rfl
   rw [List.getElem?_drop,Nat.add_zero] at h1
   have h2:=(List.getElem?_eq_some_iff.1 h1).2
   rw [← h2];rfl
  have hdec:=decode_ascii s pos hlt (by rw [hcp];exact hc)
  rw [hcp] at hdec
  obtain⟨p1,p2⟩:=putIter H hE hg rfl (o2:=.strIter s (pos+1) rest) rfl hh (by simp) (ob2:=.stringIter s (pos+1)) (.strIter hs0 (by rw [List.drop_add_one_eq_tail_drop,← hr];rfl))
  refine⟨.tuple #[.bool true,goInt pos,.int .i32 c.toNat],_,E,?_,.tuple (.cons (.bool _) (.cons (by rw [vInt_eq];exact .int _ _) (.cons (by rw [vInt_eq];exact .int _ _) .nil))),p2,.put _ hE⟩
  unfold Instr.next
  simp only [Sem.run_bind,hget,Result.andThen_ok]
  rw [if_pos hlt,hdec]
  simp only [Sem.run_bind,p1,Result.andThen_ok]
  rfl
 ·simp only [Option.some.injEq,Prod.mk.injEq] at h
  obtain⟨rfl,rfl⟩:=h
  have hge:¬ pos<s.size:=by
   have:(s.data.toList.drop pos).length=0:=by rw [← hr];rfl
   simp only [List.length_drop,Array.length_toList] at this
   show ¬ pos<s.data.size
   omega
  refine⟨.tuple #[.bool false],w,E,?_,.tuple (.cons (.bool _) .nil),H,.refl _ _ _⟩
  unfold Instr.next
  simp only [Sem.run_bind,hget,Result.andThen_ok]
  rw [if_neg hge];rfl
theorem unseen_rel {E:Env} {seen:List Nat}:∀ {es es':List MapEntry},EntR E es es'→EntR E (unseen seen es) (es'.filter fun e=>!seen.contains e.born):=by
 intro es es' h
 induction h with
 |nil=>exact .nil
 | @cons k k' v v' b l l' hk hv t ih =>
   have:(seen.any (Nat.beq b))=seen.contains b:=by
    rw [List.contains_eq_any_beq]
    congr 1;funext x
    rw [beq_dec];simp [BEq.beq,instBEqOfDecidableEq]
   simp only [unseen,List.filter_cons,this]
   cases seen.contains b with
   |true=>exact ih
   |false=>exact .cons hk hv ih
theorem born_rel {E:Env} {es es':List MapEntry} (h:EntR E es es') {p:Nat→Bool} (ha:es.all (fun e=>p e.born)=true):∀ e∈es',p e.born=true:=by
 induction h with
 |nil=>simp
 |cons hk hv t ih =>
  rw [List.all_cons,Bool.and_eq_true] at ha
  intro e he
  rcases List.mem_cons.1 he with rfl|he
  ·exact ha.1
  ·exact ih ha.2 e he
theorem run_nextMap (H:MR tb.p N w0 E m w) {b r:Nat} {i j:Info} (hE:E b=some i) (hr:E r=some j) (hs0:i.shift=0) {since last:Nat} {seen:List Nat} (hg:m.objs.get b=some (.mapIter (some r) since seen last)) (hh:w.heap[i.blk]? = some (.mapIter (some j.blk) since ⟨seen⟩ last))
  {v:Value} {m':Mem} (h:nextMap m b r since seen last=some (v,m')) (ty:TypeId):WrOk tb N w0 E m w v m' (Instr.next (.pointer (some ⟨i.blk,0,none⟩)) false ty):=by
 have hget:(getObj i.blk).run tb.p w=.ok (.mapIter (some j.blk) since ⟨seen⟩ last) w:=by simp [getObj,Sem.run,hh]
 unfold nextMap at h
 obtain⟨⟨es,c⟩,hm,h1⟩:=oB_some.1 h
 clear h
 simp only at h1
 obtain⟨es',hh',hes⟩:=H.map hr hm
 split at h1<;>first|(simp at h1;done)|skip
 rename_i hck
 simp only [Bool.and_eq_true] at hck
 obtain⟨⟨k1,k2⟩,k3⟩:=hck
 have k2:=Nat.eq_of_beq_eq_true k2
 have k3:=Nat.le_of_ble_eq_true k3
 subst k2
 have hborn:∀ e∈es',e.born<since:=fun e he=>by simpa [Nat.blt_eq] using born_rel hes (p:=fun n=>Nat.blt n since) k1 e he
 have hguard:(!(⟨seen⟩:Array Nat).isEmpty&&!(⟨es'⟩:Array MapEntry).isEmpty&&(⟨es'⟩:Array MapEntry).all (·.born≥last))=false:=by
  cases es' with
  |nil=>simp
  |cons e es' =>
   have:=hborn e (by simp)
   have hne:¬ last≤e.born:=by omega
   simp [hne]
 have hleft:(⟨es'⟩:Array MapEntry).filter (fun e=>!(⟨seen⟩:Array Nat).contains e.born)=⟨es'.filter fun e=>!seen.contains e.born⟩:=by
  apply Array.ext'
  simp
 have hrel:=unseen_rel (seen:=seen) hes
 have hL:∀ e∈es'.filter (fun e=>!seen.contains e.born),e.born<since:=fun e he=>hborn e (List.mem_filter.1 he).1
 generalize hLd:es'.filter (fun e=>!seen.contains e.born)=L at hrel hL hleft
 have hold:(⟨L⟩:Array MapEntry).filter (·.born<since)=⟨L⟩:=by
  apply Array.ext'
  simp only [Array.toList_filter]
  exact List.filter_eq_self.2 fun e he=>by simpa using hL e he
 have hnew:(⟨L⟩:Array MapEntry).filter (·.born≥since) = #[]:=by
  apply Array.ext'
  simp only [Array.toList_filter]
  exact List.filter_eq_nil_iff.2 fun e he=>by have:=hL e he;simp;omega
 have hrun:(Instr.next (.pointer (some ⟨i.blk,0,none⟩)) false ty).run tb.p w =
   ((choose (.mapNext ((if (⟨L⟩:Array MapEntry).isEmpty then #[none] else #[])++((⟨L⟩:Array MapEntry) ++ #[]).map some).size)).run tb.p w).andThen fun n w =>
     (match ((if (⟨L⟩:Array MapEntry).isEmpty then #[none] else #[])++((⟨L⟩:Array MapEntry) ++ #[]).map some)[n]? with
      |some (some e)=>(do setObj i.blk (.mapIter (some j.blk) since ((⟨seen⟩:Array Nat).push e.born) last);pure (.tuple #[.bool true,e.key,e.val]):Sem Value)
      |some none=>pure (.tuple #[.bool false])
      |none=>stuck "Next: no such candidate").run tb.p w:=by
  unfold Instr.next
  simp only [Sem.run_bind,hget,Result.andThen_ok,run_getMap hh',hguard,Bool.false_eq_true,if_false,hleft,hold,hnew]
  congr 1
 split at h1
 ·rename_i hu
  rw [hu] at hrel
  cases hrel
  simp only [Option.some.injEq,Prod.mk.injEq] at h1
  obtain⟨rfl,rfl⟩:=h1
  refine⟨.tuple #[.bool false],w,E,?_,.tuple (.cons (.bool _) .nil),H,.refl _ _ _⟩
  rw [hrun]
  simp [Question.forced]
 ·rename_i e hu
  rw [hu] at hrel
  simp only [Option.some.injEq,Prod.mk.injEq] at h1
  obtain⟨rfl,rfl⟩:=h1
  cases hrel with
  | @cons k k' v v' b0 l l' hk hv t =>
  cases t
  obtain⟨p1,p2⟩:=putIter H hE hg rfl (o2:=.mapIter (some r) since (seen++[b0]) last) rfl hh (by simp) (ob2:=.mapIter (some j.blk) since ⟨seen++[b0]⟩ last) (.mapIter _ _ _ hs0 hr)
  refine⟨.tuple #[.bool true,k',v'],_,E,?_,.tuple (.cons (.bool _) (.cons hk (.cons hv .nil))),p2,.put _ hE⟩
  rw [hrun]
  have hp:(⟨seen⟩:Array Nat).push b0=⟨seen++[b0]⟩:=by simp
  simp [Question.forced]
  rw [p1]
  rfl
 ·simp at h1
theorem run_nextA (H:MR tb.p N w0 E m w) {it it' v:Value} (hit:VR E it it') {isS:Bool} {m':Mem} (h:nextA m it isS=some (v,m')) (ty:TypeId):WrOk tb N w0 E m w v m' (Instr.next it' isS ty):=by
 unfold nextA at h
 split at h<;>first|(simp at h;done)|skip
 rename_i b
 cases hit with
 | @ptr _ _ i hE =>
 split at h<;>first|(simp at h;done)|skip
 ·rename_i s pos rest hg
  split at h<;>first|(simp at h;done)|skip
  obtain⟨ob,h2,h3⟩:=H.objs _ _ _ hE hg rfl
  cases h3 with
  |strIter hs hr =>
   simp only [hs,Nat.add_zero]
   exact run_nextStr H hE hs hg h2 hr h ty
 ·rename_i since seen st hg
  split at h<;>first|(simp at h;done)|skip
  simp only [Option.some.injEq,Prod.mk.injEq] at h
  obtain⟨rfl,rfl⟩:=h
  obtain⟨ob,h2,h3⟩:=H.objs _ _ _ hE hg rfl
  cases h3 with
  |mapIter0 _ _ _ hs =>
   refine⟨.tuple #[.bool false],w,E,?_,.tuple (.cons (.bool _) .nil),H,.refl _ _ _⟩
   have hget:(getObj i.blk).run tb.p w=.ok (.mapIter none since ⟨seen⟩ st) w:=by simp [getObj,Sem.run,h2]
   unfold Instr.next
   simp only [hs,Nat.add_zero,Sem.run_bind,hget,Result.andThen_ok]
   rfl
 ·rename_i r since seen last hg
  split at h<;>first|(simp at h;done)|skip
  obtain⟨ob,h2,h3⟩:=H.objs _ _ _ hE hg rfl
  cases h3 with
  |mapIter _ _ _ hs hr =>
   simp only [hs,Nat.add_zero]
   exact run_nextMap H hE hr hs hg h2 h ty
end
end Go.Ev

namespace Go.Ev
open Go.RowKit
def NxR (E:Env) (v:Value) (nx:Next):Prop:=(∃ v',nx=.value v'∧VR E v v')∨(nx=.skip∧v=undef)
def OpOut (tb:Tabs) (N:Nat) (w0:World) (E:Env) (m:Mem) (w:World) (r:OR) (s:Sem Next):Prop :=
 match r with
 | .r v=>∃ nx,s.run tb.p w=.ok nx w∧NxR E v nx
 | .f ob mk=>∀ b,E b=none→∃ v' w' o' sh ex,s.run tb.p w=.ok (.value v') w'∧w'.heap=w.heap.push o'∧w'.os=w.os∧w'.tape=w.tape∧w'.output=w.output ∧
   ObjR tb.p (E.add b ⟨w.heap.size,sh,ex⟩) ⟨w.heap.size,sh,ex⟩ ob o'∧VR (E.add b ⟨w.heap.size,sh,ex⟩) (mk b) v'∧ob.own=true
 | .e v m'=>∃ nx w' E',s.run tb.p w=.ok nx w'∧NxR E' v nx∧MR tb.p N w0 E' m' w'∧MExt m.next E m E' m'
 | .c=>True
 | .bad=>True
section
variable {tb:Tabs} {N:Nat} {w0:World} {E:Env} {m:Mem} {w:World}
theorem OpOut.of {r:OR} {s:Sem Value} (h:OpRes tb N w0 E m w r s):OpOut tb N w0 E m w r (do pure (.value (← s))):=by
 cases r with
 |r v=>obtain⟨v',h1,h2⟩:=h;exact⟨_,by simp [h1],.inl ⟨v',rfl,h2⟩⟩
 |f ob mk =>
  intro b hb
  obtain⟨v',w',o',sh,ex,h1,h2⟩:=h b hb
  exact⟨v',w',o',sh,ex,by simp [h1],h2⟩
 |e v m' =>
  obtain⟨v',w',E',h1,h2,h3⟩:=h
  exact⟨_,w',E',by simp [h1],.inl ⟨v',rfl,h2⟩,h3⟩
 |c=>trivial
 |bad=>trivial
theorem OpOut.ofU {r:OR} {s:Sem Unit} (h:OpResU tb N w0 E m w r s):OpOut tb N w0 E m w r (do s;pure .skip):=by
 cases r with
 |r v=>exact h.elim
 |f ob mk=>exact h.elim
 |e v m' =>
  obtain⟨rfl,w',E',h1,h2⟩:=h
  exact⟨.skip,w',E',by simp [h1],.inr ⟨rfl,rfl⟩,h2⟩
 |c=>trivial
 |bad=>trivial
theorem OpRes.ofR {x:Option Value} {s:Sem Value} (h:∀ v,x=some v→RdOk tb E w v s):OpRes tb N w0 E m w (oR x) s:=by
 cases x with
 |none=>exact trivial
 |some v=>exact h v rfl
theorem OpRes.ofE {x:Option (Value × Mem)} {s:Sem Value} (h:∀ v m',x=some (v,m')→WrOk tb N w0 E m w v m' s):OpRes tb N w0 E m w (oE x) s:=by
 cases x with
 |none=>exact trivial
 |some x=>obtain⟨v,m'⟩:=x;exact h v m' rfl
theorem evs_rel {t:T Value} {ρ : Operand→Value}:∀ {l:List Operand},(∀ x∈l,VR E (ev t x) (ρ x))→VRs E (evs t l) (l.map ρ)
 | [],_=>.nil
 |x::l,h=>.cons (h x (by simp)) (evs_rel fun y hy=>h y (by simp [hy]))
theorem evP_rel {t:T Value} {ρ : Operand→Value}:∀ {l:List (Nat × Operand)},(∀ x∈l.map (·.2),VR E (ev t x) (ρ x))→PartsR E (evP t l) (l.map fun (i,x)=>(i,ρ x))
 | [],_=>.nil
 | (i,x)::l,h=>.cons (h x (by simp)) (evP_rel fun y hy=>h y (by simp at hy ⊢;exact .inr hy))
theorem evO_rel {t:T Value} {ρ : Operand→Value}:∀ {o:Option Operand},(∀ x,o=some x→VR E (ev t x) (ρ x))→OVR E (evO t o) (o.map ρ)
 |none,_=>.none
 |some x,h=>.some (h x rfl)
def nilCheckS (x:Value):Sem Next :=
 match x with
  | .pointer none | .nilIface | .nilFunc=>runtimePanic .nilDeref
  | .func (.method name) first captured =>
    match (first[0]? : Option Value) with
    |some .nilIface=>runtimePanic .nilDeref
    |some (.iface t w)=>do
     if (← nilAhead ((← program).types.size+Made.depth) t w name) != some false then
      unsupported (.noEntry "op/nilCheck.the method's receiver behind this interface value is a nil pointer, or cannot be seen to be none, and the arguments act or may panic (ledger 612)")
     pure (.value (.func (.method name) first captured))
    |_=>pure (.value (.func (.method name) first captured))
  |x=>pure (.value x)
theorem VRs.one {E:Env} {x:Value} {l':List Value} (h:VRs E [x] l'):∃ x',l'=[x']∧VR E x x':=by
 cases h with|cons h t=>cases t;exact⟨_,rfl,h⟩
theorem VRs.two {E:Env} {x y:Value} {l':List Value} (h:VRs E [x,y] l'):∃ x' y',l'=[x',y']∧VR E x x'∧VR E y y':=by
 cases h with|cons h t=>cases t with|cons h2 t=>cases t;exact⟨_,_,rfl,h,h2⟩
theorem VRs.hd {E:Env} {x:Value} {l l':List Value} (h:VRs E (x::l) l'):∃ x' k',l'=x'::k'∧VR E x x'∧VRs E l k':=by
 cases h with|cons h t=>exact⟨_,_,rfl,h,t⟩
theorem run_opNilCheck {x x':Value} (hx:VR E x x'):OpOut tb N w0 E m w (opNilCheck x) (nilCheckS x'):=by
 unfold opNilCheck
 split
 ·exact trivial
 ·exact trivial
 ·exact trivial
 ·exact trivial
 ·rename_i h1 h2 h3 h4
  refine⟨.value x',?_,.inl ⟨x',rfl,hx⟩⟩
  cases hx<;>first|rfl|(exact absurd rfl h1)|(exact absurd rfl h2)|(exact absurd rfl h3)|skip
  rename_i fn _ _ _ _ _ _ _
  cases fn<;>first|rfl|(exact absurd rfl (h4 _ _ _))
theorem run_maxMin {k:IntKind} {n:Int} {l l':List Value} (hl:VRs E l l') (tys:Array TypeId) (ty:TypeId) :
  OpRes tb N w0 E m w (oR (maxI k n l)) (Builtin.max_ tys ty ⟨.int k n::l'⟩)∧OpRes tb N w0 E m w (oR (minI k n l)) (Builtin.min_ tys ty ⟨.int k n::l'⟩) :=
 ⟨OpRes.ofR fun v hv=>let ⟨h1,h2⟩:=run_maxI (P:=tb.p) (w:=w) hl hv; ⟨v,h1,h2⟩,OpRes.ofR fun v hv=>let ⟨h1,h2⟩:=run_minI (P:=tb.p) (w:=w) hl hv; ⟨v,h1,h2⟩⟩
theorem run_opBuiltin (ok:TabsOk tb) (H:MR tb.p N w0 E m w) {b:Builtin} {tys:List TypeId} {ty:TypeId} {cs:Array Bool} {args args':List Value} (ha:VRs E args args') :
  OpOut tb N w0 E m w (opBuiltin tb m b tys args) (builtin b ⟨tys⟩ ty cs ⟨args'⟩):=by
 unfold opBuiltin
 cases b<;>try exact trivial
 case append =>
  simp only
  split<;>first|exact trivial|skip
  obtain⟨_,_,rfl,h1,h2⟩:=ha.two
  exact OpOut.of (OpRes.ofE fun v m' h=>run_appendA ok H h1 h2 h ty)
 case cap =>
  simp only
  split<;>first|exact trivial|skip
  obtain⟨_,rfl,h1⟩:=ha.one
  exact OpOut.of (OpRes.ofR fun v h=>let ⟨q1,q2⟩:=run_capA ok H h1 h; ⟨v,q1,q2⟩)
 case clear =>
  simp only
  split<;>first|exact trivial|skip
  obtain⟨_,rfl,h1⟩:=ha.one
  split<;>first|exact trivial|skip
  rename_i h
  exact OpOut.of (r:=.e undef _) (run_clearA ok H h1 h ty)
 case copy =>
  simp only
  split<;>first|exact trivial|skip
  obtain⟨_,_,rfl,h1,h2⟩:=ha.two
  exact OpOut.of (OpRes.ofE fun v m' h=>run_copyA ok H h1 h2 h ty)
 case delete =>
  simp only
  split<;>first|exact trivial|skip
  obtain⟨_,_,rfl,h1,h2⟩:=ha.two
  split<;>first|exact trivial|skip
  rename_i h
  exact OpOut.of (r:=.e undef _) (run_deleteA ok H h1 h2 h ty)
 case len =>
  simp only
  split<;>first|exact trivial|skip
  obtain⟨_,rfl,h1⟩:=ha.one
  exact OpOut.of (OpRes.ofR fun v h=>let ⟨q1,q2⟩:=run_lenA ok H h1 h; ⟨v,q1,q2⟩)
 case max =>
  simp only
  split<;>first|exact trivial|skip
  obtain⟨_,_,rfl,h1,h3⟩:=ha.hd
  cases h1
  exact OpOut.of (run_maxMin h3 _ _).1
 case min =>
  simp only
  split<;>first|exact trivial|skip
  obtain⟨_,_,rfl,h1,h3⟩:=ha.hd
  cases h1
  exact OpOut.of (run_maxMin h3 _ _).2
 case unsafeSliceData =>
  simp only
  split<;>first|exact trivial|skip
  ·obtain⟨_,rfl,h1⟩:=ha.one
   cases h1
   exact OpOut.of (r:=.r (.pointer none)) ⟨.pointer none,rfl,.ptrNil⟩
  ·obtain⟨_,rfl,h1⟩:=ha.one
   split<;>first|exact trivial|skip
   ·rename_i hsp
    cases h1 with
    | @sl b o q l c h =>
      refine OpOut.of (r:=.r _) ⟨.pointer (some ⟨q.blk,q.shift+o,none⟩),?_,.ptr h⟩
      rename_i k _
      obtain⟨k',hk⟩:∃ k',k+1+q.extra=k'+1:=⟨k+q.extra,by omega⟩
      rw [hk];rfl
    |slX l c h=>simp at hsp
   ·rename_i hsp
    cases h1 with
    |sl l c h=>simp at hsp
    |slX l c h=>exact OpOut.of (r:=.r _) ⟨_,rfl,.ptr h⟩
 case unsafeString =>
  simp only
  split<;>first|exact trivial|skip
  obtain⟨_,_,rfl,h1,h2⟩:=ha.two
  cases h2
  exact OpOut.of (run_opUnsafeString ok H h1 ty)
theorem run_opA (ok:TabsOk tb) (H:MR tb.p N w0 E m w) {t:T Value} {ρ : Operand→Value} {o:Oper} (hρ : ∀ x∈o.op.operands.toList,VR E (ev t x) (ρ x)):OpOut tb N w0 E m w (opA o.op tb t m) (execOp ρ o):=by
 unfold execOp opA
 cases ho:o.op<;>simp only [ho]<;>rw [ho] at hρ <;> simp only [Op.operands] at hρ <;> try exact trivial
 case move x=>exact⟨_,rfl,.inl ⟨_,rfl,hρ x (by simp)⟩⟩
 case assign x=>exact⟨_,w,E,rfl,.inl ⟨_,rfl,hρ x (by simp)⟩,H,.refl _ _ _⟩
 case pick c a b =>
  unfold kPick opPick
  have hc:=hρ c (by simp);have ha:=hρ a (by simp);have hb:=hρ b (by simp)
  split<;>first|exact trivial|skip
  ·rename_i h;rw [h] at hc
   generalize ρ c=c' at hc
   cases hc
   exact⟨_,by simp [asBool],.inl ⟨_,rfl,ha⟩⟩
  ·rename_i h;rw [h] at hc
   generalize ρ c=c' at hc
   cases hc
   exact⟨_,by simp [asBool],.inl ⟨_,rfl,hb⟩⟩
 case alloc e=>exact OpOut.of (run_opAlloc ok)
 case box e x=>exact OpOut.of (run_opBox (hρ x (by simp)))
 case build ty ps =>
  have hp:(ps.map fun (i,x)=>(i,ρ x))=⟨ps.toList.map fun (i,x)=>(i,ρ x)⟩:=by apply Array.ext';simp
  rw [hp]
  exact OpOut.of (OpRes.ofR fun v h=>run_buildA ok (evP_rel (ρ := ρ) (by simpa using hρ)) h)
 case buildSlice ty n ps =>
  have hp:(ps.map fun (i,x)=>(i,ρ x))=⟨ps.toList.map fun (i,x)=>(i,ρ x)⟩:=by apply Array.ext';simp
  rw [hp]
  exact OpOut.of (run_opBuildSlice ok (evP_rel (ρ := ρ) (by simpa using hρ)))
 case load ty a =>
  unfold kLoad opLoad
  have ha:=hρ a (by simp)
  split<;>first|exact trivial|skip
  rename_i h;rw [h] at ha
  generalize ρ a=a' at ha
  cases ha with
  |ptr hE =>
   refine OpOut.of (OpRes.ofR fun v hv=>?_)
   obtain⟨v',q1,q2⟩:=run_loadA ok H hE hv
   exact⟨v',by simpa [Instr.loadAt,Instr.sureAddr] using q1,q2⟩
 case store ty a x=>exact OpOut.ofU (run_opStore ok H (hρ a (by simp)) (hρ x (by simp)))
 case nilCheck x=>exact run_opNilCheck (x' := ρ x) (hρ x (by simp))
 case binOp op ty x y yt=>exact OpOut.of (OpRes.ofR fun v h=>let ⟨q1,q2⟩:=run_binA ok H (hρ x (by simp)) (hρ y (by simp)) h; ⟨v,q1,q2⟩)
 case unOp op ty x =>
  refine OpOut.of (OpRes.ofR fun v h=>?_)
  have hx:=hρ x (by simp)
  have hflat : ρ x=ev t x∧VR E v v:=by
   unfold unA at h
   split at h
   ·rename_i hh;rw [hh] at hx;rw [hh]
    generalize ρ x=x' at hx
    cases hx
    simp only [Option.some.injEq] at h;subst h
    exact⟨rfl,by rw [vInt_eq];exact .int _ _⟩
   ·rename_i hh;rw [hh] at hx;rw [hh]
    generalize ρ x=x' at hx
    cases hx
    obtain⟨n,_,rfl⟩:=oI_some h
    exact⟨rfl,.int _ _⟩
   ·rename_i hh;rw [hh] at hx;rw [hh]
    generalize ρ x=x' at hx
    cases hx
    simp only [Option.some.injEq] at h;subst h
    exact⟨rfl,.bool _⟩
   ·simp at h
  rw [hflat.1]
  exact⟨v,run_unA h,hflat.2⟩
 case convert s d x=>exact OpOut.of (run_opConv ok H (hρ x (by simp)))
 case makeInterface ty x =>
  unfold kMakeInterface opMkIface
  split<;>first|exact trivial|skip
  rename_i i hi
  split<;>first|exact trivial|skip
  rename_i hd
  refine OpOut.of (r:=.r _) ⟨.iface ty (ρ x),?_,.iface _ (hρ x (by simp))⟩
  unfold Instr.makeInterface
  simp only [Sem.run_bind,run_ty ok hi,Result.andThen_ok]
  rfl
 case makeFunc fn f c =>
  unfold kMakeFunc
  split<;>first|exact trivial|skip
  rename_i hy
  have h1:f.map ρ = ⟨f.toList.map ρ⟩:=by apply Array.ext';simp
  have h2:c.map ρ = ⟨c.toList.map ρ⟩:=by apply Array.ext';simp
  rw [h1,h2]
  exact OpOut.of (r:=.r _) ⟨_,rfl,.func (fun l=>hy l) (evs_rel fun x hx=>hρ x (by simp at hx ⊢;exact .inl hx)) (evs_rel fun x hx=>hρ x (by simp at hx ⊢;exact .inr hx))⟩
 case makeMap ty r=>exact OpOut.of (run_opMakeMap (evO_rel fun x hx=>hρ x (by rw [hx];simp)))
 case makeSlice ty l c=>exact OpOut.of (run_opMakeSlice ok (hρ l (by simp)) (hρ c (by simp)))
 case slice ty x lo hi mx=>exact OpOut.of (OpRes.ofR fun v h=>run_sliceA ok H (hρ x (by simp)) (evO_rel fun y hy=>hρ y (by rw [hy];simp)) (evO_rel fun y hy=>hρ y (by rw [hy];simp)) (evO_rel fun y hy=>hρ y (by rw [hy];simp)) h)
 case sliceToArrayPointer arr x=>exact OpOut.of (run_opSAP ok (hρ x (by simp)))
 case fieldAddr ty x f=>exact OpOut.of (OpRes.ofR fun v h=>run_fieldAddrA ok (hρ x (by simp)) h)
 case field ty x f=>exact OpOut.of (OpRes.ofR fun v h=>run_fieldA ok (hρ x (by simp)) h)
 case indexAddr ty x i=>exact OpOut.of (OpRes.ofR fun v h=>run_indexAddrA ok (hρ x (by simp)) (hρ i (by simp)) h)
 case index ty x i=>exact OpOut.of (OpRes.ofR fun v h=>run_indexA ok (hρ x (by simp)) (hρ i (by simp)) h)
 case lookup ty x k cok=>exact OpOut.of (OpRes.ofR fun v h=>run_lookupA ok H (hρ x (by simp)) (hρ k (by simp)) h)
 case mapUpdate ty a k x=>exact OpOut.ofU (OpResU.of fun m' h=>run_mapUpdateA ok H (hρ a (by simp)) (hρ k (by simp)) (hρ x (by simp)) h)
 case insert ty a k x=>exact OpOut.ofU (OpResU.of fun m' h=>run_mapUpdateA ok H (hρ a (by simp)) (hρ k (by simp)) (hρ x (by simp)) h)
 case mapEntry ty a k=>exact OpOut.of (OpRes.ofE fun v m' h=>run_mapEntryA ok H (hρ a (by simp)) (hρ k (by simp)) h)
 case entryStore ty a s x=>exact OpOut.ofU (OpResU.of fun m' h=>run_entryStoreA ok H (hρ a (by simp)) (hρ s (by simp)) (hρ x (by simp)) h)
 case range ty x=>exact OpOut.of (OpRes.ofE fun v m' h=>run_rangeA ok H (hρ x (by simp)) h)
 case next it s=>exact OpOut.of (OpRes.ofE fun v m' h=>run_nextA H (hρ it (by simp)) h _)
 case entry it=>exact OpOut.of (OpRes.ofR fun v h=>run_entryA ok H (hρ it (by simp)) h)
 case typeAssert x xt a cok=>exact OpOut.of (OpRes.ofR fun v h=>run_typeAssertA ok (hρ x (by simp)) h)
 case extract x i =>
  unfold kExtract opExtract
  have hx:=hρ x (by simp)
  split<;>first|exact trivial|skip
  rename_i vs h;rw [h] at hx
  generalize ρ x=x' at hx
  cases hx with
  |tuple hx =>
   refine OpOut.of (OpRes.ofR fun v hv=>?_)
   obtain⟨v',q1,q2⟩:=hx.get i v hv
   refine⟨v',?_,q2⟩
   rename_i a'
   have:(⟨a'⟩:Array Value)[i]? = some v':=by simpa using q1
   simp [Instr.extract,this]
 case call c =>
  unfold kCall opCall
  obtain⟨cl,⟨args⟩,⟨tys⟩⟩:=c
  cases cl with
  |builtin b =>
   simp only
   have ha:VRs E (evs t args) (args.map ρ):=evs_rel fun x hx=>hρ x (by simp [Call.operands];exact hx)
   have hm:(⟨args⟩:Array Operand).map ρ = ⟨args.map ρ⟩:=by apply Array.ext';simp
   have:=run_opBuiltin ok H (b:=b) (tys:=tys) (ty:=o.type) (cs:=(⟨args⟩:Array Operand).map fun | .const _=>true|_=>false) ha
   rw [← hm] at this
   exact this
  |_=>exact trivial
end
end Go.Ev

namespace Go.Ev
open Go.RowKit
class E0C where
 e0:Env
def GlobE [I:E0C] (G:Nat) (E:Env):Prop:=∀ g:Nat × Info,(g.1<G∧g.2=⟨g.1,0,0⟩)∨I.e0 g.1=some g.2→E g.1=some g.2
theorem GlobE.g [E0C] {G:Nat} {E:Env} (h:GlobE G E) (b:Nat) (hb:b<G):E b=some ⟨b,0,0⟩:=h (b,⟨b,0,0⟩) (.inl ⟨hb,rfl⟩)
theorem GlobE.le0 [I:E0C] {G:Nat} {E:Env} (h:GlobE G E):Env.le I.e0 E:=fun b i hb=>h (b,i) (.inr hb)
theorem GlobE.of [I:E0C] {G:Nat} {E:Env} (h:∀ b,b<G→E b=some ⟨b,0,0⟩) (h0:Env.le I.e0 E):GlobE G E:=fun p hp=>by
 rcases hp with ⟨h1,h2⟩|h1
 ·rw [h2];exact h _ h1
 ·exact h0 _ _ h1
theorem operand_rel [E0C] {G:Nat} {E:Env} (HG:GlobE G E) {X:Nat→Prop} {t:T Value} {nt:Nat} {fr:Frame} (HS:TRx E X t nt fr.tmps):∀ {x:Operand},operandOk G x=true→(∀ d,x=.tmp d→¬ X d)→VR E (ev t x) (fr.eval x)
 | .tmp d,_,hd=>HS.2 d (hd d rfl)
 | .const v,h,_=>cellsOfV_self h
 | .global g,h,_=>by
   have hg:=HG.g g (by simpa [operandOk,Nat.blt_eq] using h)
   have:=VR.ptr (E:=E) (b:=g) (o:=0) hg
   simpa [ev,Frame.eval] using this
 | .func f,_,_=>.func (f:=[]) (f':=[]) (c:=[]) (c':=[]) (fun l=>by simp) .nil .nil
theorem VR.bool_inv {E:Env} {v:Value} {b:Bool} (h:VR E v (.bool b)):v=.bool b:=by cases h;rfl
theorem wanted_rel {E:Env} {ops:Array Oper} {o:Oper} {t:T Value} {tm:Array Value} (hs:∀ d,reads ops o d→VR E (ev t (.tmp d)) (tm.getD d undef)):Region.wanted o (yielded ops tm)=wantedA t ops o.guard:=by
 unfold Region.wanted
 cases hg:o.guard with
 |none=>rfl
 |some g =>
  obtain⟨j,wn⟩:=g
  simp only
  have key:(yielded ops tm j=some wn)↔wantedA t ops (some (j,wn))=true:=by
   rw [wantedA_iff]
   constructor
   ·intro h
    unfold yielded at h
    split at h<;>first|(simp at h;done)|skip
    rename_i b hb
    simp only [Option.some.injEq] at h;subst h
    cases hj:ops[j]? with
    |none=>rw [hj] at hb;simp at hb
    |some oj =>
     rw [hj] at hb
     simp only [Option.bind_some] at hb
     cases hd:oj.dst with
     |none=>rw [hd] at hb;simp at hb
     |some d =>
      rw [hd] at hb
      simp only [Option.bind_some] at hb
      have hj':ops.toList[j]? = some oj:=by simpa using hj
      refine⟨oj,d,hj',hd,?_⟩
      have:=hs d (.inr ⟨j,b,oj,hg,hj',hd⟩)
      rw [Array.getD_eq_getD_getElem?,hb,Option.getD_some] at this
      exact this.bool_inv
   ·rintro⟨oj,d,h1,h2,h3⟩
    have:=hs d (.inr ⟨j,wn,oj,hg,h1,h2⟩)
    rw [h3] at this
    have hj:ops[j]? = some oj:=by simpa using h1
    unfold yielded
    rw [hj]
    simp only [Option.bind_some,h2]
    rw [Array.getD_eq_getD_getElem?] at this
    cases hq:tm[d]? with
    |none=>rw [hq,Option.getD_none] at this;cases this
    |some q=>rw [hq,Option.getD_some] at this;cases this;rfl
  cases h1:wantedA t ops (some (j,wn)) with
  |true=>rw [key.2 h1];simp
  |false =>
   have:yielded ops tm j≠some wn:=fun h=>by rw [key.1 h] at h1;simp at h1
   simpa using this
def lagX (hist:List Hist) (sched:List Nat) (x:Nat):Prop:=∃ h∈hist,h.i∈sched∧h.o.dst=some x
theorem nodup_same {hist:List Hist} (h:(hist.map (·.i)).Nodup) {a b:Hist} (ha:a∈hist) (hb:b∈hist) (e:a.i=b.i):a=b:=by
 induction hist with
 |nil=>simp at ha
 |cons x l ih =>
  rw [List.map_cons,List.nodup_cons] at h
  rcases List.mem_cons.1 ha with ea|ma
  ·rcases List.mem_cons.1 hb with eb|mb
   ·rw [ea,eb]
   ·exact absurd (List.mem_map.2 ⟨b,mb,by rw [← e,ea]⟩) h.1
  ·rcases List.mem_cons.1 hb with eb|mb
   ·exact absurd (List.mem_map.2 ⟨a,ma,by rw [e,eb]⟩) h.1
   ·exact ih h.2 ma mb
section
variable {tb:Tabs} {N G:Nat} {w0:World} {E:Env} {m:Mem} {w:World} {lo:Nat} {ops:Array Oper} {t:T Value} {nt:Nat} {rem:List (Nat × Oper)} {hist:List Hist} {mask:Nat} {sched:List Nat} {x:Nat} {fr:Frame} {cs:List Frame} {k:List Item}
theorem finish_eq {v:Value} {o:Oper} (ht:fr.todo=.inRegion ops (x::sched)::k) (ho:ops[x]? = some o) :
  fr.finish v = { fr with tmps:=(match o.dst with|some d=>fr.tmps.setIfInBounds d v|none=>fr.tmps),todo:=.inRegion ops sched::k }:=by
 obtain⟨fn,tmps,todo,defers,mode,kind,ro⟩:=fr
 simp only at ht;subst ht
 simp only [Frame.finish,ho,Option.bind_some]
 cases o.dst<;>rfl
theorem lag_step [E0C] (ok:TabsOk tb) (HM:MR tb.p N w0 E m w) (HG:GlobE G E) (HD:DrI tb E m lo m.next ops t nt false rem hist mask (x::sched)) (HS:TRx E (lagX hist (x::sched)) t nt fr.tmps) (hx:∀ z∈rem,z.1≠x)
  (hm:fr.mode=.run) (ht:fr.todo=.inRegion ops (x::sched)::k) (hops:∀ o∈ops.toList,opOk G o=true) :
  ∃ tm w' E',step tb.p (lone fr cs w)=.next (lone { fr with tmps:=tm,todo:=.inRegion ops sched::k } cs w')∧MR tb.p N w0 E' m w'∧MExt lo E m E' m∧DrI tb E' m lo m.next ops t nt false rem hist mask sched∧TRx E' (lagX hist sched) t nt tm:=by
 obtain⟨h,hh,rfl⟩:∃ h∈hist,h.i=x:=by
  rcases HD.all x (by simp) with ⟨z,hz,e⟩|h
  ·exact absurd e (hx z hz)
  ·exact h
 have hol:=HD.histOps h hh
 have ho:ops[h.i]? = some h.o:=by simpa using hol
 have hnx:h.i∉sched:=HD.valid.1
 obtain⟨hf1,hf2⟩:=HD.fact h hh (by simp)
 have hnow:=HD.now rfl h hh (by simp)
 have hread:∀ d,reads ops h.o d→¬ lagX hist (h.i::sched) d:=by
  rintro d hr ⟨g,hg,gi,gd⟩
  by_cases e:g.i=h.i
  ·obtain rfl:=nodup_same HD.histNd hg hh e
   exact HD.own g hg d gd hr
  ·obtain⟨ed,he,h1,h2⟩:=edgeFrom_some (HD.deps h hh g hg e d gd hr)
   exact HD.valid.2.1 h.o hol ed he h2 (by rw [h1];exact gi)
 have hw:Region.wanted h.o (yielded ops fr.tmps)=wantedA t ops h.o.guard:=wanted_rel (E:=E) fun d hr=>HS.2 d (hread d hr)
 have hρ : ∀ y∈h.o.op.operands.toList,VR E (ev t y) (fr.eval y):=fun y hy =>
  operand_rel HG HS (List.all_eq_true.1 (hops h.o (List.mem_of_getElem? hol)) y hy) fun d e=>hread d (.inl (by rw [← e];exact hy))
 have hop:=run_opA (o:=h.o) ok HM hρ
 have slots:∀ {E':Env} {v':Value},Env.le E E'→VR E' h.v v'→TRx E' (lagX hist sched) t nt (match h.o.dst with|some d=>fr.tmps.setIfInBounds d v'|none=>fr.tmps):=by
  intro E' v' hle hv
  have hold:∀ y,¬ lagX hist sched y→h.o.dst≠some y→VR E' (ev t (.tmp y)) (fr.tmps.getD y undef):=by
   intro y hy hne
   refine (HS.2 y ?_).mono hle
   rintro⟨g,hg,gi,gd⟩
   rcases List.mem_cons.1 gi with gi|gi
   ·obtain rfl:=nodup_same HD.histNd hg hh gi
    exact hne gd
   ·exact hy ⟨g,hg,gi,gd⟩
  cases hd:h.o.dst with
  |none=>exact⟨HS.1,fun y hy=>hold y hy (by rw [hd];simp)⟩
  |some d =>
   refine⟨by simp [HS.1],fun y hy=>?_⟩
   simp only [Array.getD_eq_getD_getElem?,Array.getElem?_setIfInBounds]
   by_cases e:d=y
   ·subst e
    obtain⟨e1,e2⟩:=hf1 d hd
    rw [if_pos rfl,if_pos (by rw [HS.1];exact e2),e1]
    exact hv
   ·rw [if_neg e]
    have:=hold y hy (by rw [hd];simpa using e)
    rw [Array.getD_eq_getD_getElem?] at this
    exact this
 have next:∀ {E':Env},(∀ b,E b=none→(∀ g∈hist,g.k=.f b→g.i∈sched→E' b=none))→DrI tb E' m lo m.next ops t nt false rem hist mask sched:=by
  intro E' hE'
  refine⟨HD.valid.2.2,HD.remOps,fun z hz=>?_,HD.remNd,HD.histOps,HD.histNd,HD.apart,fun j hj=>HD.all j (List.mem_cons_of_mem _ hj),fun g hg gi=>?_,fun _ g hg gi=>HD.now rfl g hg (List.mem_cons_of_mem _ gi),HD.deps,HD.names,HD.ids,HD.idlt,HD.own⟩
  ·rcases List.mem_cons.1 (HD.remIn z hz) with e|e
   ·exact absurd e (hx z hz)
   ·exact e
  ·obtain⟨q1,q2⟩:=HD.fact g hg (List.mem_cons_of_mem _ gi)
   refine⟨q1,?_⟩
   cases hk:g.k with
   |s=>rw [hk] at q2;exact q2
   |r=>rw [hk] at q2;exact q2
   |f b =>
    rw [hk] at q2
    obtain⟨a1,a2,a3,a4,a5,a6⟩:=q2
    exact⟨a1,a2,a3,a4,hE' b a5 g hg hk gi,a6⟩
 cases hk:h.k with
 |s =>
  rw [hk] at hf2
  obtain⟨f1,f2⟩:=hf2
  refine⟨_,w,E,?_,HM,.refl _ _ _,next fun b hb _ _ _ _=>hb,slots (v':=undef) (.refl E) (by rw [f2];exact .undef E)⟩
  rw [st_skip hm ht (by rw [ho];simp only [Option.map_some,Option.getD_some];rw [hw,f1]),finish_eq ht ho]
 |r =>
  rw [hk] at hf2
  unfold HNow at hnow;rw [hk] at hnow;simp only at hnow
  rw [hnow] at hop
  obtain⟨nx,q1,q2⟩:=hop
  have hdf:fr.roundOf=none∨∀ c,h.o.op≠.defer c:=.inr fun c e=>by rw [e] at hnow;simp [opA,kC] at hnow
  have hg:=stG_op (cs:=cs) (w:=w) (P:=tb.p) hm ht ho (by rw [hw];exact hf2.1) hdf
  rcases q2 with ⟨v',rfl,hv⟩|⟨rfl,hv⟩
  ·refine⟨_,w,E,?_,HM,.refl _ _ _,next fun b hb _ _ _ _=>hb,slots (.refl E) hv⟩
   rw [st_apply_value q1 (.inl rfl) hg,finish_eq ht ho]
  ·refine⟨_,w,E,?_,HM,.refl _ _ _,next fun b hb _ _ _ _=>hb,slots (v':=undef) (.refl E) (by rw [hv];exact .undef E)⟩
   rw [st_apply_value q1 (.inr ⟨rfl,rfl⟩) hg,finish_eq ht ho]
 |f b =>
  rw [hk] at hf2
  obtain⟨f1,f2,f3,f4,f5,ob,mk,f6,f7,f8⟩:=hf2
  rw [f6 m] at hop
  obtain⟨v',w',o',sh,ex,q1,q2,q3,q4,q5,q6,q7,q8⟩:=hop b f5
  have hdf:fr.roundOf=none∨∀ c,h.o.op≠.defer c:=.inr fun c e=>by have:=f6 m;rw [e] at this;simp [opA,kC] at this
  have hg:=stG_op (cs:=cs) (w:=w) (P:=tb.p) hm ht ho (by rw [hw];exact f1) hdf
  refine⟨_,w',_,?_,HM.mat f5 f8 f4 q8 q2 q3 q4 q5 q6,MExt.mat f5 f3,next ?_,slots (Env.add_le f5) (by rw [f7];exact q7)⟩
  ·rw [st_apply_value q1 (.inl rfl) hg,finish_eq ht ho]
  ·intro b' hb' g hg gk gi
   simp only [Env.add]
   rw [if_neg]
   ·exact hb'
   ·intro e;subst e
    have:=HD.ids h hh g hg b' hk gk
    rw [← this] at gi
    exact hnx gi
end
end Go.Ev

namespace Go.Ev
open Go.RowKit
theorem zip_all_eq {f:Value→Value→Bool} (hf:∀ a b,f a b=true→a=b):∀ {l k:List Value},l.length=k.length→((l.zip k).all fun (x,y)=>f x y)=true→l=k
 | [],[],_,_=>rfl
 |x::l,y::k,hl,h=>by
  simp only [List.zip_cons_cons,List.all_cons,Bool.and_eq_true] at h
  rw [hf _ _ h.1,zip_all_eq hf (by simpa using hl) h.2]
 | [],y::k,hl,_=>by simp at hl
 |x::l,[],hl,_=>by simp at hl
theorem arr_eq {a b:Array Value} (h:a.toList=b.toList):a=b:=by
 obtain⟨a⟩:=a;obtain⟨b⟩:=b;simp only at h;rw [h]
theorem spot_eq {a b:Option Nat} (h:(match a,b with|none,none=>true|some x,some y=>Nat.beq x y|_,_=>false)=true):a=b:=by
 cases a<;>cases b<;>simp only at h<;>first|rfl|(simp at h;done)|(rw [Nat.eq_of_beq_eq_true h])
theorem vEq_eq:∀ (n:Nat) (a b:Value),vEq n a b=true→a=b
 |0,a,b,h=>by simp [vEq] at h
 |n+1,a,b,h=>by
  unfold vEq at h
  split at h
  ·rename_i hn;simp at hn
  ·rename_i hn;simp at h;rw [h]
  ·simp only [Bool.and_eq_true,intEq_eq,beq_iff_eq] at h
   rw [kEq_true h.1,h.2]
  ·rename_i a b _
   rw [bytesEq_eq] at h
   have:a.data.toList=b.data.toList:=by simpa using h
   obtain⟨⟨a⟩⟩:=a;obtain⟨⟨b⟩⟩:=b;simp only at this;rw [this]
  ·rfl
  ·rename_i a b _
   obtain⟨a1,a2,a3⟩:=a;obtain⟨b1,b2,b3⟩:=b
   simp only [Bool.and_eq_true] at h
   obtain⟨⟨h1,h2⟩,h3⟩:=h
   rw [Nat.eq_of_beq_eq_true h1,Nat.eq_of_beq_eq_true h2,spot_eq h3]
  ·simp only [Bool.and_eq_true] at h
   rw [Nat.eq_of_beq_eq_true h.1,Nat.eq_of_beq_eq_true h.2]
  ·rename_i a _ _ b _ _ _
   obtain⟨a1,a2,a3⟩:=a;obtain⟨b1,b2,b3⟩:=b
   simp only [Bool.and_eq_true] at h
   obtain⟨⟨⟨⟨h1,h2⟩,h3⟩,h4⟩,h5⟩:=h
   rw [Nat.eq_of_beq_eq_true h1,Nat.eq_of_beq_eq_true h2,spot_eq h3,Nat.eq_of_beq_eq_true h4,Nat.eq_of_beq_eq_true h5]
  ·rfl
  ·rw [Nat.eq_of_beq_eq_true h]
  ·rfl
  ·rfl
  ·rename_i d _ _ _ _ hn
   obtain rfl:n=d:=by simpa using hn
   simp only [Bool.and_eq_true] at h
   rw [Nat.eq_of_beq_eq_true h.1,vEq_eq n _ _ h.2]
  ·rename_i d _ _ hn
   obtain rfl:n=d:=by simpa using hn
   simp only [Bool.and_eq_true] at h
   rw [arr_eq (zip_all_eq (vEq_eq n) (Nat.eq_of_beq_eq_true h.1) h.2)]
  ·rename_i d _ _ _ _ _ _ hn
   obtain rfl:n=d:=by simpa using hn
   simp only [Bool.and_eq_true] at h
   obtain⟨⟨⟨⟨h1,h2⟩,h3⟩,h4⟩,h5⟩:=h
   rw [Nat.eq_of_beq_eq_true h1,arr_eq (zip_all_eq (vEq_eq n) (Nat.eq_of_beq_eq_true h2) h4),arr_eq (zip_all_eq (vEq_eq n) (Nat.eq_of_beq_eq_true h3) h5)]
  ·rename_i d _ _ hn
   obtain rfl:n=d:=by simpa using hn
   simp only [Bool.and_eq_true] at h
   rw [arr_eq (zip_all_eq (vEq_eq n) (Nat.eq_of_beq_eq_true h.1) h.2)]
  ·simp at h
theorem vEqL_eq:∀ {l k:List Value},vEqL l k=true→l=k
 | [],[],_=>rfl
 |x::l,y::k,h=>by
  simp only [vEqL] at h
  split at h
  ·rename_i h1;rw [vEq_eq _ _ _ h1,vEqL_eq h]
  ·simp at h
 | [],y::k,h=>by simp [vEqL] at h
 |x::l,[],h=>by simp [vEqL] at h
theorem evs_inj {t t':T Value}:∀ {l:List Operand},evs t l=evs t' l→∀ x∈l,ev t x=ev t' x
 | [],_,x,hx=>by simp at hx
 |y::l,h,x,hx=>by
  simp only [evs,List.cons.injEq] at h
  rcases List.mem_cons.1 hx with e|hx
  ·rw [e];exact h.1
  ·exact evs_inj h.2 x hx
section
variable {tb:Tabs} {ops:Array Oper} {t:T Value} {m:Mem}
theorem recheck_some {after:List Edge}:∀ {l:List Hist},recheck tb ops t m after l=true→∀ h∈l,edgeFrom h.i after=true∨checkH tb ops t m h=true
 | [],_,h,hm=>by simp at hm
 |g::l,hk,h,hm=>by
  simp only [recheck] at hk
  split at hk
  ·rename_i he
   rcases List.mem_cons.1 hm with e|hm
   ·rw [e];exact .inl he
   ·exact recheck_some hk h hm
  ·split at hk
   ·rename_i he
    rcases List.mem_cons.1 hm with e|hm
    ·rw [e];exact .inr he
    ·exact recheck_some hk h hm
   ·simp at hk
theorem checkH_some {h:Hist} (hc:checkH tb ops t m h=true):(∀ d,h.o.dst=some d→ev t (.tmp d)=h.v) ∧
  match h.k with
  | .s=>wantedA t ops h.o.guard=false
  | .f _=>wantedA t ops h.o.guard=true∧evs t h.o.op.operands.toList=h.vs
  | .r=>wantedA t ops h.o.guard=true∧evs t h.o.op.operands.toList=h.vs∧(isPure h.o.op=true∨opA h.o.op tb t m=.r h.v):=by
 unfold checkH at hc
 split at hc<;>first|(simp at hc;done)|skip
 rename_i h1
 refine⟨fun d hd=>?_,?_⟩
 ·rw [hd] at h1;exact vEq_eq _ _ _ h1
 ·cases hk:h.k with
  |s=>rw [hk] at hc;simpa using hc
  |f b =>
   rw [hk] at hc
   simp only [Bool.and_eq_true] at hc
   exact⟨hc.1,vEqL_eq hc.2⟩
  |r =>
   rw [hk] at hc
   simp only at hc
   split at hc<;>first|(simp at hc;done)|skip
   rename_i h2
   rw [Bool.and_eq_true] at h2
   refine⟨h2.1,vEqL_eq h2.2,?_⟩
   split at hc
   ·rename_i h3;exact .inl h3
   ·split at hc
    ·rename_i w hw;rw [vEq_eq _ _ _ hc];exact .inr hw
    ·simp at hc
end
section
variable {tb:Tabs} {N G:Nat} {w0:World} {lo:Nat} {ops:Array Oper} {t:T Value} {nt:Nat} {rem:List (Nat × Oper)} {hist:List Hist} {mask:Nat} {m:Mem} {cs:List Frame} {k:List Item}
theorem catch_up [E0C] (ok:TabsOk tb) (hops:∀ o∈ops.toList,opOk G o=true) (hrem:∀ i o l,rem=(i,o)::l→alone [i] l=true):∀ (sched:List Nat) (E:Env) (w:World) (fr:Frame),MR tb.p N w0 E m w→GlobE G E→DrI tb E m lo m.next ops t nt false rem hist mask sched →
  TRx E (lagX hist sched) t nt fr.tmps→fr.mode=.run→fr.todo=.inRegion ops sched::k →
  ∃ sched' tm w' E',Steps tb.p (lone fr cs w) (lone { fr with tmps:=tm,todo:=.inRegion ops sched'::k } cs w')∧MR tb.p N w0 E' m w'∧MExt lo E m E' m∧DrI tb E' m lo m.next ops t nt false rem hist mask sched'∧TRx E' (lagX hist sched') t nt tm ∧
    (rem=[]→sched'=[])∧∀ i o l,rem=(i,o)::l→∃ rest,sched'=i::rest
 | [],E,w,fr,HM,HG,HD,HS,hm,ht=>by
   refine⟨[],fr.tmps,w,E,?_,HM,.refl _ _ _,HD,HS,fun _=>rfl,fun i o l e=>?_⟩
   ·have:({ fr with tmps:=fr.tmps,todo:=.inRegion ops []::k }:Frame)=fr:=by obtain⟨fn,tmps,todo,defers,mode,kind,ro⟩:=fr;simp only at ht;rw [ht]
    rw [this];exact .refl _ _
   ·have:=HD.remIn (i,o) (by rw [e];simp);simp at this
 |x::s,E,w,fr,HM,HG,HD,HS,hm,ht=>by
  by_cases hx:∀ z∈rem,z.1≠x
  ·obtain⟨tm,w1,E1,h1,h2,h3,h4,h5⟩:=lag_step (cs:=cs) (k:=k) ok HM HG HD HS hx hm ht hops
   obtain⟨s',tm',w2,E2,g1,g2,g3,g4,g5,g6,g7⟩:=catch_up ok hops hrem s E1 w1 { fr with tmps:=tm,todo:=.inRegion ops s::k } h2 (fun g hg=>h3.le _ _ (HG g hg)) h4 h5 hm rfl
   exact⟨s',tm',w2,E2,.head h1 g1,g2,h3.trans g3,g4,g5,g6,g7⟩
  ·refine⟨x::s,fr.tmps,w,E,?_,HM,.refl _ _ _,HD,HS,fun e=>?_,fun i o l e=>?_⟩
   ·have:({ fr with tmps:=fr.tmps,todo:=.inRegion ops (x::s)::k }:Frame)=fr:=by obtain⟨fn,tmps,todo,defers,mode,kind,ro⟩:=fr;simp only at ht;rw [ht]
    rw [this];exact .refl _ _
   ·exact absurd (by rw [e];simp) hx
   ·by_cases e2:i=x
    ·exact⟨s,by rw [e2]⟩
    ·exfalso
     apply hx
     intro z hz
     rw [e] at hz
     rcases List.mem_cons.1 hz with e3|hz
     ·rw [e3];exact e2
     ·exact alone_head HD.valid (hrem i o l e) (fun y hy=>by
       rcases List.mem_cons.1 hy with e4|hy
       ·rw [e4];exact HD.remIn (i,o) (by rw [e];simp)
       ·simp at hy) (fun z hz=>⟨HD.remIn z (by rw [e];exact List.mem_cons_of_mem _ hz),HD.remOps z (by rw [e];exact List.mem_cons_of_mem _ hz)⟩) z hz
theorem DrI.write {E:Env} {i:Nat} {o:Oper} {l:List (Nat × Oper)} {rest:List Nat} {hi hi':Nat} {t':T Value} {v:Value} (H:DrI tb E m lo hi ops t nt true ((i,o)::l) hist mask (i::rest)) (hp:putT t nt o.dst v=some t') (hc:recheck tb ops t' m o.after.toList hist=true) (hh:hi≤hi') :
  DrI tb E m lo hi' ops t' nt false l hist mask rest:=by
 have hnd:=H.remNd
 rw [List.map_cons,List.nodup_cons] at hnd
 have hoi:ops.toList[i]? = some o:=H.remOps (i,o) (by simp)
 have hck:∀ h∈hist,h.i∈rest→checkH tb ops t' m h=true:=by
  intro h hm hs
  rcases recheck_some hc h hm with he|he
  ·obtain⟨e,h1,h2,h3⟩:=edgeFrom_some he
   exact absurd (by rw [h2];exact List.mem_cons_of_mem _ hs) (H.valid.2.1 o hoi e h1 h3)
  ·exact he
 refine⟨H.valid.2.2,fun z hz=>H.remOps z (List.mem_cons_of_mem _ hz),fun z hz=>?_,hnd.2,H.histOps,H.histNd,fun h hm z hz=>H.apart h hm z (List.mem_cons_of_mem _ hz),fun j hj=>?_,fun h hm hs=>?_,fun _ h hm hs=>?_,H.deps,H.names,H.ids,fun h hm b hk=>?_,H.own⟩
 ·rcases List.mem_cons.1 (H.remIn z (List.mem_cons_of_mem _ hz)) with e|e
  ·exact absurd (by rw [← e];exact List.mem_map.2 ⟨z,hz,rfl⟩) hnd.1
  ·exact e
 ·rcases H.all j (List.mem_cons_of_mem _ hj) with ⟨z,hz,e⟩|h
  ·rcases List.mem_cons.1 hz with e2|hz
   ·rw [e2] at e;simp only at e;subst e;exact absurd hj H.valid.1
   ·exact .inl ⟨z,hz,e⟩
  ·exact .inr h
 ·obtain⟨c1,c2⟩:=checkH_some (hck h hm hs)
  obtain⟨f1,f2⟩:=H.fact h hm (List.mem_cons_of_mem _ hs)
  refine⟨fun d hd=>⟨c1 d hd,(f1 d hd).2⟩,?_⟩
  cases hk:h.k with
  |s=>rw [hk] at c2 f2;exact⟨c2,f2.2⟩
  |r =>
   rw [hk] at c2 f2
   have hev:=evs_inj (f2.2.1.trans c2.2.1.symm)
   exact⟨c2.1,c2.2.1,fun hp m=>by rw [← opA_congr hev];exact f2.2.2 hp m⟩
  |f b =>
   rw [hk] at c2 f2
   obtain⟨a1,a2,a3,a4,a5,ob,mk,a6,a7,a8⟩:=f2
   have hev:=evs_inj (a2.trans c2.2.symm)
   exact⟨c2.1,c2.2,a3,by omega,a5,ob,mk,fun m=>by rw [← opA_congr hev];exact a6 m,a7,a8⟩
 ·obtain⟨c1,c2⟩:=checkH_some (hck h hm hs)
  obtain⟨f1,f2⟩:=H.fact h hm (List.mem_cons_of_mem _ hs)
  unfold HNow
  cases hk:h.k with
  |r =>
   rw [hk] at c2 f2
   simp only
   rcases c2.2.2 with hp|hp
   ·have hev:=evs_inj (f2.2.1.trans c2.2.1.symm)
    rw [← opA_congr hev];exact f2.2.2 hp m
   ·exact hp
  |_=>trivial
 ·have:=H.idlt h hm b hk;omega
theorem DrI.wait {E E':Env} {m':Mem} {hi:Nat} {sched:List Nat} {b:Bool} (H:DrI tb E m lo hi ops t nt b rem hist mask sched) (hx:MExt hi E m E' m'):DrI tb E' m' lo hi ops t nt true rem hist mask sched :=
 ⟨H.valid,H.remOps,H.remIn,H.remNd,H.histOps,H.histNd,H.apart,H.all,fun h hm hs=>by
  obtain⟨f1,f2⟩:=H.fact h hm hs
  refine⟨f1,?_⟩
  cases hk:h.k with
  |s=>rw [hk] at f2;exact f2
  |r=>rw [hk] at f2;exact f2
  |f b =>
   rw [hk] at f2
   obtain⟨a1,a2,a3,a4,a5,ob,mk,a6,a7,a8⟩:=f2
   obtain⟨e1,e2⟩:=hx.pend b a4 a5
   exact⟨a1,a2,a3,a4,e1,ob,mk,a6,a7,by rw [e2];exact a8⟩,by simp,H.deps,H.names,H.ids,H.idlt,H.own⟩
theorem lag_write {E E':Env} {i:Nat} {o:Oper} {l:List (Nat × Oper)} {rest:List Nat} {hi:Nat} {t':T Value} {v v':Value} {b:Bool} {tm:Array Value} (H:DrI tb E m lo hi ops t nt b ((i,o)::l) hist mask (i::rest)) (hp:putT t nt o.dst v=some t') (hv:VR E' v v') (hle:Env.le E E') (HS:TRx E (lagX hist (i::rest)) t nt tm) :
  TRx E' (lagX hist rest) t' nt (match o.dst with|some d=>tm.setIfInBounds d v'|none=>tm):=by
 have hold:∀ y,¬ lagX hist rest y→VR E' (ev t (.tmp y)) (tm.getD y undef):=by
  intro y hy
  refine (HS.2 y ?_).mono hle
  rintro⟨g,hg,gi,gd⟩
  rcases List.mem_cons.1 gi with gi|gi
  ·exact H.apart g hg (i,o) (by simp) gi
  ·exact hy ⟨g,hg,gi,gd⟩
 cases hd:o.dst with
 |none=>rw [hd] at hp;rw [putT_none hp];exact⟨HS.1,hold⟩
 |some d =>
  rw [hd] at hp
  obtain⟨h1,h2⟩:=putT_some hp
  refine⟨by simp [HS.1],fun y hy=>?_⟩
  rw [h2,ev_set]
  simp only [Array.getD_eq_getD_getElem?,Array.getElem?_setIfInBounds]
  by_cases e:d=y
  ·subst e
   rw [if_pos rfl,if_pos rfl,if_pos (by rw [HS.1];exact h1)]
   exact hv
  ·rw [if_neg (fun h=>e h.symm),if_neg e]
   have:=hold y hy
   rw [Array.getD_eq_getD_getElem?] at this
   exact this
end
end Go.Ev

namespace Go.Ev
open Go.RowKit
theorem codeOk_label {G:Nat}:∀ {c:Code} {l:Nat} {r:Code},codeOk G c=true→findLabel c l=some r→codeOk G r=true
 | .seq a b,l,r,h,hf=>by
   simp only [codeOk,Bool.and_eq_true] at h
   simp only [findLabel] at hf
   split at hf
   ·rename_i q hq
    simp only [Option.some.injEq] at hf;subst hf
    simp only [codeOk,Bool.and_eq_true]
    exact⟨codeOk_label h.1 hq,h.2⟩
   ·exact codeOk_label h.2 hf
 | .label l',l,r,h,hf=>by
   simp only [findLabel] at hf
   split at hf
   ·simp only [Option.some.injEq] at hf;subst hf;rfl
   ·simp at hf
 | .skip,_,_,_,hf=>by simp [findLabel] at hf
 | .region _ _ _,_,_,_,hf=>by simp [findLabel] at hf
 | .cond _ _ _,_,_,_,hf=>by simp [findLabel] at hf
 | .block _ _,_,_,_,hf=>by simp [findLabel] at hf
 | .loop _,_,_,_,hf=>by simp [findLabel] at hf
 | .rangeFunc _ _ _ _,_,_,_,hf=>by simp [findLabel] at hf
 | .exit _,_,_,_,hf=>by simp [findLabel] at hf
 | .scope _,_,_,_,hf=>by simp [findLabel] at hf
 | .goto _,_,_,_,hf=>by simp [findLabel] at hf
 | .ret,_,_,_,hf=>by simp [findLabel] at hf
 | .refuse _,_,_,_,hf=>by simp [findLabel] at hf
inductive ItR (E:Env) (G:Nat):AItem→Item→Prop where
 |code {c:Code} (h:codeOk G c=true):ItR E G (.code c) (.code c)
 |inBlock (id:Nat):ItR E G (.inBlock id) (.inBlock id)
 |inLoop {b:Code} (h:codeOk G b=true):ItR E G (.inLoop b) (.inLoop b)
 |inScope {b:Code} (h:codeOk G b=true):ItR E G (.inScope b) (.inScope b)
 |inRangeFunc {l:Nat} {i:Info} (h:E l=some i):ItR E G (.inRangeFunc l) (.inRangeFunc i.blk)
 |endRangeFunc {l:Nat} {i:Info} (h:E l=some i):ItR E G (.endRangeFunc l) (.endRangeFunc i.blk)
 |beginRound:ItR E G .beginRound .beginRound
inductive ItsR (E:Env) (G:Nat):List AItem→List Item→Prop where
 |nil:ItsR E G [] []
 |cons {x:AItem} {x':Item} {l:List AItem} {l':List Item} (h:ItR E G x x') (t:ItsR E G l l'):ItsR E G (x::l) (x'::l')
theorem ItR.mono {E E':Env} {G:Nat} (hE:Env.le E E') {x:AItem} {x':Item} (h:ItR E G x x'):ItR E' G x x':=by
 cases h with
 |code h=>exact .code h
 |inBlock id=>exact .inBlock id
 |inLoop h=>exact .inLoop h
 |inScope h=>exact .inScope h
 |inRangeFunc h=>exact .inRangeFunc (hE _ _ h)
 |endRangeFunc h=>exact .endRangeFunc (hE _ _ h)
 |beginRound=>exact .beginRound
theorem ItsR.mono {E E':Env} {G:Nat} (hE:Env.le E E') {l:List AItem} {l':List Item} (h:ItsR E G l l'):ItsR E' G l l':=by
 induction h with
 |nil=>exact .nil
 |cons h _ ih=>exact .cons (h.mono hE) ih
inductive TodoR (tb:Tabs) (E:Env) (m:Mem) (lo hi G:Nat) (wait:Bool) (t:T Value) (nt:Nat):List AItem→List Item→(Nat→Prop)→Prop where
 |plain {k:List AItem} {k':List Item} (h:ItsR E G k k'):TodoR tb E m lo hi G wait t nt k k' (fun _=>False)
 |ops {ops:Array Oper} {n:Nat} {k:List AItem} {k':List Item} (hk:ItsR E G k k') (hok:∀ o∈ops.toList,opOk G o=true) :
   TodoR tb E m lo hi G wait t nt (.ops ops (ops.toList.drop n)::k) (.inRegion ops (List.range' n (ops.size-n))::k') (fun _=>False)
 |dr {ops:Array Oper} {rem:List (Nat × Oper)} {hist:List Hist} {mask:Nat} {sched:List Nat} {k:List AItem} {k':List Item} (hk:ItsR E G k k') (hok:∀ o∈ops.toList,opOk G o=true)
   (hd:DrI tb E m lo hi ops t nt wait rem hist mask sched) (hw:wait=true→∃ i o l rest,rem=(i,o)::l∧sched=i::rest) :
   TodoR tb E m lo hi G wait t nt (.dr ops rem hist mask::k) (.inRegion ops sched::k') (lagX hist sched)
inductive PeR (E:Env):List PanicEntry→List PanicEntry→Prop where
 |nil:PeR E [] []
 |cons {p p':PanicEntry} {l l':List PanicEntry} (hv:VR E p.v p'.v) (h1:p.recovered=p'.recovered) (h2:p.goexit=p'.goexit) (t:PeR E l l'):PeR E (p::l) (p'::l')
theorem PeR.mono {E E':Env} (hE:Env.le E E') {l l':List PanicEntry} (h:PeR E l l'):PeR E' l l':=by
 induction h with
 |nil=>exact .nil
 |cons hv h1 h2 _ ih=>exact .cons (hv.mono hE) h1 h2 ih
theorem PeR.append {E:Env} {a a' b b':List PanicEntry} (h:PeR E a a') (k:PeR E b b'):PeR E (a++b) (a'++b'):=by
 induction h with
 |nil=>exact k
 |cons hv h1 h2 _ ih=>exact .cons hv h1 h2 ih
inductive RoR (E:Env):Option Nat→Option Nat→Prop where
 |none:RoR E none none
 |some {l:Nat} {i:Info} (h:E l=some i):RoR E (some l) (some i.blk)
theorem RoR.mono {E E':Env} (hE:Env.le E E') {a b:Option Nat} (h:RoR E a b):RoR E' a b:=by
 cases h with
 |none=>exact .none
 |some h=>exact .some (hE _ _ h)
inductive FR (tb:Tabs) (E:Env) (m:Mem) (lo hi G:Nat) (wait:Bool):AFrame→Frame→Prop where
 |run {fn:FuncId} {t:T Value} {nt:Nat} {k:List AItem} {ds:List Deferred} {kind:CallKind} {ro:Option Nat} {tm:Array Value} {k':List Item} {ds':List Deferred} {ro':Option Nat} {X:Nat→Prop}
   (hf:(tb.p.funcs[fn]?).isSome=true) (ht:TodoR tb E m lo hi G wait t nt k k' X) (hs:TRx E X t nt tm) (hd:DefsR E ds ds') (hr:RoR E ro ro') (hk:kind=.normal∨kind=.deferred) :
   FR tb E m lo hi G wait ⟨fn,t,nt,k,ds,.run,kind,ro⟩ { fn,tmps:=tm,todo:=k',defers:=ds',mode:=.run,kind,roundOf:=ro' }
 |ret {fn:FuncId} {t:T Value} {nt:Nat} {k:List AItem} {ds:List Deferred} {kind:CallKind} {ro:Option Nat} {tm:Array Value} {k':List Item} {ds':List Deferred} {ro':Option Nat}
   (hf:(tb.p.funcs[fn]?).isSome=true) (hs:TR E t nt tm) (hd:DefsR E ds ds') (hr:RoR E ro ro') (hk:kind=.normal∨kind=.deferred) :
   FR tb E m lo hi G wait ⟨fn,t,nt,k,ds,.returning,kind,ro⟩ { fn,tmps:=tm,todo:=k',defers:=ds',mode:=.returning,kind,roundOf:=ro' }
 |pan {fn:FuncId} {t:T Value} {nt:Nat} {k:List AItem} {ds:List Deferred} {kind:CallKind} {ro:Option Nat} {tm:Array Value} {k':List Item} {ds':List Deferred} {ro':Option Nat} {ch ch':List PanicEntry} {X:Nat→Prop}
   (hf:(tb.p.funcs[fn]?).isSome=true) (hs:TRx E X t nt tm) (hX:isDr k=true∨∀ x,¬ X x) (hp:PeR E ch ch') (hd:DefsR E ds ds') (hr:RoR E ro ro') (hk:kind=.normal∨kind=.deferred) :
   FR tb E m lo hi G wait ⟨fn,t,nt,k,ds,.panicking ch,kind,ro⟩ { fn,tmps:=tm,todo:=k',defers:=ds',mode:=.panicking ch',kind,roundOf:=ro' }
theorem FR.wait {tb:Tabs} {E E':Env} {m m':Mem} {lo hi G:Nat} {fr:AFrame} {fr':Frame} (h:FR tb E m lo hi G true fr fr') (hx:MExt hi E m E' m'):FR tb E' m' lo hi G true fr fr':=by
 cases h with
 |run hf ht hs hd hr hk =>
  refine .run hf ?_ (hs.mono hx.le) (hd.mono hx.le) (hr.mono hx.le) hk
  cases ht with
  |plain h=>exact .plain (h.mono hx.le)
  |ops hk hok=>exact .ops (hk.mono hx.le) hok
  |dr hk hok hd hw=>exact .dr (hk.mono hx.le) hok (hd.wait hx) hw
 |ret hf hs hd hr hk=>exact .ret hf (hs.mono hx.le) (hd.mono hx.le) (hr.mono hx.le) hk
 |pan hf hs hX hp hd hr hk=>exact .pan hf (hs.mono hx.le) hX (hp.mono hx.le) (hd.mono hx.le) (hr.mono hx.le) hk
inductive CsR (tb:Tabs) (E:Env) (m:Mem) (G:Nat) (base:List Frame):Nat→List AFrame→List Frame→Prop where
 |nil (hi:Nat):CsR tb E m G base hi [] base
 |cons {hi lo:Nat} {fr:AFrame} {fr':Frame} {cs:List AFrame} {cs':List Frame} (h:FR tb E m lo hi G true fr fr') (t:CsR tb E m G base lo cs cs') (hl:lo≤hi):CsR tb E m G base hi (fr::cs) (fr'::cs')
theorem CsR.ext {tb:Tabs} {E E':Env} {m m':Mem} {G:Nat} {base:List Frame} {hi:Nat} {cs:List AFrame} {cs':List Frame} (h:CsR tb E m G base hi cs cs') (hx:MExt hi E m E' m'):CsR tb E' m' G base hi cs cs':=by
 induction h with
 |nil hi=>exact .nil hi
 |cons h _ hl ih=>exact .cons (h.wait hx) (ih (hx.lower hl)) hl
structure StR [E0C] (tb:Tabs) (N G:Nat) (w0:World) (base:List Frame) (am:AM) (fr':Frame) (cs':List Frame) (w:World) (E:Env) (lo:Nat):Prop where
 mem:MR tb.p N w0 E am.mem w
 glob:GlobE G E
 top:FR tb E am.mem lo am.mem.next G false am.fr fr'
 callers:CsR tb E am.mem G base lo am.callers cs'
 lo:lo≤am.mem.next
end Go.Ev

namespace Go.Ev
open Go.RowKit
def setSlot (dst:Option Tmp) (tm:Array Value) (v:Value):Array Value:=match dst with|some d=>tm.setIfInBounds d v|none=>tm
section
variable {tb:Tabs} {E:Env} {m:Mem} {lo hi hi' G:Nat} {w:World}
theorem slot_put {X:Nat→Prop} {t t':T Value} {nt:Nat} {tm:Array Value} {dst:Option Tmp} {v v':Value} (HS:TRx E X t nt tm) (hp:putT t nt dst v=some t') (hv:VR E v v'):TRx E X t' nt (setSlot dst tm v'):=by
 cases dst with
 |none=>rw [putT_none hp];exact HS
 |some d =>
  obtain⟨h1,h2⟩:=putT_some hp
  refine⟨by simp [setSlot,HS.1],fun y hy=>?_⟩
  rw [h2,ev_set]
  simp only [setSlot,Array.getD_eq_getD_getElem?,Array.getElem?_setIfInBounds]
  by_cases e:d=y
  ·subst e
   rw [if_pos rfl,if_pos rfl,if_pos (by rw [HS.1];exact h1)]
   exact hv
  ·rw [if_neg (fun h=>e h.symm),if_neg e]
   have:=HS.2 y hy
   rw [Array.getD_eq_getD_getElem?] at this
   exact this
theorem drop_cons {α : Type} {l:List α} {n:Nat} {x : α} {r:List α} (h:l.drop n=x::r):l[n]? = some x∧r=l.drop (n+1)∧n<l.length:=by
 have h1:(l.drop n)[0]? = some x:=by rw [h];rfl
 rw [List.getElem?_drop,Nat.add_zero] at h1
 refine⟨h1,?_,(List.getElem?_eq_some_iff.1 h1).1⟩
 have:=congrArg List.tail h
 simp only [List.tail_cons,List.tail_drop] at this
 exact this.symm
theorem FR.finish {fr fr1:AFrame} {fr':Frame} {v v':Value} (h:FR tb E m lo hi G true fr fr') (hh:hi≤hi') (hv:VR E v v') (hf:finishA tb fr v m=some fr1):FR tb E m lo hi' G false fr1 (fr'.finish v'):=by
 cases h with
 |ret=>simp [finishA] at hf
 |pan=>simp [finishA] at hf
 |run hfn ht hs hd hr hk =>
  cases ht with
  |plain hks =>
   cases hks with
   |nil=>simp [finishA] at hf
   |cons hx hks =>
    cases hx<;>simp only [finishA] at hf<;>first|(simp at hf;done)|skip
    ·rename_i hE
     simp only [Option.some.injEq] at hf;subst hf
     exact .run hfn (.plain (.cons (.endRangeFunc hE) hks)) hs hd hr hk
    ·simp only [Option.some.injEq] at hf;subst hf
     exact .run hfn (.plain hks) hs hd hr hk
  | @ops ops n k k' hks hok =>
    simp only [finishA] at hf
    split at hf<;>first|(simp at hf;done)|skip
    rename_i o l hl
    split at hf<;>first|(simp at hf;done)|skip
    rename_i t' hp
    simp only [Option.some.injEq] at hf;subst hf
    obtain⟨h1,h2,h3⟩:=drop_cons hl
    have h3':n<ops.size:=by simpa using h3
    have hr':List.range' n (ops.size-n)=n::List.range' (n+1) (ops.size-(n+1)):=by
     obtain⟨q,hq⟩:∃ q,ops.size-n=q+1:=⟨ops.size-n-1,by omega⟩
     rw [hq,List.range'_succ,show ops.size-(n+1)=q from by omega]
    have ho:ops[n]? = some o:=by simpa using h1
    rw [hr',finish_eq (x:=n) (sched:=List.range' (n+1) (ops.size-(n+1))) (k:=k') (o:=o) rfl ho,h2]
    exact .run hfn (.ops hks hok) (slot_put hs hp hv) hd hr hk
  | @dr ops rem hist mask sched k k' hks hok hdr hw =>
    obtain⟨i,o,l,rest,rfl,rfl⟩:=hw rfl
    simp only [finishA] at hf
    split at hf<;>first|(simp at hf;done)|skip
    rename_i t' hp
    split at hf<;>first|(simp at hf;done)|skip
    rename_i hrc
    simp only [Option.some.injEq] at hf;subst hf
    have hol:=hdr.remOps (i,o) (by simp)
    have ho:ops[i]? = some o:=by simpa using hol
    rw [finish_eq (x:=i) (sched:=rest) (k:=k') (o:=o) rfl ho]
    exact .run hfn (.dr hks hok (hdr.write hp hrc hh) (by simp)) (lag_write hdr hp hv (.refl E) hs) hd hr hk
end
end Go.Ev

namespace Go.Ev
section
variable {P:Program} {fn:FuncId} {tmps:Array Value} {k:List Item} {ds:List Deferred} {kind:CallKind} {ro:Option Nat} {cs:List Frame} {w w':World}
def rf (fn:FuncId) (tmps:Array Value) (ds:List Deferred) (kind:CallKind) (ro:Option Nat) (k:List Item):Frame := { fn,tmps,todo:=k,defers:=ds,mode:=.run,kind,roundOf:=ro }
theorem su_skip:step P (lone (rf fn tmps ds kind ro (.code .skip::k)) cs w)=.next (lone (rf fn tmps ds kind ro k) cs w):=step_lone_go (by simp [stepG,stepG.exec,rf])
theorem su_label {l:Nat}:step P (lone (rf fn tmps ds kind ro (.code (.label l)::k)) cs w)=.next (lone (rf fn tmps ds kind ro k) cs w):=step_lone_go (by simp [stepG,stepG.exec,rf])
theorem su_inBlock {i:Nat}:step P (lone (rf fn tmps ds kind ro (.inBlock i::k)) cs w)=.next (lone (rf fn tmps ds kind ro k) cs w):=step_lone_go (by simp [stepG,stepG.exec,rf])
theorem su_inScope {b:Code}:step P (lone (rf fn tmps ds kind ro (.inScope b::k)) cs w)=.next (lone (rf fn tmps ds kind ro k) cs w):=step_lone_go (by simp [stepG,stepG.exec,rf])
theorem su_seq {a b:Code}:step P (lone (rf fn tmps ds kind ro (.code (.seq a b)::k)) cs w)=.next (lone (rf fn tmps ds kind ro (.code a::.code b::k)) cs w):=step_lone_go (by simp [stepG,stepG.exec,rf])
theorem su_cond {c:Operand} {a b:Code} {q:Bool} (h:(rf fn tmps ds kind ro (.code (.cond c a b)::k)).eval c=.bool q):step P (lone (rf fn tmps ds kind ro (.code (.cond c a b)::k)) cs w)=.next (lone (rf fn tmps ds kind ro (.code (if q then a else b)::k)) cs w) :=
 step_lone_go (by simp only [rf] at h;simp [stepG,stepG.exec,rf,h])
theorem su_block {i:Nat} {b:Code}:step P (lone (rf fn tmps ds kind ro (.code (.block i b)::k)) cs w)=.next (lone (rf fn tmps ds kind ro (.code b::.inBlock i::k)) cs w):=step_lone_go (by simp [stepG,stepG.exec,rf])
theorem su_loop {b:Code}:step P (lone (rf fn tmps ds kind ro (.code (.loop b)::k)) cs w)=.next (lone (rf fn tmps ds kind ro (.code b::.inLoop b::k)) cs w):=step_lone_go (by simp [stepG,stepG.exec,rf])
theorem su_inLoop {b:Code}:step P (lone (rf fn tmps ds kind ro (.inLoop b::k)) cs w)=.next (lone (rf fn tmps ds kind ro (.code b::.inLoop b::k)) cs w):=step_lone_go (by simp [stepG,stepG.exec,rf])
theorem su_scope {b:Code}:step P (lone (rf fn tmps ds kind ro (.code (.scope b)::k)) cs w)=.next (lone (rf fn tmps ds kind ro (.code b::.inScope b::k)) cs w):=step_lone_go (by simp [stepG,stepG.exec,rf])
theorem su_exit {i:Nat} {k2:List Item} (h:exitTo i k=some k2):step P (lone (rf fn tmps ds kind ro (.code (.exit i)::k)) cs w)=.next (lone (rf fn tmps ds kind ro k2) cs w):=step_lone_go (by simp [stepG,stepG.exec,rf,h])
theorem su_goto {i:Nat} {k2:List Item} (h:gotoIn i k=some k2):step P (lone (rf fn tmps ds kind ro (.code (.goto i)::k)) cs w)=.next (lone (rf fn tmps ds kind ro k2) cs w):=step_lone_go (by simp [stepG,stepG.exec,rf,h])
theorem su_region {i:Nat} {ops:Array Oper}:step P (lone (rf fn tmps ds kind ro (.code (.region i ops false)::k)) cs w)=.next (lone (rf fn tmps ds kind ro (.inRegion ops (List.range ops.size)::k)) cs w):=step_lone_go (by simp [stepG,stepG.exec,rf])
theorem su_region_draw {i:Nat} {ops:Array Oper}:step P (lone (rf fn tmps ds kind ro (.code (.region i ops true)::k)) cs w) =
  .next (lone (rf fn tmps ds kind ro (.inRegion ops (Region.schedule (P.follows .mixedOrders) ops (w.tape w.drawn (.order fn i)))::k)) cs { w with drawn:=w.drawn+1 }) :=
 step_lone_go (by simp [stepG,stepG.exec,rf,choose,Sem.run,Question.forced,Question.cut])
theorem su_end:step P (lone (rf fn tmps ds kind none []) cs w)=.next (lone { rf fn tmps ds kind none [] with mode:=.returning } cs w):=step_lone_go (by simp [stepG,stepG.exec,rf])
theorem su_ret:step P (lone (rf fn tmps ds kind none (.code .ret::k)) cs w)=.next (lone { rf fn tmps ds kind none (.code .ret::k) with mode:=.returning } cs w):=step_lone_go (by simp [stepG,stepG.exec,rf])
end
end Go.Ev

