/- A part of a proof: ScriptParses. -/
import Derived.Below
import Derived.Calls
import Derived.Control
import Derived.Test.YtgmkbdmgifdfeaaGreatDoorA1
set_option linter.unusedVariables false
set_option linter.unusedSimpArgs false
namespace Go.Ev
variable {tb:Tabs}
theorem evs_congr {t t':T Value}:∀ {l:List Operand},(∀ x∈l,ev t x=ev t' x)→evs t l=evs t' l
 | [],_=>rfl
 |x::l,h=>by simp only [evs];rw [h x (by simp),evs_congr fun y hy=>h y (by simp [hy])]
theorem evP_congr {t t':T Value}:∀ {l:List (Nat × Operand)},(∀ x∈l.map (·.2),ev t x=ev t' x)→evP t l=evP t' l
 | [],_=>rfl
 | (i,x)::l,h=>by
   simp only [evP];rw [h x (by simp),evP_congr fun y hy=>h y (by simp at hy ⊢;exact .inr hy)]
theorem evO_congr {t t':T Value}:∀ {o:Option Operand},(∀ x,o=some x→ev t x=ev t' x)→evO t o=evO t' o
 |none,_=>rfl
 |some x,h=>by simp only [evO];rw [h x rfl]
theorem opA_congr {o:Op} {t t':T Value} (h:∀ x∈o.operands.toList,ev t x=ev t' x) (m:Mem):opA o tb t m=opA o tb t' m:=by
 cases o<;>simp only [Op.operands] at h<;>try rfl
 case move x=>simp only [opA,kMove];rw [h x (by simp)]
 case assign x=>simp only [opA,kAssign];rw [h x (by simp)]
 case pick c a b=>simp only [opA,kPick];rw [h c (by simp),h a (by simp),h b (by simp)]
 case box e x=>simp only [opA,kBox];rw [h x (by simp)]
 case build ty ps=>simp only [opA,kBuild];rw [evP_congr (by simpa using h)]
 case buildSlice ty n ps=>simp only [opA,kBuildSlice];rw [evP_congr (by simpa using h)]
 case insert ty a k x=>simp only [opA,kInsert];rw [h a (by simp),h k (by simp),h x (by simp)]
 case load ty a=>simp only [opA,kLoad];rw [h a (by simp)]
 case store ty a x=>simp only [opA,kStore];rw [h a (by simp),h x (by simp)]
 case nilCheck x=>simp only [opA,kNilCheck];rw [h x (by simp)]
 case binOp op ty x y yt=>simp only [opA,kBinOp];rw [h x (by simp),h y (by simp)]
 case unOp op ty x=>simp only [opA,kUnOp];rw [h x (by simp)]
 case convert s d x=>simp only [opA,kConvert];rw [h x (by simp)]
 case sliceToArrayPointer a x=>simp only [opA,kSliceToArrayPointer];rw [h x (by simp)]
 case makeInterface ty x=>simp only [opA,kMakeInterface];rw [h x (by simp)]
 case makeFunc fn f c =>
  simp only [opA,kMakeFunc]
  rw [evs_congr (l:=f.toList) fun x hx=>h x (by simp at hx ⊢;exact .inl hx),evs_congr (l:=c.toList) fun x hx=>h x (by simp at hx ⊢;exact .inr hx)]
 case makeMap ty r=>simp only [opA,kMakeMap];rw [evO_congr fun x hx=>h x (by rw [hx];simp)]
 case makeSlice ty l c=>simp only [opA,kMakeSlice];rw [h l (by simp),h c (by simp)]
 case slice ty x lo hi mx =>
  simp only [opA,kSlice]
  rw [h x (by simp),evO_congr (o:=lo) fun x hx=>h x (by rw [hx];simp),evO_congr (o:=hi) fun x hx=>h x (by rw [hx];simp),evO_congr (o:=mx) fun x hx=>h x (by rw [hx];simp)]
 case fieldAddr ty x f=>simp only [opA,kFieldAddr];rw [h x (by simp)]
 case field ty x f=>simp only [opA,kField];rw [h x (by simp)]
 case indexAddr ty x i=>simp only [opA,kIndexAddr];rw [h x (by simp),h i (by simp)]
 case index ty x i=>simp only [opA,kIndex];rw [h x (by simp),h i (by simp)]
 case lookup ty x k ok=>simp only [opA,kLookup];rw [h x (by simp),h k (by simp)]
 case mapUpdate ty a k x=>simp only [opA,kMapUpdate];rw [h a (by simp),h k (by simp),h x (by simp)]
 case mapEntry ty a k=>simp only [opA,kMapEntry];rw [h a (by simp),h k (by simp)]
 case entryStore ty a s x=>simp only [opA,kEntryStore];rw [h a (by simp),h s (by simp),h x (by simp)]
 case range ty x=>simp only [opA,kRange];rw [h x (by simp)]
 case next it s=>simp only [opA,kNext];rw [h it (by simp)]
 case entry it=>simp only [opA,kEntry];rw [h it (by simp)]
 case typeAssert x xt a ok=>simp only [opA,kTypeAssert];rw [h x (by simp)]
 case extract x i=>simp only [opA,kExtract];rw [h x (by simp)]
 case call c =>
  simp only [opA,kCall,opCall]
  rw [evs_congr (l:=c.args.toList) fun x hx=>h x (by simp [Call.operands];exact .inr (by simpa using hx))]
theorem oR_f {x:Option Value} {ob:AObj} {mk:Nat→Value} (h:oR x=.f ob mk):False:=by cases x<;>simp [oR] at h
theorem oE_f {x:Option (Value × Mem)} {ob:AObj} {mk:Nat→Value} (h:oE x=.f ob mk):False:=by
 cases x with
 |none=>simp [oE] at h
 |some x=>obtain⟨_,_⟩:=x;simp [oE] at h
theorem oM_f {x:Option Mem} {ob:AObj} {mk:Nat→Value} (h:oM x=.f ob mk):False:=by cases x<;>simp [oM] at h
theorem convSl_f {m:Mem} {same:Bool} {s d:TypeDesc} {x:Value} {a:Addr} {l:Nat} {ob:AObj} {mk:Nat→Value} (h:convSl tb m same s d x a l=.f ob mk):False:=by
 unfold convSl at h
 repeat (split at h<;>try (simp at h;done))
theorem convPtr_f {m:Mem} {s d:TypeDesc} {a:Addr} {ob:AObj} {mk:Nat→Value} (h:convPtr tb m s d a=.f ob mk):False:=by
 unfold convPtr at h
 repeat (split at h<;>try (simp at h;done))
theorem opUnsafeString_f {m:Mem} {tys:List TypeId} {p:Option Addr} {n:Nat} {ob:AObj} {mk:Nat→Value} (h:opUnsafeString tb m tys p n=.f ob mk):False:=by
 unfold opUnsafeString at h
 repeat (split at h<;>try (simp at h;done))
theorem opBuiltin_f {m:Mem} {b:Builtin} {tys:List TypeId} {args:List Value} {ob:AObj} {mk:Nat→Value} (h:opBuiltin tb m b tys args=.f ob mk):False:=by
 unfold opBuiltin at h
 split at h<;>first|(simp at h;done)|skip
 all_goals (repeat (split at h<;>try (simp at h;done)))
 all_goals first|exact oR_f h|exact oE_f h|exact oM_f h|exact opUnsafeString_f h|skip
theorem opA_f {o:Op} {t:T Value} {m:Mem} {ob:AObj} {mk:Nat→Value} (h:opA o tb t m=.f ob mk) (m':Mem):opA o tb t m'=.f ob mk:=by
 cases o<;>try exact h
 all_goals first
  |exact absurd h (fun h=>oR_f h)
  |exact absurd h (fun h=>oE_f h)
  |exact absurd h (fun h=>oM_f h)
  |skip
 case assign x=>simp [opA,kAssign] at h
 case load ty a =>
  simp only [opA,kLoad,opLoad] at h
  split at h
  ·exact absurd h (fun h=>oR_f h)
  ·simp at h
 case store ty a x =>
  simp only [opA,kStore,opStore] at h
  split at h
  ·exact absurd h (fun h=>oM_f h)
  ·simp at h
 case convert s d x =>
  simp only [opA,kConvert,opConv] at h ⊢
  split at h<;>first|(simp at h;done)|skip
  rename_i s d hs hd
  split at h
  ·exact h
  ·exact h
  ·exact h
  ·exact absurd h (fun h=>convSl_f h)
  ·exact absurd h (fun h=>convPtr_f h)
  ·simp at h
 case call c =>
  simp only [opA,kCall,opCall] at h ⊢
  split at h
  ·exact absurd h (fun h=>opBuiltin_f h)
  ·simp at h
theorem opA_pure {o:Op} (h:isPure o=true) (t:T Value) (m m':Mem):opA o tb t m=opA o tb t m':=by
 cases o<;>first|rfl|(simp [isPure] at h)
def Sub (m m':Mem):Prop:=∀ b o,m.objs.get b=some o→m'.objs.get b=some o
theorem Sub.refl (m:Mem):Sub m m:=fun _ _ h=>h
section
variable {m m':Mem} (S:Sub m m')
include S
theorem rowOf_sub {b:Nat} {r:Row} (h:rowOf m b=some r):rowOf m' b=some r:=by
 unfold rowOf at h ⊢
 split at h<;>first|(simp at h;done)|skip
 ·rename_i q hq;rw [S _ _ hq];exact h
 ·rename_i q hq;rw [S _ _ hq];exact h
theorem mapOf_sub {b:Nat} {r:List MapEntry × Nat} (h:mapOf m b=some r):mapOf m' b=some r:=by
 unfold mapOf at h ⊢
 split at h<;>first|(simp at h;done)|skip
 rename_i q c hq;rw [S _ _ hq];exact h
theorem loadA_sub {t b o:Nat} {v:Value} (h:loadA tb t m b o=some v):loadA tb t m' b o=some v:=by
 unfold loadA at h ⊢
 obtain⟨i,hi,h⟩:=oB_some.1 h
 obtain⟨r,hr,h⟩:=oB_some.1 h
 rw [hi];simp only [oB];rw [rowOf_sub S hr];exact h
theorem bytesAt_sub {b o n:Nat} {v:ByteArray} (h:bytesAt m b o n=some v):bytesAt m' b o n=some v:=by
 unfold bytesAt at h ⊢
 obtain⟨r,hr,h⟩:=oB_some.1 h
 rw [rowOf_sub S hr];exact h
theorem ptrEq_sub {a b:Addr} {r:Bool} (h:ptrEq m a b=some r):ptrEq m' a b=some r:=by
 unfold ptrEq at h ⊢
 split at h
 ·exact h
 ·split at h<;>first|(simp at h;done)|skip
  rename_i r q hr hq
  rw [rowOf_sub S hr,rowOf_sub S hq];exact h
theorem eqPtr_sub {a b:Option Addr} {r:Bool} (h:eqPtr m a b=some r):eqPtr m' a b=some r:=by
 unfold eqPtr at h ⊢
 split at h<;>first|exact h|exact ptrEq_sub S h
theorem eqPt_sub {e:TypeId} {x y:Value} {r:Bool} (h:eqPt tb m e x y=some r):eqPt tb m' e x y=some r:=by
 unfold eqPt at h ⊢
 split at h<;>first|(simp at h;done)|skip
 obtain⟨i,hi,h⟩:=oB_some.1 h
 rw [hi];simp only [oB]
 split at h
 ·simp at h
 ·exact eqPtr_sub S h
omit S in
theorem eqFields_mono {eq eq':TypeId→Value→Value→Option Bool} (he:∀ t x y r,eq t x y=some r→eq' t x y=some r) {xs ys:List Value}:∀ {fs:List (Nat × Nat × TypeId × Bool)} {r:Bool},eqFields tb eq xs ys fs=some r→eqFields tb eq' xs ys fs=some r
 | [],r,h=>h
 | (o,s,t,b)::fs,r,h=>by
   simp only [eqFields] at h ⊢
   cases b with
   |true=>exact eqFields_mono he h
   |false =>
    obtain⟨x,hx,h⟩:=oB_some.1 h
    obtain⟨y,hy,h⟩:=oB_some.1 h
    obtain⟨q,hq,h⟩:=oB_some.1 h
    simp only
    rw [hx];simp only [oB];rw [hy];simp only [he _ _ _ _ hq]
    cases q with
    |true=>exact eqFields_mono he h
    |false=>exact h
omit S in
theorem eqElems_mono {eq eq':TypeId→Value→Value→Option Bool} (he:∀ t x y r,eq t x y=some r→eq' t x y=some r) {elem n:Nat} {xs ys:List Value}:∀ {k i:Nat} {r:Bool},eqElems tb eq elem n xs ys k i=some r→eqElems tb eq' elem n xs ys k i=some r
 |0,i,r,h=>h
 |k+1,i,r,h=>by
  simp only [eqElems] at h ⊢
  obtain⟨x,hx,h⟩:=oB_some.1 h
  obtain⟨y,hy,h⟩:=oB_some.1 h
  obtain⟨q,hq,h⟩:=oB_some.1 h
  rw [hx];simp only [oB];rw [hy];simp only [he _ _ _ _ hq]
  cases q with
  |true=>exact eqElems_mono he h
  |false=>exact h
omit S in
theorem eqIf_mono {eq eq':TypeId→Value→Value→Option Bool} (he:∀ t x y r,eq t x y=some r→eq' t x y=some r) {x y:Value} {r:Bool} (h:eqIf tb eq x y=some r):eqIf tb eq' x y=some r:=by
 unfold eqIf at h ⊢
 split at h<;>try exact h
 split at h<;>try exact h
 rename_i hb
 obtain⟨j,hj,h⟩:=oB_some.1 h
 simp only [hj,oB]
 split at h<;>first|(simp at h;done)|skip
 exact he _ _ _ _ h
omit S in
theorem eqSt_mono {eq eq':TypeId→Value→Value→Option Bool} (he:∀ t x y r,eq t x y=some r→eq' t x y=some r) {i:TI} {x y:Value} {r:Bool} (h:eqSt tb eq i x y=some r):eqSt tb eq' i x y=some r:=by
 unfold eqSt at h ⊢
 split at h<;>try exact h
 split at h<;>try exact h
 exact eqFields_mono he h
omit S in
theorem eqAr_mono {eq eq':TypeId→Value→Value→Option Bool} (he:∀ t x y r,eq t x y=some r→eq' t x y=some r) {n:Nat} {e:TypeId} {x y:Value} {r:Bool} (h:eqAr tb eq n e x y=some r):eqAr tb eq' n e x y=some r:=by
 unfold eqAr at h ⊢
 split at h<;>try exact h
 obtain⟨j,hj,h⟩:=oB_some.1 h
 rw [hj];simp only [oB]
 exact eqElems_mono he h
theorem eqA_sub:∀ (d:Nat) (t:TypeId) (x y:Value) (r:Bool),eqA tb m d t x y=some r→eqA tb m' d t x y=some r
 |0,_,_,_,_,h=>by simp [eqA] at h
 |d+1,t,x,y,r,h=>by
  simp only [eqA] at h ⊢
  obtain⟨i,hi,h⟩:=oB_some.1 h
  rw [hi];simp only [oB]
  cases hd:i.d<;>rw [hd] at h<;>simp only at h ⊢ <;>
   first|exact h|exact eqPt_sub S h|exact eqIf_mono (eqA_sub d) h|exact eqSt_mono (eqA_sub d) h|exact eqAr_mono (eqA_sub d) h
theorem binA_sub {op:BinOp} {t:TypeId} {x y:Operand} {a b v:Value} (h:binA tb m op t x y a b=some v):binA tb m' op t x y a b=some v:=by
 have key:∀ {r:Bool},eqOp tb m t x y a b=some r→eqOp tb m' t x y a b=some r:=by
  intro r h
  unfold eqOp at h ⊢
  split at h
  ·exact eqA_sub S _ _ _ _ _ h
  ·simp at h
 unfold binA at h ⊢
 split at h<;>try exact h
 split at h<;>try exact h
 ·obtain⟨r,hr,h⟩:=oB_some.1 h
  rw [key hr];exact h
 ·obtain⟨r,hr,h⟩:=oB_some.1 h
  rw [key hr];exact h
theorem sliceA_sub {t:TypeId} {x v:Value} {lo hi mx:Option Value} (h:sliceA tb t m x lo hi mx=some v):sliceA tb t m' x lo hi mx=some v:=by
 unfold sliceA at h ⊢
 obtain⟨i,hi',h⟩:=oB_some.1 h
 rw [hi'];simp only [oB]
 split at h<;>try exact h
 ·obtain⟨⟨l,h0,q⟩,hb,h⟩:=oB_some.1 h
  obtain⟨e,he,h⟩:=oB_some.1 h
  obtain⟨r,hr,h⟩:=oB_some.1 h
  rw [hb];simp only;rw [he];simp only;rw [rowOf_sub S hr];exact h
 ·obtain⟨⟨l,h0,q⟩,hb,h⟩:=oB_some.1 h
  obtain⟨e,he,h⟩:=oB_some.1 h
  obtain⟨r,hr,h⟩:=oB_some.1 h
  rw [hb];simp only;rw [he];simp only;rw [rowOf_sub S hr];exact h
theorem lenA_sub {t:TypeId} {x v:Value} (h:lenA tb t m x=some v):lenA tb t m' x=some v:=by
 unfold lenA at h ⊢
 split at h<;>try exact h
 obtain⟨i,hi,h⟩:=oB_some.1 h
 rw [hi];simp only [oB]
 split at h<;>try exact h
 split at h<;>first|(simp at h;done)|skip
 rename_i hq
 rw [S _ _ hq];exact h
theorem capA_sub {t:TypeId} {x v:Value} (h:capA tb t m x=some v):capA tb t m' x=some v:=by
 unfold capA at h ⊢
 split at h<;>try exact h
 obtain⟨i,hi,h⟩:=oB_some.1 h
 rw [hi];simp only [oB]
 split at h<;>try exact h
 split at h<;>try exact h
 obtain⟨r,hr,h⟩:=oB_some.1 h
 rw [rowOf_sub S hr];exact h
theorem keyFind_sub {kt:TypeId} {k:Value}:∀ {es:List MapEntry} {i:Nat} {q:Option (Nat × Value)},keyFind tb m kt k es i=some q→keyFind tb m' kt k es i=some q
 | [],i,q,h=>h
 |e::es,i,q,h=>by
  simp only [keyFind] at h ⊢
  obtain⟨r,hr,h⟩:=oB_some.1 h
  rw [eqA_sub S _ _ _ _ _ hr];simp only [oB]
  cases r with
  |true=>exact h
  |false=>exact keyFind_sub h
theorem lookupA_sub {t:TypeId} {x k v:Value} {ok:Bool} (h:lookupA tb t m x k ok=some v):lookupA tb t m' x k ok=some v:=by
 unfold lookupA at h ⊢
 obtain⟨i,hi,h⟩:=oB_some.1 h
 rw [hi];simp only [oB]
 split at h<;>try exact h
 split at h<;>try exact h
 split at h<;>try exact h
 obtain⟨⟨es,c⟩,hm,h⟩:=oB_some.1 h
 obtain⟨q,hq,h⟩:=oB_some.1 h
 rw [mapOf_sub S hm];simp only;rw [keyFind_sub S hq];exact h
theorem entryA_sub {it v:Value} (h:entryA m it=some v):entryA m' it=some v:=by
 unfold entryA at h ⊢
 split at h<;>try exact h
 split at h<;>first|(simp at h;done)|skip
 rename_i hq
 rw [S _ _ hq];simp only
 split at h<;>try exact h
 rename_i hl
 obtain⟨⟨es,c⟩,hm,h⟩:=oB_some.1 h
 rw [mapOf_sub S hm];exact h
omit S in
theorem oR_sub {x x':Option Value} (hx:∀ v,x=some v→x'=some v) {v:Value} (h:oR x=.r v):oR x'=.r v:=by
 cases x with
 |none=>simp [oR] at h
 |some u=>simp only [oR,OR.r.injEq] at h;subst h;rw [hx u rfl];rfl
omit S in
theorem oE_r {x:Option (Value × Mem)} {v:Value} (h:oE x=.r v):False:=by
 cases x with
 |none=>simp [oE] at h
 |some x=>obtain⟨_,_⟩:=x;simp [oE] at h
omit S in
theorem oM_r {x:Option Mem} {v:Value} (h:oM x=.r v):False:=by cases x<;>simp [oM] at h
theorem convPtr_sub {s d:TypeDesc} {a:Addr} {v:Value} (h:convPtr tb m s d a=.r v):convPtr tb m' s d a=.r v:=by
 unfold convPtr at h ⊢
 split at h<;>try exact h
 ·split at h<;>try exact h
  split at h<;>first|(simp at h;done)|skip
  rename_i j r hj hr
  rw [hj,rowOf_sub S hr];exact h
 ·split at h<;>try exact h
  split at h<;>first|(simp at h;done)|skip
  rename_i j r hj hr
  rw [hj,rowOf_sub S hr];exact h
theorem convSl_sub {same:Bool} {s d:TypeDesc} {x:Value} {a:Addr} {l:Nat} {v:Value} (h:convSl tb m same s d x a l=.r v):convSl tb m' same s d x a l=.r v:=by
 unfold convSl at h ⊢
 split at h<;>try exact h
 split at h<;>try exact h
 ·split at h<;>try exact h
  rename_i hj
  split at h<;>try exact h
  rename_i hd
  split at h<;>try exact h
  split at h<;>first|(simp at h;done)|skip
  rename_i hb
  rw [bytesAt_sub S hb];exact h
 ·repeat (split at h<;>try (simp at h;done))
theorem opBuiltin_sub {b:Builtin} {tys:List TypeId} {args:List Value} {v:Value} (h:opBuiltin tb m b tys args=.r v):opBuiltin tb m' b tys args=.r v:=by
 unfold opBuiltin at h ⊢
 split at h<;>try exact h
 ·split at h<;>try exact h
  exact oR_sub (fun v h=>lenA_sub S h) h
 ·split at h<;>try exact h
  exact oR_sub (fun v h=>capA_sub S h) h
 ·split at h<;>try exact h
  exact (oE_r h).elim
 ·split at h<;>try exact h
  exact (oE_r h).elim
 ·split at h<;>try exact h
  split at h<;>simp at h
 ·split at h<;>try exact h
  split at h<;>simp at h
 ·split at h<;>try exact h
  unfold opUnsafeString at h ⊢
  split at h<;>try exact h
  repeat (split at h<;>try (simp at h;done))
theorem opA_sub {o:Op} {t:T Value} {v:Value} (h:opA o tb t m=.r v):opA o tb t m'=.r v:=by
 cases o<;>try exact h
 all_goals first
  |exact (oE_r h).elim
  |exact (oM_r h).elim
  |skip
 case assign x=>simp [opA,kAssign] at h
 case load ty a =>
  simp only [opA,kLoad,opLoad] at h ⊢
  split at h
  ·exact oR_sub (fun v h=>loadA_sub S h) h
  ·simp at h
 case store ty a x =>
  simp only [opA,kStore,opStore] at h
  split at h
  ·exact (oM_r h).elim
  ·simp at h
 case binOp op ty x y yt=>exact oR_sub (fun v h=>binA_sub S h) h
 case convert s d x =>
  simp only [opA,kConvert,opConv] at h ⊢
  split at h<;>first|(simp at h;done)|skip
  rename_i s d hs hd
  split at h
  ·exact h
  ·exact h
  ·exact h
  ·exact convSl_sub S h
  ·exact convPtr_sub S h
  ·simp at h
 case slice ty x lo hi mx=>exact oR_sub (fun v h=>sliceA_sub S h) h
 case lookup ty x k ok=>exact oR_sub (fun v h=>lookupA_sub S h) h
 case entry it=>exact oR_sub (fun v h=>entryA_sub S h) h
 case call c =>
  simp only [opA,kCall,opCall] at h ⊢
  split at h
  ·exact opBuiltin_sub S h
  ·simp at h
end
end Go.Ev

namespace Go.Ev
def Valid (ops:Array Oper):List Nat→Prop
 | []=>True
 |i::l=>i∉l∧(∀ o,ops.toList[i]? = some o→∀ e∈o.after.toList,Region.binds .any e=true→e.on∉i::l)∧Valid ops l
theorem binds_any {md:Region.Mode} {e:Edge} (h:Region.binds .any e=true):Region.binds md e=true:=by
 unfold Region.binds at h ⊢
 cases hg:e.ground<;>rw [hg] at h<;>first|rfl|(simp at h)
theorem drawBy_some {md:Region.Mode} {ops:Array Oper} {r:Nat→Nat} (h:drawBy md ops.toList.zipIdx ops.toList.length r=true) {i:Nat} {o:Oper} (ho:ops.toList[i]? = some o):∀ e∈o.after.toList,Region.binds md e=true→e.on<ops.size∧r e.on<r i:=by
 intro e he hb
 unfold drawBy at h
 rw [List.all_eq_true] at h
 have hm:(o,i)∈ops.toList.zipIdx:=by
  rw [List.mem_zipIdx_iff_getElem?];exact ho
 have:=h _ hm
 simp only [List.all_eq_true] at this
 have:=this e he
 rw [hb] at this
 simpa [Nat.blt_eq] using this
theorem drawMd_some {md:Region.Mode} {ops:Array Oper} (h:drawMd ops md=true):∃ r:Nat→Nat,∀ (i:Nat) (o:Oper),ops.toList[i]? = some o→∀ e∈o.after.toList,Region.binds md e=true→e.on<ops.size∧r e.on<r i:=by
 unfold drawMd at h
 split at h
 ·rename_i h1;exact⟨fun x=>x,fun i o ho=>drawBy_some h1 ho⟩
 ·exact⟨fun x=>rankIn x (topo md ops.toList.zipIdx ops.toList.length []) 0,fun i o ho=>drawBy_some h ho⟩
theorem drawOk_some {ops:Array Oper} (h:drawOk ops=true) (md:Region.Mode):∃ r:Nat→Nat,∀ (i:Nat) (o:Oper),ops.toList[i]? = some o→∀ e∈o.after.toList,Region.binds md e=true→e.on<ops.size∧r e.on<r i:=by
 unfold drawOk at h
 simp only [Bool.and_eq_true] at h
 cases md
 ·exact drawMd_some h.1.2
 ·exact drawMd_some h.2
 ·exact drawMd_some h.1.1
section
variable (md:Region.Mode) (ops:Array Oper)
structure LinI (listed:Array Bool) (acc:List Nat):Prop where
 size:listed.size=ops.size
 nd:acc.Nodup
 mem:∀ i,i∈acc↔listed[i]? = some true
 valid:∀ a i b,acc=a++i::b→∀ o,ops.toList[i]? = some o→∀ e∈o.after.toList,Region.binds md e=true→e.on∈b
def LinOut (res:List Nat):Prop:=res.Nodup∧(∀ i,i<ops.size→i∈res)∧(∀ i∈res,i<ops.size) ∧
   (∀ a i b,res=a++i::b→∀ o,ops.toList[i]? = some o→∀ e∈o.after.toList,Region.binds md e=true→e.on∈b)
theorem LinI.out {listed:Array Bool} {acc:List Nat} (hI:LinI md ops listed acc) (hall:∀ i,i<ops.size→listed[i]? = some true):LinOut md ops acc :=
 ⟨hI.nd,fun i hi=>(hI.mem i).2 (hall i hi),fun i hi=>by
  have:=(Array.getElem?_eq_some_iff.1 ((hI.mem i).1 hi)).1
  rw [hI.size] at this;exact this,hI.valid⟩
theorem lin_go (hb:drawOk ops=true):∀ (fuel t:Nat) (listed:Array Bool) (acc:List Nat),LinI md ops listed acc→listed.toList.countP (!·)≤fuel →
  ∃ res,Region.linearise.go md ops fuel t listed acc=res.reverse∧LinOut md ops res
 |0,t,listed,acc,hI,hf=>by
  refine⟨acc,rfl,hI.out md ops fun i hi=>?_⟩
  have h0:listed.toList.countP (!·)=0:=by omega
  rw [List.countP_eq_zero] at h0
  have hlt:i<listed.size:=by rw [hI.size];exact hi
  have:=h0 listed[i] (by simp)
  rw [Array.getElem?_eq_getElem hlt]
  simpa using this
 |fuel+1,t,listed,acc,hI,hf=>by
  simp only [Region.linearise.go]
  generalize hrs:((List.range ops.size).filter fun i=>!listed.getD i true&&((ops[i]?).map (·.after.all fun e=>!Region.binds md e||listed.getD e.on false)).getD false)=rs
  split
  ·rename_i i hi
   have hmem:i∈rs:=List.mem_of_getElem? hi
   rw [← hrs,List.mem_filter] at hmem
   obtain⟨h1,h2⟩:=hmem
   rw [List.mem_range] at h1
   rw [Bool.and_eq_true] at h2
   have hls:i<listed.size:=by rw [hI.size];exact h1
   have hnl:listed[i]=false:=by
    have:=h2.1
    simp only [Array.getD_eq_getD_getElem?,Array.getElem?_eq_getElem hls,Option.getD_some] at this
    simpa using this
   refine lin_go hb fuel _ _ _ ⟨by simp [hI.size],?_,?_,?_⟩ ?_
   ·rw [List.nodup_cons]
    refine⟨fun hm=>?_,hI.nd⟩
    have:=(hI.mem i).1 hm
    rw [Array.getElem?_eq_getElem hls,hnl] at this
    simp at this
   ·intro j
    rw [List.mem_cons,hI.mem j,Array.getElem?_setIfInBounds]
    by_cases e:i=j
    ·subst e;simp [hls]
    ·simp [e,fun h:j=i=>e h.symm]
     exact fun h=>absurd h.symm e
   ·intro a j b hab o ho e he hbd
    cases a with
    |nil =>
     simp only [List.nil_append,List.cons.injEq] at hab
     obtain⟨rfl,rfl⟩:=hab
     have h3:=h2.2
     have ho':ops[i]? = some o:=by simpa using ho
     rw [ho'] at h3
     simp only [Option.map_some,Option.getD_some,Array.all_eq_true_iff_forall_mem] at h3
     have:=h3 e (by simpa using he)
     rw [hbd] at this
     simp only [Bool.not_true,Bool.false_or] at this
     refine (hI.mem e.on).2 ?_
     rw [Array.getD_eq_getD_getElem?] at this
     cases hq:listed[e.on]? with
     |none=>rw [hq] at this;simp at this
     |some q=>rw [hq] at this;simp at this;rw [this]
    |cons x a =>
     simp only [List.cons_append,List.cons.injEq] at hab
     obtain⟨rfl,hab⟩:=hab
     exact hI.valid a j b hab o ho e he hbd
   ·have:(listed.setIfInBounds i true).toList=listed.toList.set i true:=by simp
    rw [this,List.countP_set (h:=by simpa using hls)]
    have hg:listed.toList[i]'(by simpa using hls)=false:=by simpa using hnl
    rw [hg]
    have hpos:0<listed.toList.countP (!·):=List.countP_pos_iff.2 ⟨false,by rw [← hg];exact List.getElem_mem _,rfl⟩
    simp only [Bool.not_false,if_true,Bool.not_true,Bool.false_eq_true,if_false]
    omega
  ·rename_i hn
   refine⟨acc,rfl,hI.out md ops ?_⟩
   have hrn:rs=[]:=by
    cases rs with
    |nil=>rfl
    |cons x l =>
     rw [List.getElem?_eq_none_iff] at hn
     have:=Nat.mod_lt t (show 0<(x::l).length by simp)
     omega
   obtain⟨r,hr⟩:=drawOk_some hb md
   suffices all:∀ n i,r i=n→i<ops.size→listed[i]? = some true from fun i hi=>all _ i rfl hi
   intro n
   induction n using Nat.strongRecOn with
   |_ n ih =>
    intro i hin hi
    have hls:i<listed.size:=by rw [hI.size];exact hi
    cases hq:listed[i] with
    |true=>rw [Array.getElem?_eq_getElem hls,hq]
    |false =>
     exfalso
     have:i∈rs:=by
      rw [← hrs,List.mem_filter]
      refine⟨List.mem_range.2 hi,?_⟩
      rw [Bool.and_eq_true]
      refine⟨by simp [Array.getD_eq_getD_getElem?,Array.getElem?_eq_getElem hls,hq],?_⟩
      have ho:ops[i]? = some ops[i]:=Array.getElem?_eq_getElem hi
      rw [ho]
      simp only [Option.map_some,Option.getD_some,Array.all_eq_true_iff_forall_mem]
      intro e he
      cases hbd:Region.binds md e with
      |false=>rfl
      |true =>
       obtain⟨hlt,hrk⟩:=hr i ops[i] (by simp) e (by simpa using he) hbd
       have:=ih (r e.on) (by omega) e.on rfl hlt
       simp [Array.getD_eq_getD_getElem?,this]
     rw [hrn] at this
     simp at this
end
theorem valid_of {md:Region.Mode} {ops:Array Oper} {res:List Nat} (h:LinOut md ops res):Valid ops res.reverse∧(∀ i,i∈res.reverse↔i<ops.size):=by
 refine⟨?_,fun i=>by rw [List.mem_reverse];exact⟨h.2.2.1 i,h.2.1 i⟩⟩
 obtain⟨h1,_,_,h4⟩:=h
 have key:∀ (l pre:List Nat),res.reverse=pre++l→Valid ops l:=by
  intro l
  induction l with
  |nil=>intro pre _;trivial
  |cons i l ih =>
   intro pre hp
   have hr:res=l.reverse++i::pre.reverse:=by
    have:=congrArg List.reverse hp
    simpa using this
   refine⟨?_,?_,ih (pre++[i]) (by rw [hp];simp)⟩
   ·rw [hr,List.nodup_append] at h1
    intro hm
    exact (h1.2.2 i (by simpa using hm) i (by simp)) rfl
   ·intro o ho e he hbd
    have:=h4 _ _ _ hr o ho e he (binds_any hbd)
    rw [hr,List.nodup_append] at h1
    obtain⟨n1,n2,n3⟩:=h1
    rw [List.nodup_cons] at n2
    intro hm
    rcases List.mem_cons.1 hm with e0|hm
    ·rw [e0] at this;exact n2.1 this
    ·exact n3 e.on (by simpa using hm) e.on (List.mem_cons_of_mem _ this) rfl
 exact key _ [] rfl
theorem schedule_valid {ops:Array Oper} (hb:drawOk ops=true) (mixed:Bool) (t:Nat):Valid ops (Region.schedule mixed ops t)∧∀ i,i∈Region.schedule mixed ops t↔i<ops.size:=by
 have key:∀ md t,Valid ops (Region.linearise md ops t)∧∀ i,i∈Region.linearise md ops t↔i<ops.size:=by
  intro md t
  obtain⟨res,h1,h2⟩:=lin_go md ops hb ops.size t (Array.replicate ops.size false) [] ⟨by simp,by simp,by
   intro i
   simp [Array.getElem?_replicate],by
   intro a i b hab
   simp at hab⟩ (Nat.le_trans List.countP_le_length (by simp))
  unfold Region.linearise
  rw [h1]
  exact valid_of h2
 unfold Region.schedule
 split
 ·exact key _ _
 ·exact key _ _
end Go.Ev

namespace Go.Ev
open Go.RowKit
structure Info where
 blk:Nat
 shift:Nat
 extra:Nat
abbrev Env:=Nat→Option Info
mutual
inductive VR (E:Env):Value→Value→Prop where
 |bool (b:Bool):VR E (.bool b) (.bool b)
 |int (k:IntKind) (n:Int):VR E (.int k n) (.int k n)
 |string (s:ByteArray):VR E (.string s) (.string s)
 |ptrNil:VR E (.pointer none) (.pointer none)
 |ptr {b o:Nat} {i:Info} (h:E b=some i):VR E (.pointer (some ⟨b,o,none⟩)) (.pointer (some ⟨i.blk,i.shift+o,none⟩))
 |slNil (l c:Nat):VR E (.slice none l c) (.slice none l c)
 |sl {b o:Nat} {i:Info} (l c:Nat) (h:E b=some i):VR E (.slice (some ⟨b,o,none⟩) l c) (.slice (some ⟨i.blk,i.shift+o,none⟩) l (c+i.extra))
 |slX {b o:Nat} {i:Info} (l c:Nat) (h:E b=some i):VR E (.slice (some ⟨b,o,some 0⟩) l c) (.slice (some ⟨i.blk,i.shift+o,none⟩) l c)
 |slE0 {b o k:Nat} {i:Info} (h:E b=some i) (hx:i.extra=0):VR E (.slice (some ⟨b,o,some (k+1)⟩) 0 0) (.slice (some ⟨i.blk,i.shift+o,none⟩) 0 0)
 |slE1 {b o k:Nat} {i:Info} (h:E b=some i) (hx:i.extra≠0):VR E (.slice (some ⟨b,o,some (k+1)⟩) 0 0) (.slice (some ⟨i.blk,i.shift+o+(k+1),none⟩) 0 i.extra)
 |slD {b o:Nat} {s:Option Nat} {i:Info} (a':Addr) (h:E b=some i):VR E (.slice (some ⟨b,o,s⟩) 0 0) (.slice (some a') 0 0)
 |mapNil:VR E (.map none) (.map none)
 |map {r:Nat} {i:Info} (h:E r=some i):VR E (.map (some r)) (.map (some i.blk))
 |nilFunc:VR E .nilFunc .nilFunc
 |nilIface:VR E .nilIface .nilIface
 |func {fn:Fn} {f f' c c':List Value} (hf:∀ l,fn≠.yield l) (h1:VRs E f f') (h2:VRs E c c'):VR E (.func fn ⟨f⟩ ⟨c⟩) (.func fn ⟨f'⟩ ⟨c'⟩)
 |yield {l:Nat} {i:Info} (h:E l=some i):VR E (.func (.yield l) #[] #[]) (.func (.yield i.blk) #[] #[])
 |iface (t:TypeId) {v v':Value} (h:VR E v v'):VR E (.iface t v) (.iface t v')
 |agg {a a':List Value} (h:VRs E a a'):VR E (.agg ⟨a⟩) (.agg ⟨a'⟩)
 |tuple {a a':List Value} (h:VRs E a a'):VR E (.tuple ⟨a⟩) (.tuple ⟨a'⟩)
inductive VRs (E:Env):List Value→List Value→Prop where
 |nil:VRs E [] []
 |cons {v v':Value} {l l':List Value} (h:VR E v v') (t:VRs E l l'):VRs E (v::l) (v'::l')
end
def Env.le (E E':Env):Prop:=∀ b i,E b=some i→E' b=some i
theorem Env.le.refl (E:Env):Env.le E E:=fun _ _ h=>h
theorem Env.le.trans {A B C:Env} (h:Env.le A B) (k:Env.le B C):Env.le A C:=fun b i e=>k b i (h b i e)
mutual
theorem VR.mono {E E':Env} (hE:Env.le E E'):∀ {v v':Value},VR E v v'→VR E' v v'
 |_,_,.bool b=>.bool b
 |_,_,.int k n=>.int k n
 |_,_,.string s=>.string s
 |_,_,.ptrNil=>.ptrNil
 |_,_,.ptr h=>.ptr (hE _ _ h)
 |_,_,.slNil l c=>.slNil l c
 |_,_,.sl l c h=>.sl l c (hE _ _ h)
 |_,_,.slX l c h=>.slX l c (hE _ _ h)
 |_,_,.slD a h=>.slD a (hE _ _ h)
 |_,_,.slE0 h hx=>.slE0 (hE _ _ h) hx
 |_,_,.slE1 h hx=>.slE1 (hE _ _ h) hx
 |_,_,.mapNil=>.mapNil
 |_,_,.map h=>.map (hE _ _ h)
 |_,_,.nilFunc=>.nilFunc
 |_,_,.nilIface=>.nilIface
 |_,_,.func hf h1 h2=>.func hf (VRs.mono hE h1) (VRs.mono hE h2)
 |_,_,.yield h=>.yield (hE _ _ h)
 |_,_,.iface t h=>.iface t (VR.mono hE h)
 |_,_,.agg h=>.agg (VRs.mono hE h)
 |_,_,.tuple h=>.tuple (VRs.mono hE h)
theorem VRs.mono {E E':Env} (hE:Env.le E E'):∀ {l l':List Value},VRs E l l'→VRs E' l l'
 |_,_,.nil=>.nil
 |_,_,.cons h t=>.cons (VR.mono hE h) (VRs.mono hE t)
end
theorem VR.undef (E:Env):VR E undef undef:=.tuple .nil
section
variable {E:Env}
theorem VRs.length {l l':List Value} (h:VRs E l l'):l.length=l'.length:=by
 induction l generalizing l' with
 |nil=>cases h;rfl
 |cons v l ih=>cases h with|cons h t=>simp [ih t]
theorem VRs.get {l l':List Value} (h:VRs E l l'):∀ (i:Nat) (v:Value),l[i]? = some v→∃ v',l'[i]? = some v'∧VR E v v':=by
 induction l generalizing l' with
 |nil=>intro i v hv;simp at hv
 |cons x l ih =>
  cases h with
  |cons h t =>
   intro i v hv
   cases i with
   |zero=>simp at hv;subst hv;exact⟨_,by simp,h⟩
   |succ i=>simp at hv;obtain⟨v',h1,h2⟩:=ih t i v hv;exact⟨v',by simpa using h1,h2⟩
theorem VRs.of_get {l l':List Value} (hl:l.length=l'.length) (h:∀ (i:Nat) (v v':Value),l[i]? = some v→l'[i]? = some v'→VR E v v'):VRs E l l':=by
 induction l generalizing l' with
 |nil=>cases l' with|nil=>exact .nil|cons=>simp at hl
 |cons x l ih =>
  cases l' with
  |nil=>simp at hl
  |cons y l' =>
   refine .cons (h 0 x y (by simp) (by simp)) (ih (by simpa using hl) fun i v v' h1 h2=>h (i+1) v v' (by simpa using h1) (by simpa using h2))
theorem VRs.append {a a' b b':List Value} (h:VRs E a a') (k:VRs E b b'):VRs E (a++b) (a'++b'):=by
 induction a generalizing a' with
 |nil=>cases h;exact k
 |cons x l ih=>cases h with|cons h t=>exact .cons h (ih t)
theorem VRs.take {a a':List Value} (h:VRs E a a') (n:Nat):VRs E (a.take n) (a'.take n):=by
 induction a generalizing a' n with
 |nil=>cases h;simp;exact .nil
 |cons x l ih=>cases h with|cons h t=>cases n with|zero=>simp;exact .nil|succ n=>simp;exact .cons h (ih t n)
theorem VRs.drop {a a':List Value} (h:VRs E a a') (n:Nat):VRs E (a.drop n) (a'.drop n):=by
 induction a generalizing a' n with
 |nil=>cases h;simp;exact .nil
 |cons x l ih=>cases h with|cons h t=>cases n with|zero=>simp;exact .cons h t|succ n=>simp;exact ih t n
theorem VRs.repl {z z':List Value} (h:VRs E z z'):∀ n,VRs E (repl z n) (repl z' n)
 |0=>.nil
 |n+1=>VRs.append h (VRs.repl h n)
theorem VR.cells {v v':Value} (h:VR E v v'):VRs E (cellsOfV v) v'.cells.toList:=by
 cases h<;>first|exact (‹VRs E _ _›)|exact .cons (by constructor<;>assumption) .nil
end
end Go.Ev

namespace Go.Ev
open Go.RowKit
def TRx (E:Env) (X:Nat→Prop) (t:T Value) (nt:Nat) (tm:Array Value):Prop :=
 tm.size=nt∧∀ x,¬ X x→VR E (ev t (.tmp x)) (tm.getD x undef)
abbrev TR (E:Env) (t:T Value) (nt:Nat) (tm:Array Value):Prop:=TRx E (fun _=>False) t nt tm
theorem TRx.mono {E E':Env} {X:Nat→Prop} {t:T Value} {nt:Nat} {tm:Array Value} (hE:Env.le E E') (h:TRx E X t nt tm):TRx E' X t nt tm :=
 ⟨h.1,fun x hx=>(h.2 x hx).mono hE⟩
inductive DefR (E:Env):Deferred→Deferred→Prop where
 |fn {fn fn':Fn} {c c' a a':List Value} (h:VR E (.func fn #[] ⟨c⟩) (.func fn' #[] ⟨c'⟩)) (ha:VRs E a a'):DefR E { target:=.fn fn ⟨c⟩,args:=⟨a⟩ } { target:=.fn fn' ⟨c'⟩,args:=⟨a'⟩ }
 |coll {b:Nat} {i:Info} (h:E b=some i):DefR E { target:=.collected b,args := #[] } { target:=.collected i.blk,args := #[] }
theorem DefR.mono {E E':Env} (hE:Env.le E E') {d d':Deferred} (h:DefR E d d'):DefR E' d d':=by
 cases h with
 |fn h ha=>exact .fn (h.mono hE) (ha.mono hE)
 |coll h=>exact .coll (hE _ _ h)
inductive DefsR (E:Env):List Deferred→List Deferred→Prop where
 |nil:DefsR E [] []
 |cons {d d':Deferred} {l l':List Deferred} (h:DefR E d d') (t:DefsR E l l'):DefsR E (d::l) (d'::l')
theorem DefsR.mono {E E':Env} (hE:Env.le E E') {l l':List Deferred} (h:DefsR E l l'):DefsR E' l l':=by
 induction h with
 |nil=>exact .nil
 |cons h _ ih=>exact .cons (h.mono hE) ih
theorem DefsR.append {E:Env} {a a' b b':List Deferred} (h:DefsR E a a') (k:DefsR E b b'):DefsR E (a++b) (a'++b'):=by
 induction h with
 |nil=>exact k
 |cons h _ ih=>exact .cons h ih
inductive EntR (E:Env):List MapEntry→List MapEntry→Prop where
 |nil:EntR E [] []
 |cons {k k' v v':Value} {b:Nat} {l l':List MapEntry} (hk:VR E k k') (hv:VR E v v') (t:EntR E l l'):EntR E (⟨k,v,b⟩::l) (⟨k',v',b⟩::l')
theorem EntR.mono {E E':Env} (hE:Env.le E E') {l l':List MapEntry} (h:EntR E l l'):EntR E' l l':=by
 induction h with
 |nil=>exact .nil
 |cons hk hv _ ih=>exact .cons (hk.mono hE) (hv.mono hE) ih
theorem EntR.length {E:Env} {l l':List MapEntry} (h:EntR E l l'):l.length=l'.length:=by
 induction h with
 |nil=>rfl
 |cons _ _ _ ih=>simp [ih]
theorem EntR.append {E:Env} {a a' b b':List MapEntry} (h:EntR E a a') (k:EntR E b b'):EntR E (a++b) (a'++b'):=by
 induction h with
 |nil=>exact k
 |cons hk hv _ ih=>exact .cons hk hv ih
def FzR (fz:Fz) (shift size:Nat) (fr:Nat × Nat):Prop :=
 match fz with
 | .none=>fr.1=fr.2
 | .str=>fr.1=fr.2∨size≤fr.1
 | .rng lo hi=>fr=(shift+lo,shift+hi)
structure RowR (sz:Nat) (E:Env) (r:Row) (i:Info) (cells:Array Value) (elem:TypeId) (fr:Nat × Nat):Prop where
 elem:elem=r.elem
 cell:∀ j v,cellAt r j=some v→∃ v',cells[i.shift+j]? = some v'∧VR E v v'
 size:cells.size=i.shift+r.n+i.extra*sz
 exact':r.ext=false→i.shift=0∧i.extra=0
 fz:FzR r.fz i.shift cells.size fr
theorem RowR.mono {sz:Nat} {E E':Env} (hE:Env.le E E') {r:Row} {i:Info} {cells:Array Value} {elem:TypeId} {fr:Nat × Nat} (h:RowR sz E r i cells elem fr):RowR sz E' r i cells elem fr :=
 ⟨h.elem,fun j v hv=>let ⟨v',h1,h2⟩:=h.cell j v hv; ⟨v',h1,h2.mono hE⟩,h.size,h.exact',h.fz⟩
inductive ObjR (P:Program) (E:Env) (i:Info):AObj→Obj→Prop where
 |row {r:Row} {cells:Array Value} {elem:TypeId} {fr:Nat × Nat} (h:RowR (P.cellsOf r.elem) E r i cells elem fr):ObjR P E i (.row r) (.cells cells elem fr)
 |glob {r:Row} {cells:Array Value} {elem:TypeId} {fr:Nat × Nat} (h:RowR (P.cellsOf r.elem) E r i cells elem fr) (hx:r.ext=false):ObjR P E i (.glob r) (.cells cells elem fr)
 |map {es es':List MapEntry} {c:Nat} (h:EntR E es es'):ObjR P E i (.map es c) (.map ⟨es'⟩ c)
 |strIter {s:ByteArray} {pos:Nat} {rest:List UInt8} (hs:i.shift=0) (h:rest=s.data.toList.drop pos):ObjR P E i (.strIter s pos rest) (.stringIter s pos)
 |mapIter0 (since:Nat) (seen:List Nat) (st:Nat) (hs:i.shift=0):ObjR P E i (.mapIter none since seen st) (.mapIter none since ⟨seen⟩ st)
 |mapIter {r:Nat} {j:Info} (since:Nat) (seen:List Nat) (st:Nat) (hs:i.shift=0) (h:E r=some j):ObjR P E i (.mapIter (some r) since seen st) (.mapIter (some j.blk) since ⟨seen⟩ st)
 |loop {st:LoopState} {pe:Option Code} {fn:FuncId} {t:T Value} {nt:Nat} {tm:Array Value} {ps:List Tmp} {a b:Code} {ds:Nat} {j:Info} (ht:TR E t nt tm) (h:E ds=some j) :
   ObjR P E i (.loop st pe fn t nt ps a b ds) (.loop { state:=st,pending:=pe,fn,tmps:=tm,params:=⟨ps⟩,assign:=a,body:=b,defers:=j.blk })
 |dfr0:ObjR P E i (.dfr none) (.deferred none)
 |dfr {l l':List Deferred} (h:DefsR E l l'):ObjR P E i (.dfr (some l)) (.deferred (some l'))
theorem ObjR.mono {P:Program} {E E':Env} (hE:Env.le E E') {i:Info} {a:AObj} {o:Obj} (h:ObjR P E i a o):ObjR P E' i a o:=by
 cases h with
 |row h=>exact .row (h.mono hE)
 |glob h hx=>exact .glob (h.mono hE) hx
 |map h=>exact .map (h.mono hE)
 |strIter hs h=>exact .strIter hs h
 |mapIter0 _ _ _ hs=>exact .mapIter0 _ _ _ hs
 |mapIter a b c hs h=>exact .mapIter _ _ _ hs (hE _ _ h)
 |loop ht h=>exact .loop (ht.mono hE) (hE _ _ h)
 |dfr0=>exact .dfr0
 |dfr h=>exact .dfr (h.mono hE)
def AObj.live:AObj→Bool
 | .dead=>false
 |_=>true
def AObj.own:AObj→Bool
 | .dead=>false
 | .glob _=>false
 |_=>true
structure MR (P:Program) (N:Nat) (w0:World) (E:Env) (m:Mem) (w:World):Prop where
 objs:∀ b i o,E b=some i→m.objs.get b=some o→o.live=true→∃ ob,w.heap[i.blk]? = some ob∧ObjR P E i o ob
 ub:∀ b i,E b=some i→i.blk<w.heap.size
 dom:∀ b,m.next≤b→m.objs.get b=none∧E b=none
 inj:∀ b b' i i' o o',b≠b'→E b=some i→E b'=some i'→m.objs.get b=some o→m.objs.get b'=some o'→o.live=true→o'.live=true→i.blk≠i'.blk
 own:∀ b i o,E b=some i→m.objs.get b=some o→o.own=true→N≤i.blk
 base:Below N w0 w
 size:N≤w.heap.size
structure MExt (hi:Nat) (E:Env) (m:Mem) (E':Env) (m':Mem):Prop where
 le:Env.le E E'
 pend:∀ b,b<hi→E b=none→E' b=none∧m'.objs.get b=m.objs.get b
 next:m.next≤m'.next
theorem MExt.refl (hi:Nat) (E:Env) (m:Mem):MExt hi E m E m:=⟨.refl E,fun _ _ h=>⟨h,rfl⟩,Nat.le_refl _⟩
theorem MExt.trans {hi:Nat} {A B C:Env} {a b c:Mem} (h:MExt hi A a B b) (k:MExt hi B b C c):MExt hi A a C c :=
 ⟨h.le.trans k.le,fun x hx e=>let ⟨e1,g1⟩:=h.pend x hx e;let ⟨e2,g2⟩:=k.pend x hx e1; ⟨e2,g2.trans g1⟩,Nat.le_trans h.next k.next⟩
theorem MExt.lower {hi lo:Nat} {A B:Env} {a b:Mem} (h:MExt hi A a B b) (hl:lo≤hi):MExt lo A a B b :=
 ⟨h.le,fun x hx=>h.pend x (by omega),h.next⟩
theorem get_putObj (m:Mem) (b:Nat) (o:AObj) (k:Nat):(putObj m b o).objs.get k=if k=b then some o else m.objs.get k:=T.get_set _ _ _ _
theorem next_putObj (m:Mem) (b:Nat) (o:AObj):(putObj m b o).next=m.next:=rfl
theorem get_newObjA (m:Mem) (o:AObj) (k:Nat):(newObjA m o).objs.get k=if k=m.next then some o else m.objs.get k:=T.get_set _ _ _ _
theorem next_newObjA (m:Mem) (o:AObj):(newObjA m o).next=m.next+1:=rfl
theorem rowOf_some {m:Mem} {b:Nat} {r:Row} (h:rowOf m b=some r):m.objs.get b=some (.row r)∨m.objs.get b=some (.glob r):=by
 unfold rowOf at h
 split at h<;>simp_all
theorem rowW_some {m:Mem} {b:Nat} {r:Row} (h:rowW m b=some r):m.objs.get b=some (.row r):=by
 unfold rowW at h
 split at h<;>simp_all
theorem rowOf_of_rowW {m:Mem} {b:Nat} {r:Row} (h:rowW m b=some r):rowOf m b=some r:=by
 unfold rowOf;rw [rowW_some h]
section
variable {P:Program} {N:Nat} {w0:World} {E:Env} {m:Mem} {w:World}
theorem MR.row (H:MR P N w0 E m w) {b:Nat} {i:Info} {r:Row} (hE:E b=some i) (h:rowOf m b=some r) :
  ∃ cells elem fr,w.heap[i.blk]? = some (.cells cells elem fr)∧RowR (P.cellsOf r.elem) E r i cells elem fr:=by
 rcases rowOf_some h with h|h
 ·obtain⟨ob,h1,h2⟩:=H.objs b i _ hE h rfl
  cases h2 with|row h2=>exact⟨_,_,_,h1,h2⟩
 ·obtain⟨ob,h1,h2⟩:=H.objs b i _ hE h rfl
  cases h2 with|glob h2 _=>exact⟨_,_,_,h1,h2⟩
theorem MR.cell (H:MR P N w0 E m w) {b:Nat} {i:Info} {r:Row} (hE:E b=some i) (h:rowOf m b=some r) {j:Nat} {v:Value} (hv:cellAt r j=some v) :
  ∃ v',w.cell? ⟨i.blk,i.shift+j,none⟩=some v'∧VR E v v':=by
 obtain⟨cells,elem,fr,h1,h2⟩:=H.row hE h
 obtain⟨v',h3,h4⟩:=h2.cell j v hv
 exact⟨v',by simp [World.cell?,h1,h3],h4⟩
theorem cellAt_lt {r:Row} {j:Nat} {v:Value} (h:cellAt r j=some v):j<r.n:=by
 obtain⟨ov,n,z,e,f,x⟩:=r
 simp only [cellAt] at h
 split at h
 ·rename_i hb;simpa [Nat.blt_eq] using hb
 ·simp at h
theorem MR.put (H:MR P N w0 E m w) {b:Nat} {i:Info} {o o':AObj} {w':World} (hE:E b=some i) (hg:m.objs.get b=some o) (hl:o.own=true) (hl':o'.own=true∨o'.live=false)
  (hsize:w'.heap.size=w.heap.size) (hother:∀ k,k≠i.blk→w'.heap[k]? = w.heap[k]?) (hos:w'.os=w.os) (htape:w'.tape=w.tape) (hout:w'.output=w.output)
  (hob:o'.live=true→∃ ob,w'.heap[i.blk]? = some ob∧ObjR P E i o' ob):MR P N w0 E (putObj m b o') w':=by
 have hlive:o.live=true:=by cases o<;>simp_all [AObj.own,AObj.live]
 refine⟨?_,?_,?_,?_,?_,?_,?_⟩
 ·intro c j q hc hq hql
  rw [get_putObj] at hq
  by_cases e:c=b
  ·subst e
   rw [if_pos rfl] at hq
   obtain rfl:=Option.some.inj hq
   obtain rfl:=Option.some.inj (hE.symm.trans hc)
   exact hob hql
  ·rw [if_neg e] at hq
   obtain⟨ob,h1,h2⟩:=H.objs c j q hc hq hql
   exact⟨ob,by rw [hother _ (H.inj c b j i q o e hc hE hq hg hql hlive)];exact h1,h2⟩
 ·intro c j hc;rw [hsize];exact H.ub c j hc
 ·intro c hc
  rw [next_putObj] at hc
  rw [get_putObj]
  obtain⟨h1,h2⟩:=H.dom c hc
  have:c≠b:=by intro e;subst e;rw [h1] at hg;simp at hg
  rw [if_neg this];exact⟨h1,h2⟩
 ·intro c c' j j' q q' hne hc hc' hq hq' hl1 hl2
  rw [get_putObj] at hq hq'
  have key:∀ x y,(if x=b then some o' else m.objs.get x)=some y→y.live=true→∃ z,m.objs.get x=some z∧z.live=true:=by
   intro x y h hy
   by_cases e:x=b
   ·subst e;exact⟨o,hg,hlive⟩
   ·rw [if_neg e] at h;exact⟨y,h,hy⟩
  obtain⟨z,hz,hzl⟩:=key _ _ hq hl1
  obtain⟨z',hz',hzl'⟩:=key _ _ hq' hl2
  exact H.inj c c' j j' z z' hne hc hc' hz hz' hzl hzl'
 ·intro c j q hc hq hqo
  rw [get_putObj] at hq
  by_cases e:c=b
  ·subst e
   obtain rfl:=Option.some.inj (hE.symm.trans hc)
   exact H.own c _ o hE hg hl
  ·rw [if_neg e] at hq;exact H.own c j q hc hq hqo
 ·exact⟨hos.trans H.base.os,htape.trans H.base.tape,hout.trans H.base.output,by rw [hsize];exact H.base.size,fun k hk=>by
   rw [hother k (by have:=H.own b i o hE hg hl;omega)];exact H.base.block k hk⟩
 ·rw [hsize];exact H.size
theorem MExt.put {hi:Nat} {b:Nat} {i:Info} (o:AObj) (hE:E b=some i):MExt hi E m E (putObj m b o) :=
 ⟨.refl E,fun c _ hc=>⟨hc,by rw [get_putObj,if_neg (by intro e;subst e;rw [hE] at hc;simp at hc)]⟩,Nat.le_refl _⟩
def Env.add (E:Env) (b:Nat) (i:Info):Env:=fun c=>if c=b then some i else E c
theorem Env.add_le {E:Env} {b:Nat} {i:Info} (h:E b=none):Env.le E (E.add b i):=by
 intro c j hc
 unfold Env.add
 rw [if_neg (by intro e;subst e;rw [h] at hc;simp at hc)];exact hc
theorem Env.add_at {E:Env} {b:Nat} {i:Info}:E.add b i b=some i:=by simp [Env.add]
theorem MR.mat (H:MR P N w0 E m w) {b:Nat} {o:AObj} {ob:Obj} {w':World} (hE:E b=none) (hg:m.objs.get b=some o) (hlt:b<m.next) (hown:o.own=true)
  (hheap:w'.heap=w.heap.push ob) (hos:w'.os=w.os) (htape:w'.tape=w.tape) (hout:w'.output=w.output) {sh ex:Nat}
  (hob:ObjR P (E.add b ⟨w.heap.size,sh,ex⟩) ⟨w.heap.size,sh,ex⟩ o ob):MR P N w0 (E.add b ⟨w.heap.size,sh,ex⟩) m w':=by
 have hle:=Env.add_le (i:=⟨w.heap.size,sh,ex⟩) hE
 have hold:∀ k,k<w.heap.size→w'.heap[k]? = w.heap[k]? := fun k hk=>by rw [hheap,Array.getElem?_push,if_neg (by omega)]
 refine⟨?_,?_,?_,?_,?_,?_,?_⟩
 ·intro c j q hc hq hql
  by_cases e:c=b
  ·subst e
   obtain rfl:=Option.some.inj (Env.add_at.symm.trans hc)
   obtain rfl:=Option.some.inj (hg.symm.trans hq)
   exact⟨ob,by rw [hheap,Array.getElem?_push];simp,hob⟩
  ·simp only [Env.add,if_neg e] at hc
   obtain⟨ob',h1,h2⟩:=H.objs c j q hc hq hql
   exact⟨ob',by rw [hold _ (H.ub c j hc)];exact h1,h2.mono hle⟩
 ·intro c j hc
  rw [hheap,Array.size_push]
  by_cases e:c=b
  ·subst e;obtain rfl:=Option.some.inj (Env.add_at.symm.trans hc);simp
  ·simp only [Env.add,if_neg e] at hc;have:=H.ub c j hc;omega
 ·intro c hc
  obtain⟨h1,h2⟩:=H.dom c hc
  exact⟨h1,by simp only [Env.add];rw [if_neg (by omega)];exact h2⟩
 ·intro c c' j j' q q' hne hc hc' hq hq' hl1 hl2
  by_cases e:c=b
  ·subst e
   obtain rfl:=Option.some.inj (Env.add_at.symm.trans hc)
   simp only [Env.add,if_neg (Ne.symm hne)] at hc'
   have:=H.ub c' j' hc'
   simp only;omega
  ·simp only [Env.add,if_neg e] at hc
   by_cases e':c'=b
   ·subst e'
    obtain rfl:=Option.some.inj (Env.add_at.symm.trans hc')
    have:=H.ub c j hc
    simp only;omega
   ·simp only [Env.add,if_neg e'] at hc'
    exact H.inj c c' j j' q q' hne hc hc' hq hq' hl1 hl2
 ·intro c j q hc hq hqo
  by_cases e:c=b
  ·subst e;obtain rfl:=Option.some.inj (Env.add_at.symm.trans hc);exact H.size
  ·simp only [Env.add,if_neg e] at hc;exact H.own c j q hc hq hqo
 ·have:=H.size
  exact⟨hos.trans H.base.os,htape.trans H.base.tape,hout.trans H.base.output,by rw [hheap,Array.size_push];have:=H.base.size;omega,fun k hk=>by
   rw [hold k (by omega)];exact H.base.block k hk⟩
 ·rw [hheap,Array.size_push];have:=H.size;omega
theorem MR.lay (H:MR P N w0 E m w) (o:AObj):MR P N w0 E (newObjA m o) w:=by
 have hn:=(H.dom m.next (Nat.le_refl _)).2
 have key:∀ c i,E c=some i→c≠m.next:=fun c i hc e=>by subst e;rw [hn] at hc;simp at hc
 refine⟨?_,H.ub,?_,?_,?_,H.base,H.size⟩
 ·intro c i q hc hq hl;rw [get_newObjA,if_neg (key c i hc)] at hq;exact H.objs c i q hc hq hl
 ·intro c hc;rw [next_newObjA] at hc;rw [get_newObjA,if_neg (by omega)];exact H.dom c (by omega)
 ·intro c c' i i' q q' hne hc hc' hq hq'
  rw [get_newObjA,if_neg (key _ _ hc)] at hq
  rw [get_newObjA,if_neg (key _ _ hc')] at hq'
  exact H.inj c c' i i' q q' hne hc hc' hq hq'
 ·intro c i q hc hq;rw [get_newObjA,if_neg (key _ _ hc)] at hq;exact H.own c i q hc hq
theorem MExt.lay (H:MR P N w0 E m w) (o:AObj):MExt m.next E m E (newObjA m o) :=
 ⟨.refl E,fun c hc hn=>⟨hn,by rw [get_newObjA,if_neg (by omega)]⟩,by rw [next_newObjA];omega⟩
theorem MExt.mat {b hi:Nat} {i:Info} (hE:E b=none) (hb:hi≤b):MExt hi E m (E.add b i) m :=
 ⟨Env.add_le hE,fun c hc hn=>⟨by simp only [Env.add];rw [if_neg (by omega)];exact hn,rfl⟩,Nat.le_refl _⟩
theorem MR.same (H:MR P N w0 E m w) {w':World} (hh:w'.heap=w.heap) (hos:w'.os=w.os) (htape:w'.tape=w.tape) (hout:w'.output=w.output):MR P N w0 E m w' :=
 ⟨fun b i o h1 h2 h3=>by rw [hh];exact H.objs b i o h1 h2 h3,fun b i h=>by rw [hh];exact H.ub b i h,H.dom,H.inj,H.own,
  ⟨hos.trans H.base.os,htape.trans H.base.tape,hout.trans H.base.output,by rw [hh];exact H.base.size,fun k hk=>by rw [hh];exact H.base.block k hk⟩,by rw [hh];exact H.size⟩
end
end Go.Ev

