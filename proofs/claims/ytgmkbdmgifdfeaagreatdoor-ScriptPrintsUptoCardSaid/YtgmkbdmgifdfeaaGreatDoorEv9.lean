/- One step, and a whole call, met by the model. -/
import Derived.Test.YtgmkbdmgifdfeaaGreatDoorEv8
import Derived.Lib.Bytealg
import Derived.KernelRfl
set_option linter.unusedSimpArgs false
set_option linter.unusedVariables false
namespace Go.Ev
open Go.RowKit

section
variable {P : Program} {fn : FuncId} {tmps : Array Value} {k : List Item} {ds : List Deferred} {kind : CallKind} {ro : Option Nat} {c : Frame} {cs : List Frame} {w w' : World}
/-- how a frame is left -/
inductive Leaves : List Item → Option Code → Prop where
  | fin : Leaves [] none
  | ret (k : List Item) : Leaves (.code .ret :: k) (some .ret)
  | exit {id : Nat} {k : List Item} (h : exitTo id k = none) : Leaves (.code (.exit id) :: k) (some (.exit id))
  | goto {l : Nat} {k : List Item} (h : gotoIn l k = none) : Leaves (.code (.goto l) :: k) (some (.goto l))
theorem su_leave_round {l : Nat} {todo : List Item} {j : Option Code} {v : Value} (h : Leaves todo j) (hr : (Instr.endRound l j).run P w = .ok v w') :
    step P (lone (rf fn tmps ds .normal (some l) todo) (c :: cs) w) = .next (lone (c.finish v) cs w') := by
  refine step_lone_go ?_
  cases h with
  | fin => simp [stepG, stepG.exec, rf, Sem.runT_eq, hr, doReturn]
  | ret k => simp [stepG, stepG.exec, rf, Sem.runT_eq, hr, doReturn]
  | exit h => simp [stepG, stepG.exec, rf, Sem.runT_eq, hr, doReturn, h]
  | goto h => simp [stepG, stepG.exec, rf, Sem.runT_eq, hr, doReturn, h]
theorem su_leave_fn {todo : List Item} {j : Option Code} (h : Leaves todo j) (hj : j = none ∨ j = some .ret) :
    step P (lone (rf fn tmps ds kind none todo) cs w) = .next (lone { rf fn tmps ds kind none todo with mode := .returning } cs w) := by
  cases h with
  | fin => exact su_end
  | ret k => exact su_ret
  | exit h => rcases hj with hj | hj <;> simp at hj
  | goto h => rcases hj with hj | hj <;> simp at hj
end
section
variable {tb : Tabs} {N G : Nat} {w0 : World} {base : List Frame} {E : Env} {m : Mem} {lo hi : Nat} {cs : List AFrame} {fr' : Frame} {cs' : List Frame} {w : World} {am : AM} {m0 : Machine}
variable {fn : FuncId} {t : T Value} {nt : Nat} {ds : List Deferred} {kind : CallKind} {ro : Option Nat}
/-- back to the caller -/
theorem back_ok {c fr1 : AFrame} {c' : Frame} {rest : List AFrame} {rest' : List Frame} {lo1 : Nat} {m' : Mem} {E' : Env} {w' : World} {v v' : Value} (hc : FR tb E m lo1 lo G true c c') (hct : CsR tb E m G base lo1 rest rest') (hcl : lo1 ≤ lo) (hlo : lo ≤ m.next) (HG : GlobE G E)
    (HM : MR tb.p N w0 E' m' w') (hx : MExt lo E m E' m') (hv : VR E' v v') (hf : finishA tb c v m' = some fr1) (hst : Steps tb.p m0 (lone (c'.finish v') rest' w')) : StepOutM tb N G w0 base ⟨fr1, rest, m'⟩ m0 :=
  ⟨_, _, _, E', lo1, hst, ⟨HM, fun g hg => hx.le _ _ (HG g hg), (hc.wait hx).finish (Nat.le_trans hlo hx.next) hv hf, hct.ext (hx.lower hcl), Nat.le_trans hcl (Nat.le_trans hlo hx.next)⟩⟩
theorem leaveA_ok {k : List AItem} {tm : Array Value} {ds' : List Deferred} {ro' : Option Nat} {todo' : List Item} {j : Option Code} {k2 : List AItem}
    (S : StR tb N G w0 base ⟨⟨fn, t, nt, k, ds, .run, kind, ro⟩, cs, m⟩ (rf fn tm ds' kind ro' todo') cs' w E lo) (hs : TR E t nt tm) (hd : DefsR E ds ds') (hr : RoR E ro ro') (hki : kind = .normal ∨ kind = .deferred) (hf : (tb.p.funcs[fn]?).isSome = true)
    (hl : Leaves todo' j) (h : leaveA tb (frm fn t nt k2 ds kind ro) cs m j = some am) : StepOutM tb N G w0 base am (lone (rf fn tm ds' kind ro' todo') cs' w) := by
  unfold leaveA at h
  simp only [frm] at h
  cases hr with
  | none =>
    simp only at h
    have go : some (⟨setMode ⟨fn, t, nt, k2, ds, .run, kind, none⟩ .returning, cs, m⟩ : AM) = some am → (j = none ∨ j = some .ret) → StepOutM tb N G w0 base am (lone (rf fn tm ds' kind none todo') cs' w) := by
      intro h hj
      obtain rfl := Option.some.inj h
      exact ⟨_, _, _, E, lo, .one (su_leave_fn hl hj), ⟨S.mem, S.glob, .ret hf hs hd .none hki, S.callers, S.lo⟩⟩
    split at h
    · exact go h (.inl rfl)
    · split at h
      · exact go h (.inr rfl)
      · simp at h
  | @some l i hE =>
    simp only at h
    split at h <;> first | (simp at h; done) | skip
    rename_i st pe fnl tmps ntl ps a b dsl hol
    split at h <;> first | (simp at h; done) | skip
    split at h <;> first | (simp at h; done) | skip
    rename_i c rest
    obtain ⟨ob, hob, hR⟩ := S.mem.objs l i _ hE hol rfl
    cases hR with
    | @loop _ _ _ _ _ tml _ _ _ _ jd ht hEd =>
    have hC := S.callers
    cases hC with
    | @cons _ lo1 _ c' _ rest' hc hct hcl =>
    have fin : ∀ (st2 : LoopState) (j2 : Option Code) (q : Bool), (Instr.endRound i.blk j).run tb.p w = .ok (.bool q) { w with heap := w.heap.setIfInBounds i.blk (.loop { state := st2, pending := j2, fn := fnl, tmps := tml, params := ⟨ps⟩, assign := a, body := b, defers := jd.blk }) } →
        Go.Ev.am (finishA tb c (.bool q) (putObj m l (.loop st2 j2 fnl tmps ntl ps a b dsl))) rest (putObj m l (.loop st2 j2 fnl tmps ntl ps a b dsl)) = some am → StepOutM tb N G w0 base am (lone (rf fn tm ds' .normal (some i.blk) todo') (c' :: rest') w) := by
      intro st2 j2 q hrun h
      simp only [Go.Ev.am] at h
      split at h <;> first | (simp at h; done) | skip
      rename_i fr1 hf1
      obtain rfl := Option.some.inj h
      obtain ⟨p1, p2⟩ := putIter S.mem hE hol rfl (o2 := .loop st2 j2 fnl tmps ntl ps a b dsl) rfl hob (by simp) (ob2 := .loop { state := st2, pending := j2, fn := fnl, tmps := tml, params := ⟨ps⟩, assign := a, body := b, defers := jd.blk }) (.loop ht hEd)
      exact back_ok hc hct hcl S.lo S.glob p2 (MExt.put _ hE) (.bool q) hf1 (.one (su_leave_round hl hrun))
    have hget : (getObj i.blk).run tb.p w = .ok (.loop { state := st, pending := pe, fn := fnl, tmps := tml, params := ⟨ps⟩, assign := a, body := b, defers := jd.blk }) w := by simp [getObj, Sem.run, hob]
    split at h
    · refine fin .ready none true ?_ h
      simp [Instr.endRound, Instr.getLoop, Sem.run_bind, Sem.run, pure, setObj, getObj, hob, Result.andThen]
    · rename_i j2
      refine fin .done (some j2) false ?_ h
      simp [Instr.endRound, Instr.getLoop, Sem.run_bind, Sem.run, pure, setObj, getObj, hob, Result.andThen]
end
end Go.Ev
namespace Go.Ev
open Go.RowKit

section
variable {tb : Tabs} {N G : Nat} {w0 : World} {base : List Frame} {E : Env} {m : Mem} {lo hi : Nat} {cs : List AFrame} {fr' : Frame} {cs' : List Frame} {w : World} {am : AM} {m0 : Machine}
variable {fn : FuncId} {t : T Value} {nt : Nat} {ds : List Deferred} {kind : CallKind} {ro : Option Nat}
theorem resA_ok (ok : TabsOk tb) (HM : MR tb.p N w0 E m w) {tm : Array Value} (hs : TR E t nt tm) (f : ResultVar → Sem Value) (h1 : ∀ i, f (.tmp i) = pure (tm.getD i undef)) (h2 : ∀ a ty, f (.cell a ty) = do loadVar ty (← asAddr (tm.getD a undef))) :
    ∀ {l : List ResultVar} {vs : List Value}, resA tb t m l = some vs → ∃ vs', (l.mapM f).run tb.p w = .ok vs' w ∧ VRs E vs vs'
  | [], vs, h => by
    simp only [resA, Option.some.injEq] at h; subst h
    exact ⟨[], rfl, .nil⟩
  | .tmp i :: l, vs, h => by
    simp only [resA] at h
    obtain ⟨vs1, h3, h4⟩ := oB_some.1 h
    simp only [Option.some.injEq] at h4; subst h4
    obtain ⟨vs', a, b⟩ := resA_ok ok HM hs f h1 h2 h3
    refine ⟨tm.getD i undef :: vs', ?_, .cons (hs.2 i (by simp)) b⟩
    rw [List.mapM_cons]
    simp only [Sem.run_bind, h1, pure, Sem.run, Result.andThen_ok, a]
  | .cell r ty :: l, vs, h => by
    simp only [resA] at h
    split at h <;> first | (simp at h; done) | skip
    rename_i a ha
    obtain ⟨v, h3, h4⟩ := oB_some.1 h
    obtain ⟨vs1, h5, h6⟩ := oB_some.1 h4
    simp only [Option.some.injEq] at h6; subst h6
    obtain ⟨vs', q1, q2⟩ := resA_ok ok HM hs f h1 h2 h5
    have hp := hs.2 r (by simp)
    simp only [ev, ha] at hp
    generalize hq : tm.getD r undef = q at hp
    cases hp with
    | @ptr b o i hE =>
    obtain ⟨v', g1, g2⟩ := run_loadA ok HM hE h3
    refine ⟨v' :: vs', ?_, .cons g2 q2⟩
    rw [List.mapM_cons]
    simp only [Sem.run_bind, h2, hq, asAddr, pure, Sem.run, Result.andThen_ok, g1, q1]
theorem results_ok (ok : TabsOk tb) (HM : MR tb.p N w0 E m w) {tm : Array Value} (hs : TR E t nt tm) {fd : Func} {v : Value} (h : resultsA tb fd t m = some v) : ∃ v', (results fd tm).run tb.p w = .ok v' w ∧ VR E v v' := by
  have key : ∀ vs, resA tb t m fd.results.toList = some vs → ∃ vs', (results fd tm).run tb.p w = .ok (if h : (⟨vs'⟩ : Array Value).size = 1 then (⟨vs'⟩ : Array Value)[0] else .tuple ⟨vs'⟩) w ∧ VRs E vs vs' := by
    intro vs hvs
    obtain ⟨vs', a, b⟩ := resA_ok ok HM hs (fun | .tmp t => pure (tm.getD t undef) | .cell a t => do loadVar t (← asAddr (tm.getD a undef))) (fun _ => rfl) (fun _ _ => rfl) hvs
    refine ⟨vs', ?_, b⟩
    unfold results
    rw [Array.mapM_eq_mapM_toList]
    simp only [Sem.run_bind, map_eq_pure_bind, pure, Sem.run]
    erw [a]
    rfl
  unfold resultsA at h
  split at h <;> first | (simp at h; done) | skip
  · rename_i v0 hv
    simp only [Option.some.injEq] at h; subst h
    obtain ⟨vs', a, b⟩ := key _ hv
    cases b with
    | cons h t => cases t; exact ⟨_, a, h⟩
  · rename_i vs hne hv
    simp only [Option.some.injEq] at h; subst h
    obtain ⟨vs', a, b⟩ := key _ hv
    have hl : ¬ (⟨vs'⟩ : Array Value).size = 1 := by
      intro e
      have e1 : vs.length = 1 := by rw [b.length]; simpa using e
      obtain ⟨x, rfl⟩ := List.length_eq_one_iff.1 e1
      exact hne x rfl
    rw [dif_neg hl] at a
    exact ⟨_, a, .tuple b⟩
theorem returnA_ok (ok : TabsOk tb) {k : List AItem} (S : StR tb N G w0 base ⟨⟨fn, t, nt, k, [], .returning, kind, ro⟩, cs, m⟩ fr' cs' w E lo) (h : returnA tb fn t kind cs m = some am) : StepOutM tb N G w0 base am (lone fr' cs' w) := by
  have hT := S.top
  cases hT with
  | @ret _ _ _ _ _ _ _ tm k' ds' ro' hf hs hd hr hk =>
  cases hd
  unfold returnA at h
  split at h <;> first | (simp at h; done) | skip
  rename_i c rest
  split at h <;> first | (simp at h; done) | skip
  rename_i fd hfd
  split at h <;> first | (simp at h; done) | skip
  rename_i v hv
  have hfd' := ok.funcs fn fd hfd
  obtain ⟨v', hrun, hvr⟩ := results_ok ok S.mem hs hv
  have hC := S.callers
  cases hC with
  | @cons _ lo1 _ c' _ rest' hc hct hcl =>
  split at h <;> first | (simp at h; done) | skip
  · simp only [Go.Ev.am] at h
    split at h <;> first | (simp at h; done) | skip
    rename_i fr1 hf1
    obtain rfl := Option.some.inj h
    refine back_ok hc hct hcl S.lo S.glob S.mem (.refl _ _ _) hvr hf1 (.one (step_lone_go ?_))
    simp [stepG, unwind, doReturn, hfd', Sem.runT_eq, hrun]
  · have back : ∀ {c1 : AFrame} {c1' : Frame}, FR tb E m lo1 m.next G false c1 c1' → some (⟨c1, rest, m⟩ : AM) = some am →
        step tb.p (lone { fn, tmps := tm, todo := k', defers := [], mode := .returning, kind := .deferred, roundOf := ro' } (c' :: rest') w) = .next (lone c1' rest' w) →
        StepOutM tb N G w0 base am (lone { fn, tmps := tm, todo := k', defers := [], mode := .returning, kind := .deferred, roundOf := ro' } (c' :: rest') w) := by
      intro c1 c1' hF h hst
      obtain rfl := Option.some.inj h
      exact ⟨_, _, _, E, lo1, .one hst, ⟨S.mem, S.glob, hF, hct, Nat.le_trans hcl S.lo⟩⟩
    split at h
    · rename_i p older hmode
      cases hc with
      | run => simp at hmode
      | ret => simp at hmode
      | @pan fnc tc ntc kc dsc kindc roc tmc kc' dsc' roc' ch ch' X hfc hsc hX hp hdc hrc hk2 =>
      simp only [FrameMode.panicking.injEq] at hmode
      subst hmode
      cases hp with
      | @cons _ p' _ older' hv e1 e2 hold =>
      obtain ⟨pv, pr, pg⟩ := p
      obtain ⟨pv', pr', pg'⟩ := p'
      simp only at hv e1 e2 h
      subst e1; subst e2
      split at h
      · split at h <;> first | (simp at h; done) | skip
        cases hold
        split at h <;> first | (simp at h; done) | skip
        rename_i hdr
        have hX' : ∀ x, ¬ X x := by
          rcases hX with e | e
          · exact absurd (hdr.symm.trans e) (by simp)
          · exact e
        refine back (.ret (k' := kc') hfc ⟨hsc.1, fun x _ => hsc.2 x (hX' x)⟩ hdc hrc hk2) h (step_lone_go ?_)
        simp [stepG, unwind, doReturn, hfd', Sem.runT_eq, hrun]
      · refine back (.pan (k' := kc') hfc hsc hX (PeR.cons (p := { v := pv, recovered := false, goexit := pg }) (p' := { v := pv', recovered := false, goexit := pg }) hv rfl rfl hold) hdc hrc hk2) h (step_lone_go ?_)
        simp [stepG, unwind, doReturn, hfd', Sem.runT_eq, hrun]
    · simp at h
    · rename_i hmode
      cases hc with
      | run => simp at hmode
      | pan => simp at hmode
      | @ret fnc tc ntc kc dsc kindc roc tmc kc' dsc' roc' hfc hsc hdc hrc hk2 =>
      refine back (.ret (k' := kc') hfc hsc hdc hrc hk2) h (step_lone_go ?_)
      simp [stepG, unwind, doReturn, hfd', Sem.runT_eq, hrun]
    · simp at h
theorem unwindA_ok (pk : ProgOk tb N G w0) {k : List AItem} {mode : FrameMode} (S : StR tb N G w0 base ⟨⟨fn, t, nt, k, ds, mode, kind, ro⟩, cs, m⟩ fr' cs' w E lo) (hm : mode ≠ .run) (h : unwindA tb ⟨fn, t, nt, k, ds, mode, kind, ro⟩ cs m = some am) : StepOutM tb N G w0 base am (lone fr' cs' w) := by
  unfold unwindA at h
  -- the frame, its deferred calls another list
  have parts : ∃ tm k' ds' mode' ro', fr' = { fn, tmps := tm, todo := k', defers := ds', mode := mode', kind, roundOf := ro' } ∧ DefsR E ds ds' ∧ mode' ≠ .run ∧
      ∀ {ds2 : List Deferred} {ds2' : List Deferred} {E2 : Env} {m2 : Mem} {lo2 hi2 : Nat} {wait : Bool}, Env.le E E2 → DefsR E2 ds2 ds2' → FR tb E2 m2 lo2 hi2 G wait ⟨fn, t, nt, k, ds2, mode, kind, ro⟩ { fn, tmps := tm, todo := k', defers := ds2', mode := mode', kind, roundOf := ro' } := by
    have hT := S.top
    cases hT with
    | run => exact absurd rfl hm
    | ret hf hs hd hr hk => exact ⟨_, _, _, _, _, rfl, hd, by simp, fun hle h => .ret hf (hs.mono hle) h (hr.mono hle) hk⟩
    | pan hf hs hX hp hd hr hk => exact ⟨_, _, _, _, _, rfl, hd, by simp, fun hle h => .pan hf (hs.mono hle) hX (hp.mono hle) h (hr.mono hle) hk⟩
  obtain ⟨tm, k', ds', mode', ro', rfl, hd, hm', hF⟩ := parts
  cases ds with
  | cons d ds =>
    simp only at h
    cases hd with
    | cons hd hds =>
    rename_i d' ds'
    cases hd with
    | @coll b i hE =>
      simp only at h
      split at h <;> first | (simp at h; done) | skip
      rename_i calls hb
      obtain rfl := Option.some.inj h
      obtain ⟨ob, hob, hR⟩ := S.mem.objs b i _ hE hb rfl
      cases hR with
      | @dfr _ calls' hcs =>
      obtain ⟨p1, p2⟩ := putIter S.mem hE hb rfl (o2 := .dfr none) rfl hob (by simp) (ob2 := .deferred none) .dfr0
      have hrun : (Instr.takeDeferred i.blk).run tb.p w = .ok calls' { w with heap := w.heap.setIfInBounds i.blk (.deferred none) } := by
        simp [Instr.takeDeferred, Sem.run_bind, Sem.run, pure, setObj, getObj, hob, Result.andThen]
      have hx : ∀ hi, MExt hi E m E (putObj m b (.dfr none)) := fun hi => MExt.put _ hE
      refine ⟨_, _, _, E, lo, .one (step_lone_go ?_), ⟨p2, S.glob, hF (.refl _) (hcs.append hds), S.callers.ext (hx _), S.lo⟩⟩
      cases mode' with
      | run => exact absurd rfl hm'
      | _ => simp [stepG, unwind, Sem.runT_eq, hrun]
    | @fn fv fv' c c' a a' hv ha =>
      simp only at h
      have hn := invokeA_ok pk S.mem S.glob hv ha
      split at h <;> first | (simp at h; done) | skip
      rename_i f args hi
      rw [hi] at hn
      split at h <;> first | (simp at h; done) | skip
      rename_i g hg
      obtain rfl := Option.some.inj h
      obtain ⟨args', h1, h2⟩ := hn
      have hg0 := hg
      unfold enterF at hg0
      split at hg0 <;> first | (simp at hg0; done) | skip
      rename_i fnd hfd
      split at hg0 <;> first | (simp at hg0; done) | skip
      rename_i cd hb
      have hrun := h1 fnd cd hfd hb
      refine ⟨_, _, _, E, m.next, .one (step_lone_go ?_), ⟨S.mem, S.glob, FR.enter pk hg h2 (.inr rfl), .cons (hF (.refl _) hds) S.callers S.lo, Nat.le_refl _⟩⟩
      cases mode' with
      | run => exact absurd rfl hm'
      | _ => simp [stepG, unwind, callDeferred, Sem.runT_eq, hrun]
  | nil =>
    cases hd
    simp only at h
    cases mode with
    | run => exact absurd rfl hm
    | returning => exact returnA_ok pk.tabs S h
    | panicking chain =>
      simp only at h
      split at h <;> first | (simp at h; done) | skip
      rename_i c rest
      obtain rfl := Option.some.inj h
      have hT := S.top
      have hC := S.callers
      cases hC with
      | @cons _ lo1 _ c' _ rest' hc hct hcl =>
      cases hT with
      | pan hf hs hX hp hd hr hk =>
      refine ⟨_, _, _, E, lo1, .one (step_lone_go ?_), ⟨S.mem, S.glob, hc.raise hp, hct, Nat.le_trans hcl S.lo⟩⟩
      obtain ⟨fd, hfd⟩ := Option.isSome_iff_exists.1 hf
      simp [stepG, unwind, Frame.catches, hfd]
end
end Go.Ev
namespace Go.Ev
open Go.RowKit

section
variable {tb : Tabs} {N G : Nat} {w0 : World} {base : List Frame} {E : Env} {m : Mem} {lo hi : Nat} {cs : List AFrame} {fr' : Frame} {cs' : List Frame} {w : World} {am : AM} {m0 : Machine}
variable {fn : FuncId} {t : T Value} {nt : Nat} {ds : List Deferred} {kind : CallKind} {ro : Option Nat} {k : List AItem}
theorem beginA_ok {l : Nat} (S : StR tb N G w0 base ⟨⟨fn, t, nt, .beginRound :: k, ds, .run, kind, some l⟩, cs, m⟩ fr' cs' w E lo) (h : beginA l k fn t nt ds kind cs m = some am) : StepOutM tb N G w0 base am (lone fr' cs' w) := by
  obtain ⟨tm, k', ds', ro', X, rfl, ht, hs, hd, hr, hki, hf⟩ := S.top.run_inv
  obtain ⟨x', k1, rfl, hx, hk, rfl⟩ := ht.item_inv (by simp) (by simp)
  cases hx
  cases hr with
  | @some _ i hE =>
  unfold beginA at h
  split at h <;> first | (simp at h; done) | skip
  rename_i pe f tl n ps a b d hl
  obtain rfl := Option.some.inj h
  obtain ⟨ob, hob, hR⟩ := S.mem.objs l i _ hE hl rfl
  cases hR with
  | @loop _ _ _ _ _ tml _ _ _ _ jd htl hEd =>
  obtain ⟨p1, p2⟩ := putIter S.mem hE hl rfl (o2 := .loop .busy pe f tl n ps a b d) rfl hob (by simp) (ob2 := .loop { state := .busy, pending := pe, fn := f, tmps := tml, params := ⟨ps⟩, assign := a, body := b, defers := jd.blk }) (.loop htl hEd)
  have hx : ∀ hi, MExt hi E m E (putObj m l (.loop .busy pe f tl n ps a b d)) := fun hi => MExt.put _ hE
  have hrun : (Instr.beginRound i.blk).run tb.p w = .ok () { w with heap := w.heap.setIfInBounds i.blk (.loop { state := .busy, pending := pe, fn := f, tmps := tml, params := ⟨ps⟩, assign := a, body := b, defers := jd.blk }) } := by
    simp [Instr.beginRound, Instr.getLoop, Sem.run_bind, Sem.run, pure, setObj, getObj, hob, Result.andThen]
  refine ⟨_, _, _, E, lo, .one (step_lone_go (fr' := rf fn tm ds' kind (some i.blk) k1) ?_), ⟨p2, S.glob, FR.plain hk hs hd (.some hE) hki hf, S.callers.ext (hx _), S.lo⟩⟩
  simp [stepG, stepG.exec, rf, stepG.apply, Sem.runT_eq, Sem.run_bind, hrun, pure, Sem.run, Result.andThen, Frame.finish]
theorem endA_ok (pk : ProgOk tb N G w0) {l : Nat} (S : StR tb N G w0 base ⟨⟨fn, t, nt, .endRangeFunc l :: k, ds, .run, kind, ro⟩, cs, m⟩ fr' cs' w E lo) (h : endA tb l k fn t nt ds kind ro cs m = some am) : StepOutM tb N G w0 base am (lone fr' cs' w) := by
  obtain ⟨tm, k', ds', ro', X, rfl, ht, hs, hd, hr, hki, hf⟩ := S.top.run_inv
  obtain ⟨x', k1, rfl, hx, hk, rfl⟩ := ht.item_inv (by simp) (by simp)
  cases hx with
  | @endRangeFunc _ i hE =>
  unfold endA at h
  split at h <;> first | (simp at h; done) | skip
  rename_i st pe f tl n ps a b d hl
  obtain ⟨ob, hob, hR⟩ := S.mem.objs l i _ hE hl rfl
  cases hR with
  | @loop _ _ _ _ _ tml _ _ _ _ jd htl hEd =>
  have go : ∀ (k2 : List AItem) (k2' : List Item), st ≠ .busy → ItsR E G k2 k2' → mkA fn t nt ds kind ro cs (putObj m l (.loop .exhausted pe f tl n ps a b d)) k2 = some am → (pe.map Item.code).toList ++ k1 = k2' → StepOutM tb N G w0 base am (lone (rf fn tm ds' kind ro' (.endRangeFunc i.blk :: k1)) cs' w) := by
    intro k2 k2' hst hk2 h he
    obtain rfl := Option.some.inj h
    obtain ⟨p1, p2⟩ := putIter S.mem hE hl rfl (o2 := .loop .exhausted pe f tl n ps a b d) rfl hob (by simp) (ob2 := .loop { state := .exhausted, pending := pe, fn := f, tmps := tml, params := ⟨ps⟩, assign := a, body := b, defers := jd.blk }) (.loop htl hEd)
    have hx : ∀ hi, MExt hi E m E (putObj m l (.loop .exhausted pe f tl n ps a b d)) := fun hi => MExt.put _ hE
    have hrun : (Instr.endLoop i.blk).run tb.p w = .ok pe { w with heap := w.heap.setIfInBounds i.blk (.loop { state := .exhausted, pending := pe, fn := f, tmps := tml, params := ⟨ps⟩, assign := a, body := b, defers := jd.blk }) } := by
      have : (st == LoopState.busy) = false := by cases st <;> first | rfl | exact absurd rfl hst
      simp [Instr.endLoop, Instr.getLoop, Sem.run_bind, Sem.run, pure, setObj, getObj, hob, Result.andThen, this, hst]
    refine ⟨_, _, _, E, lo, .one (step_lone_go (fr' := rf fn tm ds' kind ro' k2') ?_), ⟨p2, S.glob, FR.plain hk2 hs hd hr hki hf, S.callers.ext (hx _), S.lo⟩⟩
    rw [← he]
    simp [stepG, stepG.exec, rf, Sem.runT_eq, hrun]
  split at h <;> first | (simp at h; done) | skip
  rename_i hst
  split at h
  · rename_i c
    split at h <;> first | (simp at h; done) | skip
    rename_i hc
    rw [pk.g] at hc
    exact go _ _ (fun e => hst e) (.cons (.code hc) hk) h rfl
  · exact go _ _ (fun e => hst e) hk h rfl
theorem rangeFuncA_ok (pk : ProgOk tb N G w0) {f : Operand} {ps : Array Tmp} {a b : Code} (S : StR tb N G w0 base ⟨⟨fn, t, nt, .code (.rangeFunc f ps a b) :: k, ds, .run, kind, ro⟩, cs, m⟩ fr' cs' w E lo) (h : rangeFuncA tb (ev t f) ps.toList a b k fn t nt ds kind ro cs m = some am) : StepOutM tb N G w0 base am (lone fr' cs' w) := by
  obtain ⟨tm, k', ds', ro', X, rfl, ht, hs, hd, hr, hki, hf⟩ := S.top.run_inv
  obtain ⟨x', k1, rfl, hx, hk, rfl⟩ := ht.item_inv (by simp) (by simp)
  cases hx with
  | code hc =>
  simp only [codeOk, Bool.and_eq_true] at hc
  -- the model's frame while it waits
  have main : ∀ (l : Nat) (bl : Nat) (m1 : Mem) (w1 : World) (E1 : Env) (ds1 : List Deferred) (mark : List Deferred), MR tb.p N w0 E1 m1 w1 → MExt m.next E m E1 m1 → (∃ i, E1 l = some i ∧ i.blk = bl) → DefsR E1 ds1 (mark ++ ds') →
      (Instr.enterLoop fn tm ps a b ro').run tb.p w = .ok (bl, mark) w1 → goA tb (callValue tb (ev t f) [.func (.yield l) #[] #[]] m1) (frm fn t nt (.inRangeFunc l :: k) ds1 kind ro) cs m1 = some am →
      StepOutM tb N G w0 base am (lone (rf fn tm ds' kind ro' (.code (.rangeFunc f ps a b) :: k1)) cs' w) := by
    rintro l bl m1 w1 E1 ds1 mark HM hx ⟨i, hE, rfl⟩ hd1 hrun h
    have hG1 : GlobE G E1 := fun g hg => hx.le _ _ (S.glob g hg)
    have hs1 : TR E1 t nt tm := hs.mono hx.le
    have S1 : StR tb N G w0 base ⟨frm fn t nt (.inRangeFunc l :: k) ds1 kind ro, cs, m1⟩ (rf fn tm (mark ++ ds') kind ro' (.inRangeFunc i.blk :: k1)) cs' w1 E1 lo :=
      ⟨HM, hG1, FR.plain (.cons (.inRangeFunc hE) (hk.mono hx.le)) hs1 hd1 (hr.mono hx.le) hki hf, S.callers.ext (hx.lower S.lo), Nat.le_trans S.lo hx.next⟩
    have hfv : VR E1 (ev t f) ((rf fn tm (mark ++ ds') kind ro' (.inRangeFunc i.blk :: k1)).eval f) := operand_rel hG1 hs1 hc.1.1 (by simp)
    have hn := callValue_ok pk HM hG1 hfv (a := [.func (.yield l) #[] #[]]) (a' := [.func (.yield i.blk) #[] #[]]) (.cons (.yield hE) .nil)
    have hn2 : NextR tb N G w0 E1 m1 w1 (do let d ← resolve (rf fn tm (mark ++ ds') kind ro' (.inRangeFunc i.blk :: k1)).eval { callee := .value f, args := #[.const (.func (.yield i.blk) #[] #[])], argTypes := #[] } 0; invoke d.target d.args) (callValue tb (ev t f) [.func (.yield l) #[] #[]] m1) := by
      refine NextR.congr ?_ hn
      have he : (#[Operand.const (.func (.yield i.blk) #[] #[])] : Array Operand).map (rf fn tm (mark ++ ds') kind ro' (.inRangeFunc i.blk :: k1)).eval = ⟨[.func (.yield i.blk) #[] #[]]⟩ := Array.ext' (by simp [Frame.eval])
      simp only [resolve, he]
    refine goA_ok pk S1 (by simp [frm]) hn2 ?_ (by simp [rf]) h
    intro fr2 cs2 w2 hb
    refine step_lone_go ?_
    rw [← hb]
    simp only [stepG, stepG.exec, rf, Sem.runT_eq, hrun, GStep.bare_after]
  unfold rangeFuncA at h
  have HM : MR tb.p N w0 E m w := S.mem
  cases hr with
  | none =>
    simp only at h
    have d0 := HM.dom m.next (Nat.le_refl _)
    have HM0 : MR tb.p N w0 (E.add m.next ⟨w.heap.size, 0, 0⟩) (newObjA m (.dfr (some []))) { w with heap := w.heap.push (.deferred (some [])) } :=
      (HM.lay (.dfr (some []))).mat (w' := { w with heap := w.heap.push (.deferred (some [])) }) (ob := .deferred (some [])) (sh := 0) (ex := 0) d0.2 (by rw [get_newObjA, if_pos rfl]) (by rw [next_newObjA]; omega) rfl rfl rfl rfl rfl (.dfr .nil)
    have hx0 : MExt m.next E m (E.add m.next ⟨w.heap.size, 0, 0⟩) (newObjA m (.dfr (some []))) := (MExt.lay HM _).trans (MExt.mat d0.2 (Nat.le_refl _))
    have d1 := HM0.dom (m.next + 1) (by rw [next_newObjA]; omega)
    have e0 : (E.add m.next ⟨w.heap.size, 0, 0⟩) m.next = some ⟨w.heap.size, 0, 0⟩ := Env.add_at
    have hle1 : Env.le (E.add m.next ⟨w.heap.size, 0, 0⟩) ((E.add m.next ⟨w.heap.size, 0, 0⟩).add (m.next + 1) ⟨w.heap.size + 1, 0, 0⟩) := Env.add_le d1.2
    have HM1 : MR tb.p N w0 ((E.add m.next ⟨w.heap.size, 0, 0⟩).add (m.next + 1) ⟨w.heap.size + 1, 0, 0⟩) (newObjA (newObjA m (.dfr (some []))) (.loop .ready none fn t nt ps.toList a b m.next))
        { w with heap := (w.heap.push (.deferred (some []))).push (.loop { state := .ready, pending := none, fn, tmps := tm, params := ps, assign := a, body := b, defers := w.heap.size }) } := by
      have := (HM0.lay (.loop .ready none fn t nt ps.toList a b m.next)).mat (b := m.next + 1) d1.2 (o := .loop .ready none fn t nt ps.toList a b m.next) (ob := .loop { state := .ready, pending := none, fn, tmps := tm, params := ps, assign := a, body := b, defers := w.heap.size })
        (w' := { w with heap := (w.heap.push (.deferred (some []))).push (.loop { state := .ready, pending := none, fn, tmps := tm, params := ps, assign := a, body := b, defers := w.heap.size }) }) (sh := 0) (ex := 0)
        (by rw [get_newObjA, if_pos (by rw [next_newObjA])]) (by rw [next_newObjA, next_newObjA]; omega) rfl rfl rfl rfl rfl (by
          have : (⟨ps.toList⟩ : Array Tmp) = ps := rfl
          simp only [Array.size_push]
          exact .loop (j := ⟨w.heap.size, 0, 0⟩) (hs.mono (hx0.le.trans hle1)) (hle1 _ _ e0))
      simpa using this
    have hx1 : MExt m.next E m _ _ := hx0.trans (((MExt.lay HM0 (.loop .ready none fn t nt ps.toList a b m.next)).lower (by rw [next_newObjA]; omega)).trans (MExt.mat (i := ⟨w.heap.size + 1, 0, 0⟩) d1.2 (by omega)))
    refine main (m.next + 1) (w.heap.size + 1) _ _ _ _ [{ target := .collected w.heap.size, args := #[] }] HM1 hx1 ⟨_, Env.add_at, rfl⟩ (.cons (.coll (i := ⟨w.heap.size, 0, 0⟩) (hle1 _ _ e0)) (hd.mono hx1.le)) ?_ h
    simp [Instr.enterLoop, newObj, Sem.run_bind, Sem.run, pure, Result.andThen]
    exact ⟨rfl, rfl, rfl⟩
  | @some l i hE =>
    simp only at h
    split at h <;> first | (simp at h; done) | skip
    rename_i st pe f2 tl n ps2 a2 b2 d hl
    obtain ⟨ob, hob, hR⟩ := HM.objs l i _ hE hl rfl
    cases hR with
    | @loop _ _ _ _ _ tml _ _ _ _ jd htl hEd =>
    have d0 := HM.dom m.next (Nat.le_refl _)
    have hle0 : Env.le E (E.add m.next ⟨w.heap.size, 0, 0⟩) := Env.add_le d0.2
    have HM0 : MR tb.p N w0 (E.add m.next ⟨w.heap.size, 0, 0⟩) (newObjA m (.loop .ready none fn t nt ps.toList a b d)) { w with heap := w.heap.push (.loop { state := .ready, pending := none, fn, tmps := tm, params := ps, assign := a, body := b, defers := jd.blk }) } :=
      (HM.lay (.loop .ready none fn t nt ps.toList a b d)).mat (w' := { w with heap := w.heap.push (.loop { state := .ready, pending := none, fn, tmps := tm, params := ps, assign := a, body := b, defers := jd.blk }) }) (ob := .loop { state := .ready, pending := none, fn, tmps := tm, params := ps, assign := a, body := b, defers := jd.blk }) (sh := 0) (ex := 0) d0.2 (by rw [get_newObjA, if_pos rfl]) (by rw [next_newObjA]; omega) rfl rfl rfl rfl rfl (.loop (hs.mono hle0) (hle0 _ _ hEd))
    have hx0 : MExt m.next E m (E.add m.next ⟨w.heap.size, 0, 0⟩) (newObjA m (.loop .ready none fn t nt ps.toList a b d)) := (MExt.lay HM _).trans (MExt.mat d0.2 (Nat.le_refl _))
    refine main m.next w.heap.size _ _ _ _ [] HM0 hx0 ⟨_, Env.add_at, rfl⟩ (hd.mono hx0.le) ?_ h
    simp [Instr.enterLoop, Instr.getLoop, getObj, hob, newObj, Sem.run_bind, Sem.run, pure, Result.andThen]
end
end Go.Ev
namespace Go.Ev
open Go.RowKit

section
variable {tb : Tabs} {N G : Nat} {w0 : World} {base : List Frame} {E : Env} {m : Mem} {lo hi : Nat} {cs : List AFrame} {fr' : Frame} {cs' : List Frame} {w : World} {am : AM}
variable {fn : FuncId} {t : T Value} {nt : Nat} {ds : List Deferred} {kind : CallKind} {ro : Option Nat} {k : List AItem}
theorem range'_cons {n s : Nat} (h : n < s) : List.range' n (s - n) = n :: List.range' (n + 1) (s - (n + 1)) := by
  obtain ⟨q, hq⟩ : ∃ q, s - n = q + 1 := ⟨s - n - 1, by omega⟩
  rw [hq, List.range'_succ, show s - (n + 1) = q from by omega]
theorem itemA_ok (pk : ProgOk tb N G w0) {i : AItem} (S : StR tb N G w0 base ⟨⟨fn, t, nt, i :: k, ds, .run, kind, ro⟩, cs, m⟩ fr' cs' w E lo) (h : itemA tb i k fn t nt ds kind ro cs m = some am) : StepOutM tb N G w0 base am (lone fr' cs' w) := by
  cases i with
  | inBlock id => exact plainItem_ok S h (.inl ⟨_, rfl⟩)
  | inScope b => exact plainItem_ok S h (.inr (.inl ⟨_, rfl⟩))
  | inLoop b => exact plainItem_ok S h (.inr (.inr ⟨_, rfl⟩))
  | inRangeFunc l => simp [itemA] at h
  | beginRound =>
    simp only [itemA] at h
    split at h
    · exact beginA_ok S h
    · simp at h
  | endRangeFunc l => exact endA_ok pk S h
  | code c =>
    refine codeA_ok S h (fun j hj hc => ?_) (fun f ps a b e => ?_)
    · obtain ⟨tm, k', ds', ro', X, rfl, ht, hs, hd, hr, hki, hf⟩ := S.top.run_inv
      obtain ⟨x', k1, rfl, hx, hk, rfl⟩ := ht.item_inv (by simp) (by simp)
      cases hx
      refine leaveA_ok S hs hd hr hki hf ?_ hj
      rcases hc with ⟨rfl, rfl⟩ | ⟨id, rfl, rfl, he⟩ | ⟨l, rfl, rfl, he⟩
      · exact .ret _
      · exact .exit ((exitTo_rel (id := id) hk).2 he)
      · exact .goto ((gotoIn_rel (l := l) hk).2 he)
    · subst e
      exact rangeFuncA_ok pk S h
  | ops ops l =>
    refine opsItem_ok pk.tabs S h fun o l1 t1 m1 fr2 w2 E2 S2 hw hcall => ?_
    obtain ⟨tm, k', ds', ro', X, rfl, ht, hs, hd, hr, hki, hf⟩ := S2.top.run_inv
    obtain ⟨n, k1, rfl, hl, hk, hok, rfl⟩ := ht.ops_inv
    obtain ⟨h1, h2, h3⟩ := drop_cons hl
    have hlt : n < ops.size := by simpa using h3
    exact doCall_ok pk S2 (HeadR.of S2.glob hs rfl (by rw [rf, range'_cons hlt]) h1 hok (fun _ _ h => h) hw) (by simp [frm]) hcall
  | dr ops rem hist mask =>
    refine drItem_ok pk.tabs S h fun i o l hist1 mask1 rest k1 tm ds' ro' t1 m1 w2 E2 S2 ho hdep hw hwr => ?_
    obtain ⟨tm2, k', ds2, ro2, X, e, ht, hs, hd, hr, hki, hf⟩ := S2.top.run_inv
    simp only [rf, Frame.mk.injEq, true_and, and_true] at e
    obtain ⟨rfl, rfl, rfl, rfl⟩ := e
    obtain ⟨sched, k2, e2, hdr, hk, hok, rfl⟩ := ht.dr_inv
    simp only [List.cons.injEq, Item.inRegion.injEq, true_and] at e2
    obtain ⟨rfl, rfl⟩ := e2
    have hhd : ∀ ops' rem' hist' mask' sched' k3 k3', (frm fn t1 nt (.dr ops ((i, o) :: l) hist1 mask1 :: k) ds kind ro).todo = .dr ops' rem' hist' mask' :: k3 → (rf fn tm ds' kind ro' (.inRegion ops (i :: rest) :: k1)).todo = .inRegion ops' sched' :: k3' → ∃ i o l rest, rem' = (i, o) :: l ∧ sched' = i :: rest := by
      intro ops' rem' hist' mask' sched' k3 k3' g1 g2
      simp only [frm, List.cons.injEq, AItem.dr.injEq] at g1
      simp only [rf, List.cons.injEq, Item.inRegion.injEq] at g2
      obtain ⟨⟨_, rfl, _⟩, _⟩ := g1
      obtain ⟨⟨_, rfl⟩, _⟩ := g2
      exact ⟨_, _, _, _, rfl, rfl⟩
    have HH := HeadR.of (tb := tb) (nt := nt) (fr' := rf fn tm ds' kind ro' (.inRegion ops (i :: rest) :: k1)) (rest := rest) (k1 := k1) S2.glob hs rfl rfl ho hok (hdr.reads_done ho hdep) hw
    unfold drWrite at hwr
    simp only at hwr
    split at hwr <;> first | (simp at hwr; done) | skip
    split at hwr <;> first | (simp at hwr; done) | skip
    · rename_i v m' he
      simp only [Go.Ev.am] at hwr
      split at hwr <;> first | (simp at hwr; done) | skip
      rename_i fr1 hf1
      obtain rfl := Option.some.inj hwr
      exact write_ok pk.tabs S2 HH hhd he hf1
    · exact doCall_ok pk S2 HH hhd hwr
theorem stepA_ok (pk : ProgOk tb N G w0) {a : AM} (S : StR tb N G w0 base a fr' cs' w E lo) (h : stepA tb a = some am) : StepOutM tb N G w0 base am (lone fr' cs' w) := by
  obtain ⟨⟨fn, t, nt, todo, ds, mode, kind, ro⟩, cs, m⟩ := a
  unfold stepA stepFr at h
  cases mode with
  | run =>
    simp only [runFrame] at h
    cases todo with
    | nil =>
      obtain ⟨tm, k', ds', ro', X, rfl, ht, hs, hd, hr, hki, hf⟩ := S.top.run_inv
      cases ht with
      | plain hk =>
      cases hk
      exact leaveA_ok S hs hd hr hki hf .fin h
    | cons i k => exact itemA_ok pk S h
  | returning => exact unwindA_ok pk S (by simp) h
  | panicking chain => exact unwindA_ok pk S (by simp) h
/-- as many steps as you like -/
theorem runA_ok (pk : ProgOk tb N G w0) : ∀ (n : Nat) {a : AM} {fr' : Frame} {cs' : List Frame} {w : World} {E : Env} {lo : Nat}, StR tb N G w0 base a fr' cs' w E lo → runA tb n a = some am → StepOutM tb N G w0 base am (lone fr' cs' w)
  | 0, a, fr', cs', w, E, lo, S, h => by
    obtain rfl := Option.some.inj h
    exact ⟨_, _, _, _, _, .refl _ _, S⟩
  | n + 1, a, fr', cs', w, E, lo, S, h => by
    have h' : (match doneA a with | true => some a | false => match stepA tb a with | some b => runA tb n b | none => none) = some am := h
    split at h'
    · obtain rfl := Option.some.inj h'
      exact ⟨_, _, _, _, _, .refl _ _, S⟩
    · split at h' <;> first | (simp at h'; done) | skip
      rename_i b hb
      obtain ⟨fr2, cs2, w2, E2, lo2, h1, S2⟩ := stepA_ok pk S hb
      obtain ⟨fr3, cs3, w3, E3, lo3, h3, S3⟩ := runA_ok pk n S2 h'
      exact ⟨fr3, cs3, w3, E3, lo3, h1.trans h3, S3⟩
end
end Go.Ev
namespace Go.Ev
open Go.RowKit

/-- the package-level variables -/
def Env.globs (G : Nat) : Env := fun b => if b < G then some ⟨b, 0, 0⟩ else none
theorem globs_ok (G : Nat) : GlobE G (Env.globs G) := fun g hg => by simp [Env.globs, hg]

section
variable (tb : Tabs)
noncomputable def finalA (f : FuncId) (am : AM) : Option (Value × Mem) :=
  match am with
  | ⟨⟨fn, t, _, _, ds, mode, kind, _⟩, cs, m⟩ => match cs, ds, mode, kind with
    | [], [], .returning, .normal => match Nat.beq fn f with
      | true => match tb.funcs.get fn with
        | some fd => match resultsA tb fd t m with
          | some v => some (v, m)
          | none => none
        | none => none
      | false => none
    | _, _, _, _ => none
noncomputable def runF (n : Nat) (f : FuncId) (args : List Value) (m : Mem) : Option (Value × Mem) :=
  match enterF tb f args .normal with
  | some g => match runA tb n ⟨g, [], m⟩ with
    | some am => finalA tb f am
    | none => none
  | none => none
end
section
variable {tb : Tabs} {N G : Nat} {w0 : World} {E : Env} {m m' : Mem} {w : World}
theorem calls_of_runF (pk : ProgOk tb N G w0) {f : FuncId} {args args' : List Value} {v : Value} (HM : MR tb.p N w0 E m w) (HG : GlobE G E) (ha : VRs E args args') (n : Nat) (h : runF tb n f args m = some (v, m')) :
    Calls tb.p f ⟨args'⟩ w fun e w' => ∃ v' E', e = .returned v' ∧ VR E' v v' ∧ MR tb.p N w0 E' m' w' := by
  intro cs
  unfold runF at h
  split at h <;> first | (simp at h; done) | skip
  rename_i g hg
  split at h <;> first | (simp at h; done) | skip
  rename_i am hr
  have S : StR tb N G w0 cs ⟨g, [], m⟩ (Frame.enter tb.p f ⟨args'⟩ .normal) cs w E m.next := ⟨HM, HG, FR.enter pk hg ha (.inl rfl), .nil _, Nat.le_refl _⟩
  obtain ⟨fr2, cs2, w2, E2, lo2, hs, S2⟩ := runA_ok pk n S hr
  obtain ⟨⟨fn, t, nt, k, ds, mode, kind, ro⟩, cs1, m2⟩ := am
  unfold finalA at h
  simp only at h
  split at h <;> first | (simp at h; done) | skip
  split at h <;> first | (simp at h; done) | skip
  rename_i hfn
  split at h <;> first | (simp at h; done) | skip
  rename_i fd hfd
  split at h <;> first | (simp at h; done) | skip
  rename_i v2 hv2
  simp only [Option.some.injEq, Prod.mk.injEq] at h
  obtain ⟨rfl, rfl⟩ := h
  obtain rfl := Nat.eq_of_beq_eq_true hfn
  have hC := S2.callers
  cases hC
  have hT := S2.top
  cases hT with
  | @ret _ _ _ _ _ _ _ tm k' ds' ro' hf hts hd hrr hk =>
  cases hd
  obtain ⟨v', hrun, hvr⟩ := results_ok pk.tabs S2.mem hts hv2
  exact ⟨.returned v', w2, _, ⟨v', E2, rfl, hvr, S2.mem⟩, hs, rfl, rfl, rfl, rfl, fd, pk.tabs.funcs _ _ hfd, hrun⟩
end

/-! ### the tables -/
theorem mkTabs_ok (P : Program) (g : Nat) (ov : T (List Value → Mem → Option (Value × Mem))) : TabsOk (mkTabs P g ov) := by
  refine ⟨fun t i h => ?_, fun f fn h => ?_⟩
  · simp only [ti, mkTabs, T.get_ofList] at h
    split at h
    · rename_i x hx
      subst h
      rw [List.getElem?_map, Option.map_eq_some_iff] at hx
      obtain ⟨a, ha, hb⟩ := hx
      rw [List.getElem?_eq_some_iff] at ha
      obtain ⟨_, ha⟩ := ha
      simp only [List.getElem_range] at ha
      rw [ha]; exact hb
    · simp at h
  · simp only [mkTabs, T.get_ofList] at h
    show P.funcs[f]? = some fn
    simpa using h

/-! ### functions without a body -/
theorem find_indexByte {fn : Func} (h : fn.name = "internal/bytealg.IndexByteString") : Extern.find fn = some Extern.BytealgIndexByte.indexByte := by
  obtain ⟨name⟩ := fn
  simp only at h
  subst h
  kernel_rfl
theorem find_noEscape {fn : Func} (h : fn.name = "internal/abi.NoEscape") : Extern.find fn = some Extern.AbiNoEscape.same := by
  obtain ⟨name⟩ := fn
  simp only at h
  subst h
  kernel_rfl
theorem indexByte_eq (c : Nat) (hc : c < 256) : ∀ (l : List UInt8) (i : Nat), indexByte c l i = if Lib.indexByte l c.toUInt8 = -1 then -1 else Lib.indexByte l c.toUInt8 + i
  | [], i => rfl
  | b :: l, i => by
    have hb : (Nat.beq b.toNat c = true) ↔ b = c.toUInt8 := by
      rw [Nat.beq_eq, ← UInt8.toNat_inj]
      simp [Nat.mod_eq_of_lt hc]
    have hge := Lib.indexByte_ge l c.toUInt8
    unfold indexByte Lib.indexByte
    by_cases e : b = c.toUInt8
    · rw [hb.2 e]; simp [e]
    · have : Nat.beq b.toNat c = false := by
        cases h : Nat.beq b.toNat c with
        | false => rfl
        | true => exact absurd (hb.1 h) e
      rw [this]
      simp only [indexByte_eq c hc l (i + 1)]
      simp only [beq_iff_eq, e, if_false]
      split
      · rename_i h; simp
      · rename_i h
        rw [if_neg (by omega)]
        omega
/-- a function that the machine may meet -/
def goodFn (G : Nat) (fn : Func) : Bool :=
  match fn.body with
  | some c => !(fn.name == "runtime.NumGoroutine") && codeOk G c
  | none => !(fn.name == "runtime.NumGoroutine") && (Extern.findNext fn).isNone
theorem progOk_of {P : Program} {G N : Nat} {w0 : World} (h : P.funcs.toList.all (goodFn G) = true) : ProgOk (mkTabs P G .lf) N G w0 := by
  have hget : ∀ f fn, (mkTabs P G .lf).funcs.get f = some fn → goodFn G fn = true := by
    intro f fn hf
    simp only [mkTabs, T.get_ofList] at hf
    exact List.all_eq_true.1 h fn (List.mem_of_getElem? hf)
  refine ⟨mkTabs_ok _ _ _, rfl, fun f fn hf => ?_, fun f fn c hf hb => ?_, fun f fn args v hf hb he E args' w ha => ?_, fun f g args m v m' hg => ?_⟩
  · have := hget f fn hf
    unfold goodFn at this
    split at this <;> (simp only [Bool.and_eq_true, Bool.not_eq_true'] at this; exact this.1)
  · have := hget f fn hf
    unfold goodFn at this
    rw [hb] at this
    simp only [Bool.and_eq_true] at this
    exact this.2
  · have hg := hget f fn hf
    unfold goodFn at hg
    rw [hb] at hg
    simp only [Bool.and_eq_true, Bool.not_eq_true', Option.isNone_iff_eq_none] at hg
    obtain ⟨g1, g2⟩ := hg
    have hfn : (mkTabs P G .lf).p.funcs[f]? = some fn := (mkTabs_ok P G .lf).funcs f fn hf
    have hcall : ∀ {e : Array Value → Sem Value} {v' : Value}, Extern.find fn = some e → (e ⟨args'⟩).run (mkTabs P G .lf).p w = .ok v' w → (callFunc f ⟨args'⟩).run (mkTabs P G .lf).p w = .ok (.value v') w := by
      intro e v' h1 h2
      have g1' : ¬ fn.name = "runtime.NumGoroutine" := by simpa using g1
      unfold callFunc
      simp [hfn, g1', hb, g2, h1, h2]
    unfold externA at he
    split at he
    · rename_i hn
      split at he <;> first | (simp at he; done) | skip
      split at he <;> first | (simp at he; done) | skip
      rename_i s c _ hc
      simp only [ANext.value.injEq] at he
      subst he
      obtain ⟨_, _, rfl, h1, h2⟩ := ha.two
      cases h1
      cases h2
      have hc' : c < 256 := by simpa [Nat.blt_eq] using hc
      refine ⟨_, hcall (find_indexByte (by simpa using hn)) (Lib.run_indexByteString s _ w), ?_⟩
      rw [vInt_eq, indexByte_eq c hc']
      have : (if Lib.indexByte s.data.toList c.toUInt8 = -1 then -1 else Lib.indexByte s.data.toList c.toUInt8 + (0 : Nat)) = Lib.indexByte s.data.toList (Int.ofNat c).toNat.toUInt8 := by
        show _ = Lib.indexByte s.data.toList c.toUInt8
        split
        · rename_i h; exact h.symm
        · simp
      rw [this]
      exact .int _ _
    · split at he <;> first | (simp at he; done) | skip
      rename_i hn
      split at he <;> first | (simp at he; done) | skip
      simp only [ANext.value.injEq] at he
      subst he
      obtain ⟨_, rfl, h1⟩ := ha.one
      exact ⟨_, hcall (find_noEscape (by simpa using hn)) rfl, h1⟩
  · simp [mkTabs, T.get_lf] at hg
end Go.Ev
