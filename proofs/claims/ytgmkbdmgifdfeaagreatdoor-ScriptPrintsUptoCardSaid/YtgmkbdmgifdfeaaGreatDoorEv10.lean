/- What code comes to on the machine. -/
import Derived.Test.YtgmkbdmgifdfeaaGreatDoorEv9
set_option linter.unusedSimpArgs false
set_option linter.unusedVariables false
namespace Go.Ev
open Go.RowKit

section
variable (tb : Tabs)
/-- some steps -/
noncomputable def stepsA : Nat → AM → Option AM
  | 0, a => some a
  | n + 1, a => match stepA tb a with | some b => stepsA n b | none => none
def To (a b : AM) : Prop := ∃ n, stepsA tb n a = some b
/-- one step at least -/
def To1 (a b : AM) : Prop := ∃ n, stepsA tb (n + 1) a = some b
variable {tb} {a b c : AM}
theorem To.refl (a : AM) : To tb a a := ⟨0, rfl⟩
theorem To.step (h : stepA tb a = some b) (k : To tb b c) : To tb a c := by
  obtain ⟨n, k⟩ := k
  exact ⟨n + 1, by simp only [stepsA, h]; exact k⟩
theorem To.one (h : stepA tb a = some b) : To tb a b := .step h (.refl b)
theorem stepsA_add : ∀ {n k : Nat} {a b c : AM}, stepsA tb n a = some b → stepsA tb k b = some c → stepsA tb (n + k) a = some c
  | 0, k, a, b, c, h, g => by
    obtain rfl := Option.some.inj h
    rw [Nat.zero_add]; exact g
  | n + 1, k, a, b, c, h, g => by
    rw [Nat.succ_add]
    simp only [stepsA] at h ⊢
    split at h <;> first | (simp at h; done) | skip
    exact stepsA_add h g
theorem To.trans (h : To tb a b) (k : To tb b c) : To tb a c := by
  obtain ⟨n, h⟩ := h
  obtain ⟨j, k⟩ := k
  exact ⟨_, stepsA_add h k⟩
theorem To1.to (h : To1 tb a b) : To tb a b := by obtain ⟨n, h⟩ := h; exact ⟨_, h⟩
theorem To1.trans (h : To1 tb a b) (k : To tb b c) : To1 tb a c := by
  obtain ⟨n, h⟩ := h
  obtain ⟨j, k⟩ := k
  refine ⟨n + j, ?_⟩
  rw [show n + j + 1 = (n + 1) + j from by omega]
  exact stepsA_add h k
theorem To1.step (h : stepA tb a = some b) (k : To tb b c) : To1 tb a c := by
  obtain ⟨n, k⟩ := k
  exact ⟨n, by simp only [stepsA, h]; exact k⟩
/-- the same next state, the same way on -/
theorem To1.congr {a2 : AM} (e : stepA tb a = stepA tb a2) (h : To1 tb a2 b) : To1 tb a b := by
  obtain ⟨n, h⟩ := h
  refine ⟨n, ?_⟩
  simp only [stepsA] at h ⊢
  rw [e]; exact h
/-- the model goes along -/
theorem To.ok {N G : Nat} {w0 : World} {base : List Frame} (pk : ProgOk tb N G w0) (h : To tb a b) : ∀ {fr' : Frame} {cs' : List Frame} {w : World} {E : Env} {lo : Nat}, StR tb N G w0 base a fr' cs' w E lo → StepOutM tb N G w0 base b (lone fr' cs' w) := by
  obtain ⟨n, h⟩ := h
  induction n generalizing a with
  | zero =>
    intro fr' cs' w E lo S
    obtain rfl := Option.some.inj h
    exact ⟨_, _, _, _, _, .refl _ _, S⟩
  | succ n ih =>
    intro fr' cs' w E lo S
    simp only [stepsA] at h
    split at h <;> first | (simp at h; done) | skip
    rename_i q hq
    obtain ⟨fr2, cs2, w2, E2, lo2, h1, S2⟩ := stepA_ok pk S hq
    obtain ⟨fr3, cs3, w3, E3, lo3, h3, S3⟩ := ih h S2
    exact ⟨fr3, cs3, w3, E3, lo3, h1.trans h3, S3⟩
end

/-! ### calls -/
inductive OutA where
  | ret (v : Value)
  | pan (ch : List PanicEntry)
section
variable (tb : Tabs)
/-- a frame about to be left -/
def Leav (f : FuncId) (fr : AFrame) (m : Mem) : OutA → Prop
  | .ret v => fr.defers = [] ∧ fr.mode = .returning ∧ fr.kind = .normal ∧ fr.fn = f ∧ ∃ fd, tb.funcs.get f = some fd ∧ resultsA tb fd fr.tmps m = some v
  | .pan ch => fr.defers = [] ∧ fr.mode = .panicking ch
/-- WHAT A CALL COMES TO -/
def CallsA (f : FuncId) (args : List Value) (m : Mem) (R : OutA → Mem → Prop) : Prop :=
  ∃ g, enterF tb f args .normal = some g ∧ ∀ cs, ∃ out m' fr, R out m' ∧ To tb ⟨g, cs, m⟩ ⟨fr, cs, m'⟩ ∧ Leav tb f fr m' out
variable {tb}
theorem CallsA.mono {f : FuncId} {args : List Value} {m : Mem} {R R' : OutA → Mem → Prop} (h : CallsA tb f args m R) (k : ∀ o m', R o m' → R' o m') : CallsA tb f args m R' := by
  obtain ⟨g, h1, h2⟩ := h
  exact ⟨g, h1, fun cs => by obtain ⟨o, m', fr, a, b⟩ := h2 cs; exact ⟨o, m', fr, k _ _ a, b⟩⟩
theorem leav_ret {f : FuncId} {fr c : AFrame} {cs : List AFrame} {m : Mem} {v : Value} {c1 : AFrame} (h : Leav tb f fr m (.ret v)) (hf : finishA tb c v m = some c1) : stepA tb ⟨fr, c :: cs, m⟩ = some ⟨c1, cs, m⟩ := by
  obtain ⟨fn, t, nt, todo, ds, mode, kind, ro⟩ := fr
  obtain ⟨h1, h2, h3, h4, fd, h5, h6⟩ := h
  simp only at h1 h2 h3 h4 h6
  subst h1; subst h2; subst h3; subst h4
  simp only [stepA, stepFr, unwindA, returnA, h5, h6, hf, am]
theorem leav_pan {f : FuncId} {fr c : AFrame} {cs : List AFrame} {m : Mem} {ch : List PanicEntry} (h : Leav tb f fr m (.pan ch)) : stepA tb ⟨fr, c :: cs, m⟩ = some ⟨raiseA c ch, cs, m⟩ := by
  obtain ⟨fn, t, nt, todo, ds, mode, kind, ro⟩ := fr
  obtain ⟨h1, h2⟩ := h
  simp only at h1 h2
  subst h1; subst h2
  simp only [stepA, stepFr, unwindA]
/-- OUT OF THE MACHINE: the model's call returns -/
theorem calls_of_callsA {N G : Nat} {w0 : World} {E : Env} {m : Mem} {w : World} (pk : ProgOk tb N G w0) {f : FuncId} {args args' : List Value} {R : Value → Mem → Prop} (HM : MR tb.p N w0 E m w) (HG : GlobE G E) (ha : VRs E args args')
    (h : CallsA tb f args m fun out m' => ∃ v, out = .ret v ∧ R v m') :
    Calls tb.p f ⟨args'⟩ w fun e w' => ∃ v v' E' m', R v m' ∧ e = .returned v' ∧ VR E' v v' ∧ MR tb.p N w0 E' m' w' := by
  intro cs
  obtain ⟨g, hg, h⟩ := h
  obtain ⟨out, m', fr, ⟨v, rfl, hR⟩, hto, hl⟩ := h []
  have S : StR tb N G w0 cs ⟨g, [], m⟩ (Frame.enter tb.p f ⟨args'⟩ .normal) cs w E m.next := ⟨HM, HG, FR.enter pk hg ha (.inl rfl), .nil _, Nat.le_refl _⟩
  obtain ⟨fr2, cs2, w2, E2, lo2, hs, S2⟩ := hto.ok pk S
  obtain ⟨h1, h2, h3, h4, fd, h5, h6⟩ := hl
  have hC := S2.callers
  cases hC
  have hT := S2.top
  obtain ⟨fn, t, nt, todo, ds, mode, kind, ro⟩ := fr
  simp only at h1 h2 h3 h4 h6 hT
  subst h1; subst h2; subst h3; subst h4
  cases hT with
  | @ret _ _ _ _ _ _ _ tm k' ds' ro' hf hts hd hrr hk =>
  cases hd
  obtain ⟨v', hrun, hvr⟩ := results_ok pk.tabs S2.mem hts h6
  exact ⟨.returned v', w2, _, ⟨v, v', E2, m', hR, rfl, hvr, S2.mem⟩, hs, rfl, rfl, rfl, rfl, fd, pk.tabs.funcs _ _ h5, hrun⟩
end

/-! ### pieces of code -/
/-- the slots, as a list -/
def SlotsR (l : List Value) (t : T Value) : Prop := ∀ x, ev t (.tmp x) = l.getD x undef
noncomputable def evL (l : List Value) (x : Operand) : Value := ev (T.ofList l) x
theorem slots_ofList (l : List Value) : SlotsR l (T.ofList l) := fun x => by
  simp only [ev, T.get_ofList, List.getD_eq_getElem?_getD]
  cases l[x]? <;> rfl
theorem SlotsR.ev {l : List Value} {t : T Value} (h : SlotsR l t) (x : Operand) : ev t x = evL l x := by
  unfold evL
  cases x with
  | tmp i => rw [h i, slots_ofList l i]
  | _ => rfl
theorem SlotsR.opA {tb : Tabs} {l : List Value} {t : T Value} (h : SlotsR l t) (o : Op) (m : Mem) : opA o tb t m = opA o tb (T.ofList l) m :=
  opA_congr (fun x _ => h.ev x) m
def setSl (d : Option Tmp) (v : Value) (l : List Value) : List Value := match d with | some d => l.set d v | none => l
theorem setSl_length {d : Option Tmp} {v : Value} {l : List Value} : (setSl d v l).length = l.length := by cases d <;> simp [setSl]
def dstOk (d : Option Tmp) (l : List Value) : Prop := ∀ x, d = some x → x < l.length
theorem SlotsR.put {l : List Value} {t : T Value} (h : SlotsR l t) {d : Option Tmp} {v : Value} (hd : dstOk d l) : ∃ t', putT t l.length d v = some t' ∧ SlotsR (setSl d v l) t' := by
  cases d with
  | none => exact ⟨t, rfl, h⟩
  | some d =>
    have hlt := hd d rfl
    refine ⟨t.set d v, ?_, fun x => ?_⟩
    · unfold putT
      have : Nat.blt d l.length = true := by simpa [Nat.blt_eq] using hlt
      simp only [this]
      cases t.set d v <;> rfl
    · rw [ev_set]
      simp only [setSl, List.getD_eq_getElem?_getD, List.getElem?_set]
      by_cases e : x = d
      · subst e; simp [hlt]
      · rw [if_neg e, if_neg (fun h => e h.symm)]
        have := h x
        rw [List.getD_eq_getElem?_getD] at this
        exact this
noncomputable def wantedL (l : List Value) (ops : Array Oper) (g : Option (Nat × Bool)) : Bool := wantedA (T.ofList l) ops g
theorem SlotsR.wanted {l : List Value} {t : T Value} (h : SlotsR l t) (ops : Array Oper) (g : Option (Nat × Bool)) : wantedA t ops g = wantedL l ops g := by
  cases g with
  | none => rfl
  | some g =>
    obtain ⟨j, w⟩ := g
    have : ∀ t', SlotsR l t' → (wantedA t' ops (some (j, w)) = true ↔ ∃ oj d, ops.toList[j]? = some oj ∧ oj.dst = some d ∧ l.getD d undef = .bool w) := fun t' h' => by
      rw [wantedA_iff]
      simp only [h' _]
    have e := (this t h).trans (this _ (slots_ofList l)).symm
    unfold wantedL
    cases h1 : wantedA t ops (some (j, w)) <;> cases h2 : wantedA (T.ofList l) ops (some (j, w)) <;> simp_all
structure FC where
  fn : FuncId
  kind : CallKind
  ro : Option Nat
def mkF (F : FC) (t : T Value) (nt : Nat) (k : List AItem) (ds : List Deferred) : AFrame := ⟨F.fn, t, nt, k, ds, .run, F.kind, F.ro⟩
inductive ExA where
  | normal
  | jump (c : Code)
  | pan (ch : List PanicEntry)
def isJump : Code → Bool
  | .ret => true
  | .exit _ => true
  | .goto _ => true
  | _ => false
/-- where a jump leads -/
def jumpTo : Code → List AItem → Option (List AItem)
  | .exit id, k => exitToA id k
  | .goto l, k => gotoInA l k
  | _, _ => none
def Aft (F : FC) (t : T Value) (nt : Nat) (k : List AItem) (ds : List Deferred) (cs : List AFrame) (m : Mem) : ExA → AM → Prop
  | .normal, b => b = ⟨mkF F t nt k ds, cs, m⟩
  | .jump c, b => ∃ k', b = ⟨mkF F t nt (.code c :: k') ds, cs, m⟩ ∧ jumpTo c k' = jumpTo c k ∧ isJump c = true
  | .pan ch, b => ∃ k', b = ⟨⟨F.fn, t, nt, k', ds, .panicking ch, F.kind, F.ro⟩, cs, m⟩
abbrev PostA := ExA → List Value → List Deferred → Mem → Prop
/-- WHAT A PIECE OF CODE COMES TO -/
def wpC (tb : Tabs) (F : FC) (c : Code) (l : List Value) (ds : List Deferred) (m : Mem) (Q : PostA) : Prop :=
  ∀ t k cs, SlotsR l t → ∃ e l' t' ds' m' b, SlotsR l' t' ∧ l'.length = l.length ∧ Q e l' ds' m' ∧ Aft F t' l.length k ds' cs m' e b ∧ To tb ⟨mkF F t l.length (.code c :: k) ds, cs, m⟩ b
def thenA (N : List Value → List Deferred → Mem → Prop) (Q : PostA) : PostA
  | .normal, l, ds, m => N l ds m
  | e, l, ds, m => Q e l ds m
def blockA (id : Nat) (Q : PostA) : PostA
  | .jump (.exit i), l, ds, m => if i = id then Q .normal l ds m else Q (.jump (.exit i)) l ds m
  | e, l, ds, m => Q e l ds m
section
variable {tb : Tabs} {F : FC} {l : List Value} {ds : List Deferred} {m : Mem} {Q Q' : PostA} {a b : Code}
theorem wpC.mono {c : Code} (h : wpC tb F c l ds m Q) (k : ∀ e l' ds' m', Q e l' ds' m' → Q' e l' ds' m') : wpC tb F c l ds m Q' := fun t kk cs ht => by
  obtain ⟨e, l', t', ds', m', b, h1, h2, h3, h4⟩ := h t kk cs ht
  exact ⟨e, l', t', ds', m', b, h1, h2, k _ _ _ _ h3, h4⟩
theorem wp_skip (h : Q .normal l ds m) : wpC tb F .skip l ds m Q := fun t k cs ht => ⟨.normal, l, t, ds, m, _, ht, rfl, h, rfl, .one rfl⟩
theorem wp_label {i : Nat} (h : Q .normal l ds m) : wpC tb F (.label i) l ds m Q := fun t k cs ht => ⟨.normal, l, t, ds, m, _, ht, rfl, h, rfl, .one rfl⟩
theorem wp_ret (h : Q (.jump .ret) l ds m) : wpC tb F .ret l ds m Q := fun t k cs ht => ⟨.jump .ret, l, t, ds, m, _, ht, rfl, h, ⟨k, rfl, rfl, rfl⟩, .refl _⟩
theorem wp_exit {i : Nat} (h : Q (.jump (.exit i)) l ds m) : wpC tb F (.exit i) l ds m Q := fun t k cs ht => ⟨_, l, t, ds, m, _, ht, rfl, h, ⟨k, rfl, rfl, rfl⟩, .refl _⟩
theorem wp_goto {i : Nat} (h : Q (.jump (.goto i)) l ds m) : wpC tb F (.goto i) l ds m Q := fun t k cs ht => ⟨_, l, t, ds, m, _, ht, rfl, h, ⟨k, rfl, rfl, rfl⟩, .refl _⟩
/-- one piece behind another -/
theorem wp_seq (h : wpC tb F a l ds m (thenA (fun l ds m => wpC tb F b l ds m Q) Q)) : wpC tb F (.seq a b) l ds m Q := fun t k cs ht => by
  obtain ⟨e, l1, t1, ds1, m1, b1, h1, h2, h3, h4, h5⟩ := h t (.code b :: k) cs ht
  have hst : To tb ⟨mkF F t l.length (.code (.seq a b) :: k) ds, cs, m⟩ b1 := .step rfl h5
  cases e with
  | normal =>
    obtain rfl := h4
    obtain ⟨e, l2, t2, ds2, m2, b2, g1, g2, g3, g4, g5⟩ := h3 t1 k cs h1
    rw [h2] at g2 g4 g5
    exact ⟨e, l2, t2, ds2, m2, b2, g1, g2, g3, g4, hst.trans g5⟩
  | jump c =>
    obtain ⟨k', rfl, hk, hj⟩ := h4
    exact ⟨.jump c, l1, t1, ds1, m1, _, h1, h2, h3, ⟨k', rfl, hk.trans (by cases c <;> rfl), hj⟩, hst⟩
  | pan ch => exact ⟨.pan ch, l1, t1, ds1, m1, b1, h1, h2, h3, h4, hst⟩
theorem wp_cond {c : Operand} {v : Bool} (hc : evL l c = .bool v) (h : wpC tb F (match v with | true => a | false => b) l ds m Q) : wpC tb F (.cond c a b) l ds m Q := fun t k cs ht => by
  obtain ⟨e, l1, t1, ds1, m1, b1, h1, h2, h3, h4, h5⟩ := h t k cs ht
  refine ⟨e, l1, t1, ds1, m1, b1, h1, h2, h3, h4, .step ?_ h5⟩
  have := ht.ev c
  rw [hc] at this
  simp only [stepA, stepFr, mkF, runFrame, itemA, codeA, this, condA, mkA]
  cases v <;> rfl
theorem wp_block {id : Nat} (h : wpC tb F b l ds m (blockA id Q)) : wpC tb F (.block id b) l ds m Q := fun t k cs ht => by
  obtain ⟨e, l1, t1, ds1, m1, b1, h1, h2, h3, h4, h5⟩ := h t (.inBlock id :: k) cs ht
  have hst : To tb ⟨mkF F t l.length (.code (.block id b) :: k) ds, cs, m⟩ b1 := .step rfl h5
  cases e with
  | normal =>
    obtain rfl := h4
    exact ⟨.normal, l1, t1, ds1, m1, _, h1, h2, h3, rfl, hst.trans (.one rfl)⟩
  | pan ch => exact ⟨.pan ch, l1, t1, ds1, m1, b1, h1, h2, h3, h4, hst⟩
  | jump c =>
    obtain ⟨k', rfl, hk, hj⟩ := h4
    by_cases hc : ∃ i, c = .exit i
    · obtain ⟨i, rfl⟩ := hc
      simp only [blockA] at h3
      by_cases hi : i = id
      · subst hi
        rw [if_pos rfl] at h3
        refine ⟨.normal, l1, t1, ds1, m1, _, h1, h2, h3, rfl, hst.trans (.one ?_)⟩
        simp only [jumpTo, exitToA, Nat.beq_refl] at hk
        simp only [stepA, stepFr, mkF, runFrame, itemA, codeA, hk, jumpA, mkA]
      · rw [if_neg hi] at h3
        refine ⟨_, l1, t1, ds1, m1, _, h1, h2, h3, ⟨k', rfl, hk.trans ?_, rfl⟩, hst⟩
        simp only [jumpTo, exitToA]
        rw [beqF (fun e => hi e.symm)]
    · have h3' : Q (.jump c) l1 ds1 m1 := by
        cases c <;> first | exact h3 | exact absurd ⟨_, rfl⟩ hc
      exact ⟨.jump c, l1, t1, ds1, m1, _, h1, h2, h3', ⟨k', rfl, hk.trans (by cases c <;> first | rfl | exact absurd ⟨_, rfl⟩ hc), hj⟩, hst⟩
/-- a loop, one round -/
theorem wp_loop (h : wpC tb F b l ds m (thenA (fun l ds m => wpC tb F (.loop b) l ds m Q) Q)) : wpC tb F (.loop b) l ds m Q := fun t k cs ht => by
  obtain ⟨e, l1, t1, ds1, m1, b1, h1, h2, h3, h4, h5⟩ := h t (.inLoop b :: k) cs ht
  have hst : To tb ⟨mkF F t l.length (.code (.loop b) :: k) ds, cs, m⟩ b1 := .step rfl h5
  cases e with
  | normal =>
    obtain rfl := h4
    obtain ⟨e, l2, t2, ds2, m2, b2, g1, g2, g3, g4, n, g5⟩ := h3 t1 k cs h1
    rw [h2] at g2 g4 g5
    cases n with
    | zero =>
      -- no step made: the loop's own code stands
      obtain rfl := Option.some.inj g5
      exfalso
      cases e with
      | normal =>
        have := congrArg (fun x => x.fr.todo.length) g4
        simp [mkF] at this
      | jump c =>
        obtain ⟨k', hk', _, hj⟩ := g4
        have := congrArg (fun x => x.fr.todo.head?) hk'
        simp [mkF] at this
        subst this
        simp [isJump] at hj
      | pan ch =>
        obtain ⟨k', hk'⟩ := g4
        have := congrArg (fun x => x.fr.mode) hk'
        simp [mkF] at this
    | succ n =>
      refine ⟨e, l2, t2, ds2, m2, b2, g1, g2, g3, g4, hst.trans ⟨n + 1, ?_⟩⟩
      exact g5
  | jump c =>
    obtain ⟨k', rfl, hk, hj⟩ := h4
    exact ⟨.jump c, l1, t1, ds1, m1, _, h1, h2, h3, ⟨k', rfl, hk.trans (by cases c <;> rfl), hj⟩, hst⟩
  | pan ch => exact ⟨.pan ch, l1, t1, ds1, m1, b1, h1, h2, h3, h4, hst⟩
end
end Go.Ev
namespace Go.Ev
open Go.RowKit

def dstB (d : Option Tmp) (n : Nat) : Bool := match d with | none => true | some d => Nat.blt d n
theorem dstB_ok {d : Option Tmp} {l : List Value} (h : dstB d l.length = true) : dstOk d l := by
  intro x e
  subst e
  simpa [dstB, Nat.blt_eq] using h
noncomputable def evsL (l : List Value) (x : List Operand) : List Value := evs (T.ofList l) x
theorem SlotsR.evs {l : List Value} {t : T Value} (h : SlotsR l t) (x : List Operand) : evs t x = evsL l x := evs_congr fun y _ => h.ev y
theorem SlotsR.deferOf {l : List Value} {t : T Value} (h : SlotsR l t) (c : Call) (ty : TypeId) : deferOf t c ty = deferOf (T.ofList l) c ty := by
  unfold Go.Ev.deferOf
  cases c.callee with
  | value f => simp only [h.ev f, h.evs, evL, evsL]
  | _ => rfl
section
variable (tb : Tabs)
/-- a frame that is entered answers its caller -/
def AnsA (g : AFrame) (m : Mem) (R : OutA → Mem → Prop) : Prop :=
  ∀ c cs, ∃ out m', R out m' ∧ match out with
    | .ret v => ∀ c1, finishA tb c v m' = some c1 → To tb ⟨g, c :: cs, m⟩ ⟨c1, cs, m'⟩
    | .pan ch => To tb ⟨g, c :: cs, m⟩ ⟨raiseA c ch, cs, m'⟩
variable {tb}
theorem CallsA.ans {f : FuncId} {args : List Value} {m : Mem} {R : OutA → Mem → Prop} (h : CallsA tb f args m R) : ∃ g, enterF tb f args .normal = some g ∧ AnsA tb g m R := by
  obtain ⟨g, h1, h2⟩ := h
  refine ⟨g, h1, fun c cs => ?_⟩
  obtain ⟨out, m', fr, a, b, d⟩ := h2 (c :: cs)
  refine ⟨out, m', a, ?_⟩
  cases out with
  | ret v => exact fun c1 hf => b.trans (.one (leav_ret d hf))
  | pan ch => exact b.trans (.one (leav_pan d))
variable (tb)
/-- the frame of a round -/
noncomputable def roundFr (l : Nat) (args : List Value) (m : Mem) : Option AFrame :=
  match m.objs.get l with
  | some (.loop _ _ fn tmps nt ps a b _) =>
    match codeOk tb.g a && codeOk tb.g b && (tb.funcs.get fn).isSome with
    | false => none
    | true => match foldPut nt ps args tmps with
      | some t => some ⟨fn, t, nt, [.code a, .beginRound, .code b], [], .run, .normal, some l⟩
      | none => none
  | _ => none
theorem roundA_eq (l : Nat) (args : List Value) (fr : AFrame) (cs : List AFrame) (m : Mem) : roundA tb l args fr cs m = match roundFr tb l args m with | some g => some ⟨g, fr :: cs, m⟩ | none => none := by
  unfold roundA roundFr
  cases m.objs.get l with
  | none => rfl
  | some o =>
    cases o with
    | loop st pe fn tmps nt ps a b ds =>
      simp only
      cases codeOk tb.g a && codeOk tb.g b && (tb.funcs.get fn).isSome with
      | false => rfl
      | true => cases foldPut nt ps args tmps <;> rfl
    | _ => rfl
/-- WHAT A ROUND COMES TO -/
def RoundsA (l : Nat) (args : List Value) (m : Mem) (R : OutA → Mem → Prop) : Prop := ∃ g, roundFr tb l args m = some g ∧ AnsA tb g m R
/-- what a call by value comes to -/
def wpNext (n : ANext) (ds : List Deferred) (m : Mem) (K : Value → List Deferred → Mem → Prop) (PK : List PanicEntry → Mem → Prop) : Prop :=
  match n with
  | .enter f args => CallsA tb f args m fun out m' => match out with | .ret v => K v ds m' | .pan ch => PK ch m'
  | .round l args => RoundsA tb l args m fun out m' => match out with | .ret v => K v ds m' | .pan ch => PK ch m'
  | .value v => K v ds m
  | .over v m' => K v ds m'
  | .bad => False
def isIface : Value → Bool
  | .iface _ _ => true
  | _ => false
def wpCallOp (F : FC) (o : Oper) (l : List Value) (ds : List Deferred) (m : Mem) (K : Value → List Deferred → Mem → Prop) (PK : List PanicEntry → Mem → Prop) : Prop :=
  match o.op with
  | .call c => match c.callee with
    | .value f => wpNext tb (callValue tb (evL l f) (evsL l c.args.toList) m) ds m K PK
    | .builtin b => match b with
      | .recover => F.ro = none ∧ F.kind = .normal ∧ K .nilIface ds m
      | _ => False
    | .invoke _ _ => False
  | .defer c => F.ro = none ∧ ∃ d, deferOf (T.ofList l) c o.type = some d ∧ K undef (d :: ds) m
  | .panic x => isIface (evL l x) = true ∧ PK [{ v := evL l x, recovered := false }] m
  | _ => False
/-- a region in order -/
def wpOps (F : FC) (ops : Array Oper) (Q : PostA) : List Oper → List Value → List Deferred → Mem → Prop
  | [], l, ds, m => Q .normal l ds m
  | o :: os, l, ds, m => dstB o.dst l.length = true ∧
    match wantedL l ops o.guard with
    | false => wpOps F ops Q os (setSl o.dst undef l) ds m
    | true => match opA o.op tb (T.ofList l) m with
      | .r v => wpOps F ops Q os (setSl o.dst v l) ds m
      | .f ob mk => wpOps F ops Q os (setSl o.dst (mk m.next) l) ds (newObjA m ob)
      | .e v m' => wpOps F ops Q os (setSl o.dst v l) ds m'
      | .c => wpCallOp tb F o l ds m (fun v ds m => wpOps F ops Q os (setSl o.dst v l) ds m) (fun ch m => Q (.pan ch) l ds m)
      | .bad => False
variable {tb}
variable {F : FC} {ops : Array Oper} {Q : PostA}
def GoesOn (tb : Tabs) (F : FC) (Q : PostA) (n : Nat) (k : List AItem) (cs : List AFrame) (a : AM) : Prop :=
  ∃ e l' t' ds' m' b, SlotsR l' t' ∧ l'.length = n ∧ Q e l' ds' m' ∧ Aft F t' n k ds' cs m' e b ∧ To1 tb a b
theorem GoesOn.congr {n : Nat} {k : List AItem} {cs : List AFrame} {a a2 : AM} (e : stepA tb a = stepA tb a2) (h : GoesOn tb F Q n k cs a2) : GoesOn tb F Q n k cs a := by
  obtain ⟨e1, l', t', ds', m', b, h1, h2, h3, h4, h5⟩ := h
  exact ⟨e1, l', t', ds', m', b, h1, h2, h3, h4, h5.congr e⟩
theorem GoesOn.after {n : Nat} {k : List AItem} {cs : List AFrame} {a a2 : AM} (e : To1 tb a a2) (h : GoesOn tb F Q n k cs a2) : GoesOn tb F Q n k cs a := by
  obtain ⟨e1, l', t', ds', m', b, h1, h2, h3, h4, h5⟩ := h
  exact ⟨e1, l', t', ds', m', b, h1, h2, h3, h4, e.trans h5.to⟩
/-- a call from a frame that waits: 'fin': the frame that goes on -/
theorem next_ok {n : ANext} {ds : List Deferred} {m : Mem} {nt : Nat} {k : List AItem} {cs : List AFrame} {l : List Value} {t : T Value} (hl : l.length = nt) (ht : SlotsR l t) {K : Value → List Deferred → Mem → Prop} {kk : List AItem}
    (h : wpNext tb n ds m K (fun ch m => Q (.pan ch) l ds m)) (hfin : ∀ v m', K v ds m' → ∃ c1, finishA tb (mkF F t nt kk ds) v m' = some c1 ∧ GoesOn tb F Q nt k cs ⟨c1, cs, m'⟩) {a : AM} (hst : ∀ b, goA tb n (mkF F t nt kk ds) cs m = some b → stepA tb a = some b) :
    GoesOn tb F Q nt k cs a := by
  have key : ∀ g R, (∀ b, some (⟨g, mkF F t nt kk ds :: cs, m⟩ : AM) = some b → stepA tb a = some b) → AnsA tb g m R → (∀ v m', R (.ret v) m' → K v ds m') → (∀ ch m', R (.pan ch) m' → Q (.pan ch) l ds m') → GoesOn tb F Q nt k cs a := by
    intro g R hs hA h1 h2
    obtain ⟨out, m', hR, hout⟩ := hA (mkF F t nt kk ds) cs
    have hs1 := hs _ rfl
    cases out with
    | ret v =>
      obtain ⟨c1, hf, hg⟩ := hfin v m' (h1 v m' hR)
      exact hg.after (.step hs1 (hout c1 hf))
    | pan ch => exact ⟨.pan ch, l, t, ds, m', _, ht, hl, h2 ch m' hR, ⟨kk, rfl⟩, .step hs1 hout⟩
  cases n with
  | bad => exact h.elim
  | enter f args =>
    obtain ⟨g, hg, hA⟩ := CallsA.ans h
    exact key g _ (fun b hb => hst b (by simp only [goA, hg]; exact hb)) hA (fun v m' h => h) (fun ch m' h => h)
  | round lp args =>
    obtain ⟨g, hg, hA⟩ := h
    exact key g _ (fun b hb => hst b (by simp only [goA, roundA_eq, hg]; exact hb)) hA (fun v m' h => h) (fun ch m' h => h)
  | value v =>
    obtain ⟨c1, hf, hg⟩ := hfin v m h
    exact hg.after (.step (hst _ (by simp only [goA, am, hf])) (.refl _))
  | over v m' =>
    obtain ⟨c1, hf, hg⟩ := hfin v m' h
    exact hg.after (.step (hst _ (by simp only [goA, am, hf])) (.refl _))
/-- a region in order, met by the machine -/
theorem wpOps_ok : ∀ (os : List Oper) (l : List Value) (ds : List Deferred) (m : Mem) (t : T Value) (k : List AItem) (cs : List AFrame), SlotsR l t → wpOps tb F ops Q os l ds m →
    GoesOn tb F Q l.length k cs ⟨mkF F t l.length (.ops ops os :: k) ds, cs, m⟩
  | [], l, ds, m, t, k, cs, ht, h => ⟨.normal, l, t, ds, m, _, ht, rfl, h, rfl, .step rfl (.refl _)⟩
  | o :: os, l, ds, m, t, k, cs, ht, h => by
    obtain ⟨hd, h⟩ := h
    have hw := ht.wanted ops o.guard
    have hput : ∀ v, ∃ t', putT t l.length o.dst v = some t' ∧ SlotsR (setSl o.dst v l) t' := fun v => ht.put (dstB_ok hd)
    have go : ∀ v m', wpOps tb F ops Q os (setSl o.dst v l) ds m' → (∀ t', putT t l.length o.dst v = some t' → stepA tb ⟨mkF F t l.length (.ops ops (o :: os) :: k) ds, cs, m⟩ = stepA tb ⟨mkF F t' l.length (.ops ops os :: k) ds, cs, m'⟩) →
        GoesOn tb F Q l.length k cs ⟨mkF F t l.length (.ops ops (o :: os) :: k) ds, cs, m⟩ := by
      intro v m' h1 h2
      obtain ⟨t', p1, p2⟩ := hput v
      have ih := wpOps_ok os (setSl o.dst v l) ds m' t' k cs p2 h1
      rw [setSl_length] at ih
      exact ih.congr (h2 t' p1)
    split at h
    · rename_i hf
      refine go undef m h fun t' p => ?_
      simp only [stepA, stepFr, mkF, runFrame, itemA, opsItem, opsA, lrec_cons, opsStep, hw.trans hf, opsPut, p]
    · rename_i hf
      have hop := ht.opA (tb := tb) o.op m
      split at h
      · rename_i v ho
        refine go v m h fun t' p => ?_
        simp only [stepA, stepFr, mkF, runFrame, itemA, opsItem, opsA, lrec_cons, opsStep, hw.trans hf, hop.trans ho, opsK, opsPut, p]
      · rename_i ob mk ho
        refine go (mk m.next) (newObjA m ob) h fun t' p => ?_
        simp only [stepA, stepFr, mkF, runFrame, itemA, opsItem, opsA, lrec_cons, opsStep, hw.trans hf, hop.trans ho, opsK, opsPut, p]
      · rename_i v m' ho
        refine go v m' h fun t' p => ?_
        simp only [stepA, stepFr, mkF, runFrame, itemA, opsItem, opsA, lrec_cons, opsStep, hw.trans hf, hop.trans ho, opsK, opsPut, p]
      · rename_i ho
        have hstop : stepA tb ⟨mkF F t l.length (.ops ops (o :: os) :: k) ds, cs, m⟩ = doCall tb o (mkF F t l.length (.ops ops (o :: os) :: k) ds) cs m := by
          simp only [stepA, stepFr, mkF, runFrame, itemA, opsItem, opsA, lrec_cons, opsStep, hw.trans hf, hop.trans ho, opsK, frm]
        have hfin : ∀ v ds2 m', wpOps tb F ops Q os (setSl o.dst v l) ds2 m' → ∃ c1, finishA tb (mkF F t l.length (.ops ops (o :: os) :: k) ds2) v m' = some c1 ∧ GoesOn tb F Q l.length k cs ⟨c1, cs, m'⟩ := by
          intro v ds2 m' h1
          obtain ⟨t', p1, p2⟩ := hput v
          have ih := wpOps_ok os (setSl o.dst v l) ds2 m' t' k cs p2 h1
          rw [setSl_length] at ih
          exact ⟨_, by simp only [finishA, mkF, p1]; try rfl, ih⟩
        unfold wpCallOp at h
        split at h
        · rename_i c hop2
          split at h
          · rename_i f hcal
            refine next_ok rfl ht h (fun v m' h1 => hfin v ds m' h1) fun b hb => ?_
            rw [hstop]
            unfold doCall
            rw [hop2]
            simp only [hcal, mkF] at hb ⊢
            rw [ht.ev f, ht.evs]
            exact hb
          · rename_i b hcal
            split at h
            · obtain ⟨h1, h2, h3⟩ := h
              obtain ⟨c1, q1, q2⟩ := hfin _ _ _ h3
              refine q2.after (.step ?_ (.refl _))
              rw [hstop]
              unfold doCall
              rw [hop2]
              simp only [hcal, recoverA]
              simp only [mkF, h1, h2] at q1 ⊢
              simp only [am, q1]
            · exact h.elim
          · exact h.elim
        · rename_i c hop2
          obtain ⟨h1, d, h2, h3⟩ := h
          obtain ⟨c1, q1, q2⟩ := hfin _ _ _ h3
          refine q2.after (.step ?_ (.refl _))
          rw [hstop]
          unfold doCall
          rw [hop2]
          have hd2 := (ht.deferOf c o.type).trans h2
          simp only [mkF, hd2, deferA, h1] at q1 ⊢
          simp only [addDefer, am, q1]
        · rename_i x hop2
          obtain ⟨h1, h2⟩ := h
          have hx := ht.ev x
          generalize hv : evL l x = v at h1 h2 hx
          cases v <;> simp only [isIface] at h1 <;> first | (simp at h1; done) | skip
          rename_i ty v
          refine ⟨.pan _, l, t, ds, m, _, ht, rfl, h2, ⟨_, rfl⟩, .step (b := ⟨raiseA (mkF F t l.length (.ops ops (o :: os) :: k) ds) [{ v := .iface ty v, recovered := false }], cs, m⟩) ?_ (.refl _)⟩
          rw [hstop]
          unfold doCall
          rw [hop2]
          simp only [mkF, hx]
        · exact h.elim
      · exact h.elim
theorem wp_region {id : Nat} {l : List Value} {ds : List Deferred} {m : Mem} (h : wpOps tb F ops Q ops.toList l ds m) : wpC tb F (.region id ops false) l ds m Q := fun t k cs ht => by
  obtain ⟨e, l', t', ds', m', b, h1, h2, h3, h4, h5⟩ := wpOps_ok ops.toList l ds m t k cs ht h
  exact ⟨e, l', t', ds', m', b, h1, h2, h3, h4, .step rfl h5.to⟩
/-! ### a function's body -/
noncomputable def resL (fd : Func) (l : List Value) (m : Mem) : Option Value := resultsA tb fd (T.ofList l) m
theorem resA_congr {t t' : T Value} {m : Mem} (h : ∀ x, ev t (.tmp x) = ev t' (.tmp x)) : ∀ (rs : List ResultVar), resA tb t m rs = resA tb t' m rs
  | [] => rfl
  | .tmp i :: rs => by
    have := h i
    simp only [ev] at this
    simp only [resA, resA_congr h rs, this]
  | .cell a ty :: rs => by
    have := h a
    simp only [ev] at this
    simp only [resA, resA_congr h rs]
    cases h1 : t.get a <;> cases h2 : t'.get a <;> rw [h1, h2] at this <;> simp only at this
    · subst this; rfl
    · subst this; rfl
    · subst this; rfl
variable (tb)
/-- what a body is left with -/
def bodyA (fd : Func) (R : OutA → Mem → Prop) : PostA
  | .normal, l, ds, m => ds = [] ∧ ∃ v, resL (tb := tb) fd l m = some v ∧ R (.ret v) m
  | .jump .ret, l, ds, m => ds = [] ∧ ∃ v, resL (tb := tb) fd l m = some v ∧ R (.ret v) m
  | .pan ch, _, ds, m => ds = [] ∧ R (.pan ch) m
  | _, _, _, _ => False
variable {tb}
theorem callsA_of_wp {f : FuncId} {fd : Func} {c : Code} {args : List Value} {m : Mem} {R : OutA → Mem → Prop} (hf : tb.funcs.get f = some fd) (hb : fd.body = some c)
    (h : wpC tb ⟨f, .normal, none⟩ c (args ++ List.replicate (fd.ntmps - args.length) undef) [] m (bodyA tb fd R)) : CallsA tb f args m R := by
  refine ⟨⟨f, T.ofList args, max fd.ntmps args.length, [.code c], [], .run, .normal, none⟩, by simp only [enterF, hf, hb], fun cs => ?_⟩
  have hs : SlotsR (args ++ List.replicate (fd.ntmps - args.length) undef) (T.ofList args) := fun x => by
    rw [slots_ofList args x]
    simp only [List.getD_eq_getElem?_getD, List.getElem?_append]
    split
    · rfl
    · rename_i hx
      rw [List.getElem?_eq_none (by omega), List.getElem?_replicate]
      split <;> rfl
  have hl : (args ++ List.replicate (fd.ntmps - args.length) undef).length = max fd.ntmps args.length := by
    simp only [List.length_append, List.length_replicate]; omega
  obtain ⟨e, l', t', ds', m', b, h1, h2, h3, h4, h5⟩ := h (T.ofList args) [] cs hs
  rw [hl] at h5 h4
  have hres : ∀ fd, resultsA tb fd t' m' = resL (tb := tb) fd l' m' := fun fd => by
    unfold resL resultsA
    rw [resA_congr fun x => (h1.ev (.tmp x)).trans ((slots_ofList l').ev (.tmp x)).symm]
  cases e with
  | normal =>
    obtain rfl := h4
    obtain ⟨rfl, v, hv, hR⟩ := h3
    exact ⟨.ret v, m', _, hR, h5.trans (.one rfl), rfl, rfl, rfl, rfl, fd, hf, (hres fd).trans hv⟩
  | jump c =>
    obtain ⟨k', rfl, hk, hj⟩ := h4
    cases c <;> first | exact h3.elim | skip
    obtain ⟨rfl, v, hv, hR⟩ := h3
    exact ⟨.ret v, m', _, hR, h5.trans (.one rfl), rfl, rfl, rfl, rfl, fd, hf, (hres fd).trans hv⟩
  | pan ch =>
    obtain ⟨k', rfl⟩ := h4
    obtain ⟨rfl, hR⟩ := h3
    exact ⟨.pan ch, m', _, hR, h5, rfl, rfl⟩
end
end Go.Ev
namespace Go.Ev
open Go.RowKit

section
variable {tb : Tabs} {F : FC} {ops : Array Oper} {Q : PostA}
theorem callOp_ok {o : Oper} {ds : List Deferred} {m : Mem} {nt : Nat} {k : List AItem} {cs : List AFrame} {l : List Value} {t : T Value} (hl : l.length = nt) (ht : SlotsR l t) {K : Value → List Deferred → Mem → Prop} {kk : List AItem}
    (h : wpCallOp tb F o l ds m K (fun ch m => Q (.pan ch) l ds m)) (hfin : ∀ v ds2 m', K v ds2 m' → ∃ c1, finishA tb (mkF F t nt kk ds2) v m' = some c1 ∧ GoesOn tb F Q nt k cs ⟨c1, cs, m'⟩) {a : AM}
    (hstop : stepA tb a = doCall tb o (mkF F t nt kk ds) cs m) : GoesOn tb F Q nt k cs a := by
  unfold wpCallOp at h
  split at h
  · rename_i c hop2
    split at h
    · rename_i f hcal
      refine next_ok hl ht h (fun v m' h1 => hfin v ds m' h1) fun b hb => ?_
      rw [hstop]
      unfold doCall
      rw [hop2]
      simp only [hcal, mkF] at hb ⊢
      rw [ht.ev f, ht.evs]
      exact hb
    · rename_i b hcal
      split at h
      · obtain ⟨h1, h2, h3⟩ := h
        obtain ⟨c1, q1, q2⟩ := hfin _ _ _ h3
        refine q2.after (.step ?_ (.refl _))
        rw [hstop]
        unfold doCall
        rw [hop2]
        simp only [hcal, recoverA]
        simp only [mkF, h1, h2] at q1 ⊢
        simp only [am, q1]
      · exact h.elim
    · exact h.elim
  · rename_i c hop2
    obtain ⟨h1, d, h2, h3⟩ := h
    obtain ⟨c1, q1, q2⟩ := hfin _ _ _ h3
    refine q2.after (.step ?_ (.refl _))
    rw [hstop]
    unfold doCall
    rw [hop2]
    have hd2 := (ht.deferOf c o.type).trans h2
    simp only [mkF, hd2, deferA, h1] at q1 ⊢
    simp only [addDefer, am, q1]
  · rename_i x hop2
    obtain ⟨h1, h2⟩ := h
    have hx := ht.ev x
    generalize hv : evL l x = v at h1 h2 hx
    cases v <;> simp only [isIface] at h1 <;> first | (simp at h1; done) | skip
    rename_i ty v
    refine ⟨.pan _, l, t, ds, m, _, ht, hl, h2, ⟨_, rfl⟩, .step (b := ⟨raiseA (mkF F t nt kk ds) [{ v := .iface ty v, recovered := false }], cs, m⟩) ?_ (.refl _)⟩
    rw [hstop]
    unfold doCall
    rw [hop2]
    simp only [mkF, hx]
  · exact h.elim
end
section
variable (tb : Tabs) (ops : Array Oper)
/-- all that can be read or made ahead of the next write -/
def wpPass (K : List (Nat × Oper) → List Value → Mem → List Hist → Nat → Prop) : List (Nat × Oper) → List Nat → List (Nat × Oper) → List Value → Mem → List Hist → Nat → Prop
  | [], bl, rem, l, m, hist, mask => K rem.reverse l m hist mask
  | x :: xs, bl, rem, l, m, hist, mask =>
    match blockedBy bl x.2.after.toList with
    | true => wpPass K xs (x.1 :: bl) (x :: rem) l m hist mask
    | false => depsOk ops x.2 hist = true ∧ dstB x.2.dst l.length = true ∧ match wantedL l ops x.2.guard with
      | false => ∃ mask', maskA ops x.2 mask = some mask' ∧ wpPass K xs bl rem (setSl x.2.dst undef l) m (⟨x.1, x.2, [], .s, undef⟩ :: hist) mask'
      | true => match opA x.2.op tb (T.ofList l) m with
        | .r v => ∃ mask', maskA ops x.2 mask = some mask' ∧ wpPass K xs bl rem (setSl x.2.dst v l) m (⟨x.1, x.2, evsL l x.2.op.operands.toList, .r, v⟩ :: hist) mask'
        | .f ob mk => ∃ mask', maskA ops x.2 mask = some mask' ∧ wpPass K xs bl rem (setSl x.2.dst (mk m.next) l) (newObjA m ob) (⟨x.1, x.2, evsL l x.2.op.operands.toList, .f m.next, mk m.next⟩ :: hist) mask'
        | .e _ _ => wpPass K xs (x.1 :: bl) (x :: rem) l m hist mask
        | .c => wpPass K xs (x.1 :: bl) (x :: rem) l m hist mask
        | .bad => False
/-- it stands as it was come to -/
def CheckP (l : List Value) (m : Mem) (h : Hist) : Prop :=
  (match h.o.dst with | none => True | some d => evL l (.tmp d) = h.v) ∧ vEq 100 h.v h.v = true ∧
  match h.k with
  | .s => wantedL l ops h.o.guard = false
  | .f _ => wantedL l ops h.o.guard = true ∧ evsL l h.o.op.operands.toList = h.vs ∧ vEqL h.vs h.vs = true
  | .r => wantedL l ops h.o.guard = true ∧ evsL l h.o.op.operands.toList = h.vs ∧ vEqL h.vs h.vs = true ∧ (isPure h.o.op = true ∨ opA h.o.op tb (T.ofList l) m = .r h.v)
def recheckP (l : List Value) (m : Mem) (after : List Edge) : List Hist → Prop
  | [] => True
  | h :: hs => (edgeFrom h.i after = true ∨ CheckP tb ops l m h) ∧ recheckP l m after hs
variable (F : FC) (Q : PostA)
/-- a region that draws its order -/
def wpDr : Nat → List (Nat × Oper) → List Value → List Deferred → Mem → List Hist → Nat → Prop
  | 0, _, _, _, _, _, _ => False
  | n + 1, rem, l, ds, m, hist, mask => wpPass tb ops (fun rem l m hist mask =>
      match rem with
      | [] => Q .normal l ds m
      | (i, o) :: r => (alone [i] r && depsOk ops o hist && wantedL l ops o.guard) = true ∧ dstB o.dst l.length = true ∧
        match opA o.op tb (T.ofList l) m with
        | .e v m' => recheckP tb ops (setSl o.dst v l) m' o.after.toList hist ∧ wpDr n r (setSl o.dst v l) ds m' hist mask
        | .c => wpCallOp tb F o l ds m (fun v ds m' => recheckP tb ops (setSl o.dst v l) m' o.after.toList hist ∧ wpDr n r (setSl o.dst v l) ds m' hist mask) (fun ch m => Q (.pan ch) l ds m)
        | _ => False) rem [] [] l m hist mask
variable {tb ops F Q}
theorem wpPass_ok {K : List (Nat × Oper) → List Value → Mem → List Hist → Nat → Prop} : ∀ (xs : List (Nat × Oper)) (bl : List Nat) (rem : List (Nat × Oper)) (l : List Value) (t : T Value) (m : Mem) (hist : List Hist) (mask : Nat), SlotsR l t → wpPass tb ops K xs bl rem l m hist mask →
    ∃ t1 l1 m1 rem1 hist1 mask1, drPass tb ops l.length xs bl rem t m hist mask = .ok t1 m1 rem1 hist1 mask1 ∧ SlotsR l1 t1 ∧ l1.length = l.length ∧ K rem1 l1 m1 hist1 mask1
  | [], bl, rem, l, t, m, hist, mask, ht, h => ⟨t, l, m, _, hist, mask, rfl, ht, rfl, h⟩
  | x :: xs, bl, rem, l, t, m, hist, mask, ht, h => by
    have hstep : ∀ bl rem t m hist mask, drPass tb ops l.length (x :: xs) bl rem t m hist mask = drStep tb ops l.length x xs (drPass tb ops l.length xs) bl rem t m hist mask := fun _ _ _ _ _ _ => rfl
    unfold wpPass at h
    split at h
    · rename_i hb
      obtain ⟨t1, l1, m1, rem1, hist1, mask1, p1, p2⟩ := wpPass_ok xs _ _ l t m hist mask ht h
      exact ⟨t1, l1, m1, rem1, hist1, mask1, by rw [hstep]; simp only [drStep, hb]; exact p1, p2⟩
    · rename_i hb
      obtain ⟨hdep, hd, h⟩ := h
      have hw := ht.wanted ops x.2.guard
      have hop := ht.opA (tb := tb) x.2.op m
      have go : ∀ {v : Value} {m2 : Mem} {hi : Hist}, (∃ mask', maskA ops x.2 mask = some mask' ∧ wpPass tb ops K xs bl rem (setSl x.2.dst v l) m2 (hi :: hist) mask') →
          (∀ t' mask', putT t l.length x.2.dst v = some t' → maskA ops x.2 mask = some mask' → drPass tb ops l.length (x :: xs) bl rem t m hist mask = drPass tb ops l.length xs bl rem t' m2 (hi :: hist) mask') →
          ∃ t1 l1 m1 rem1 hist1 mask1, drPass tb ops l.length (x :: xs) bl rem t m hist mask = .ok t1 m1 rem1 hist1 mask1 ∧ SlotsR l1 t1 ∧ l1.length = l.length ∧ K rem1 l1 m1 hist1 mask1 := by
        rintro v m2 hi ⟨mask', hm, h⟩ he
        obtain ⟨t', p1, p2⟩ := ht.put (v := v) (dstB_ok hd)
        obtain ⟨t1, l1, m1, rem1, hist1, mask1, q1, q2, q3, q4⟩ := wpPass_ok xs _ _ _ t' m2 _ mask' p2 h
        rw [setSl_length] at q1 q3
        exact ⟨t1, l1, m1, rem1, hist1, mask1, (he t' mask' p1 hm).trans q1, q2, q3, q4⟩
      split at h
      · rename_i hf
        exact go h fun t' mask' p1 p2 => by rw [hstep]; simp only [drStep, hb, hdep, hw.trans hf, drPut, p1, p2]
      · rename_i hf
        split at h
        · rename_i v ho
          exact go h fun t' mask' p1 p2 => by rw [hstep]; simp only [drStep, hb, hdep, hw.trans hf, hop.trans ho, drK, drPut, p1, p2, ht.evs]
        · rename_i ob mk ho
          exact go h fun t' mask' p1 p2 => by rw [hstep]; simp only [drStep, hb, hdep, hw.trans hf, hop.trans ho, drK, drPut, p1, p2, ht.evs]
        · rename_i ho
          obtain ⟨t1, l1, m1, rem1, hist1, mask1, p1, p2⟩ := wpPass_ok xs _ _ l t m hist mask ht h
          exact ⟨t1, l1, m1, rem1, hist1, mask1, by rw [hstep]; simp only [drStep, hb, hdep, hw.trans hf, hop.trans ho, drK]; exact p1, p2⟩
        · rename_i ho
          obtain ⟨t1, l1, m1, rem1, hist1, mask1, p1, p2⟩ := wpPass_ok xs _ _ l t m hist mask ht h
          exact ⟨t1, l1, m1, rem1, hist1, mask1, by rw [hstep]; simp only [drStep, hb, hdep, hw.trans hf, hop.trans ho, drK]; exact p1, p2⟩
        · exact h.elim
theorem recheckP_ok {l : List Value} {t : T Value} {m : Mem} {after : List Edge} (ht : SlotsR l t) : ∀ {hs : List Hist}, recheckP tb ops l m after hs → recheck tb ops t m after hs = true
  | [], _ => rfl
  | h :: hs, ⟨h1, h2⟩ => by
    unfold recheck
    cases he : edgeFrom h.i after with
    | true => exact recheckP_ok ht h2
    | false =>
      rw [he] at h1
      obtain ⟨c1, c2, c3⟩ := h1.resolve_left (by simp)
      have hc : checkH tb ops t m h = true := by
        clear h2 h1 he
        obtain ⟨i, o, vs, k, v⟩ := h
        have e1 : ∀ d, o.dst = some d → vEq 100 (ev t (.tmp d)) v = true := fun d hd => by
          simp only [hd] at c1
          rw [ht.ev, c1]; exact c2
        clear c1
        obtain ⟨dst, op, type, pos, aft, guard⟩ := o
        unfold checkH
        simp only at e1 c2 c3 ⊢
        have e2 : (match dst with | none => true | some d => vEq 100 (ev t (.tmp d)) v) = true := by
          cases dst with
          | none => rfl
          | some d => exact e1 d rfl
        cases dst <;> simp only at e2 ⊢ <;> (try rw [e2]) <;> (try simp only) <;>
        (cases k with
        | s => simp only at c3 ⊢; rw [ht.wanted, c3]; rfl
        | f b =>
          obtain ⟨d1, d2, d3⟩ := c3
          simp only [ht.wanted, d1, ht.evs, d2, d3, Bool.and_self]
        | r =>
          obtain ⟨d1, d2, d3, d4⟩ := c3
          simp only [ht.wanted, d1, ht.evs, d2, d3, Bool.and_self]
          rcases d4 with d4 | d4
          · simp only [d4]
          · simp only [ht.opA, d4, c2]
            split <;> rfl)
      rw [hc]
      exact recheckP_ok ht h2
theorem wpDr_ok : ∀ (n : Nat) (rem : List (Nat × Oper)) (l : List Value) (ds : List Deferred) (m : Mem) (hist : List Hist) (mask : Nat) (t : T Value) (k : List AItem) (cs : List AFrame), SlotsR l t → wpDr tb ops F Q n rem l ds m hist mask →
    GoesOn tb F Q l.length k cs ⟨mkF F t l.length (.dr ops rem hist mask :: k) ds, cs, m⟩
  | 0, _, _, _, _, _, _, _, _, _, _, h => h.elim
  | n + 1, rem, l, ds, m, hist, mask, t, k, cs, ht, h => by
    obtain ⟨t1, l1, m1, rem1, hist1, mask1, p1, p2, p3, p4⟩ := wpPass_ok rem [] [] l t m hist mask ht h
    have hs : stepA tb ⟨mkF F t l.length (.dr ops rem hist mask :: k) ds, cs, m⟩ = drWrite tb ops rem1 hist1 mask1 k F.fn t1 l.length ds F.kind F.ro cs m1 := by
      simp only [stepA, stepFr, mkF, runFrame, itemA, drItem, p1]
    cases rem1 with
    | nil => exact ⟨.normal, l1, t1, ds, m1, _, p2, p3, p4, rfl, .step (hs.trans rfl) (.refl _)⟩
    | cons x r =>
      obtain ⟨i, o⟩ := x
      obtain ⟨h1, h2, h3⟩ := p4
      have hw := p2.wanted ops o.guard
      have hop := p2.opA (tb := tb) o.op m1
      rw [← hw] at h1
      have hfin : ∀ v ds2 m', recheckP tb ops (setSl o.dst v l1) m' o.after.toList hist1 ∧ wpDr tb ops F Q n r (setSl o.dst v l1) ds2 m' hist1 mask1 →
          ∃ c1, finishA tb (mkF F t1 l.length (.dr ops ((i, o) :: r) hist1 mask1 :: k) ds2) v m' = some c1 ∧ GoesOn tb F Q l.length k cs ⟨c1, cs, m'⟩ := by
        rintro v ds2 m' ⟨g1, g2⟩
        obtain ⟨t', q1, q2⟩ := p2.put (v := v) (dstB_ok h2)
        have ih := wpDr_ok n r (setSl o.dst v l1) ds2 m' hist1 mask1 t' k cs q2 g2
        rw [setSl_length, p3] at ih
        rw [p3] at q1
        exact ⟨_, by simp only [finishA, mkF, q1, recheckP_ok q2 g1]; try rfl, ih⟩
      split at h3
      · rename_i v m' ho
        obtain ⟨c1, q1, q2⟩ := hfin v ds m' h3
        refine q2.after (.step (hs.trans ?_) (.refl _))
        simp only [drWrite, h1, hop.trans ho]
        simp only [frm, mkF] at q1 ⊢
        simp only [q1, am]
      · rename_i ho
        refine callOp_ok p3 p2 h3 hfin (hs.trans ?_)
        simp only [drWrite, h1, hop.trans ho]
        rfl
      · exact h3.elim
theorem wp_draw {id : Nat} {l : List Value} {ds : List Deferred} {m : Mem} (n : Nat) (h : wpDr tb ops F Q n ((List.range ops.toList.length).zip ops.toList) l ds m [] 0) : wpC tb F (.region id ops true) l ds m Q := fun t k cs ht => by
  obtain ⟨e, l', t', ds', m', b, h1, h2, h3, h4, h5⟩ := wpDr_ok n _ l ds m [] 0 t k cs ht h
  exact ⟨e, l', t', ds', m', b, h1, h2, h3, h4, .step rfl h5.to⟩
end
end Go.Ev
