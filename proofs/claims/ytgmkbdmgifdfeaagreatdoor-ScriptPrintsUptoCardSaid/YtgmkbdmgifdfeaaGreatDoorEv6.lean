/- Regions that draw their order. -/
import Derived.Test.YtgmkbdmgifdfeaaGreatDoorEv5
import Derived.Control
import Derived.Test.YtgmkbdmgifdfeaaGreatDoorEv1
import Derived.Calls
set_option linter.unusedSimpArgs false
set_option linter.unusedVariables false
namespace Go.Ev

/-- an order that puts ahead of each what its edges name -/
def Valid (ops : Array Oper) : List Nat → Prop
  | [] => True
  | i :: l => i ∉ l ∧ (∀ o, ops.toList[i]? = some o → ∀ e ∈ o.after.toList, Region.binds .any e = true → e.on ∉ i :: l) ∧ Valid ops l
theorem binds_any {md : Region.Mode} {e : Edge} (h : Region.binds .any e = true) : Region.binds md e = true := by
  unfold Region.binds at h ⊢
  cases hg : e.ground <;> rw [hg] at h <;> first | rfl | (simp at h)
theorem drawBy_some {md : Region.Mode} {ops : Array Oper} {r : Nat → Nat} (h : drawBy md ops.toList.zipIdx ops.toList.length r = true) {i : Nat} {o : Oper} (ho : ops.toList[i]? = some o) : ∀ e ∈ o.after.toList, Region.binds md e = true → e.on < ops.size ∧ r e.on < r i := by
  intro e he hb
  unfold drawBy at h
  rw [List.all_eq_true] at h
  have hm : (o, i) ∈ ops.toList.zipIdx := by
    rw [List.mem_zipIdx_iff_getElem?]; exact ho
  have := h _ hm
  simp only [List.all_eq_true] at this
  have := this e he
  rw [hb] at this
  simpa [Nat.blt_eq] using this
theorem drawMd_some {md : Region.Mode} {ops : Array Oper} (h : drawMd ops md = true) : ∃ r : Nat → Nat, ∀ (i : Nat) (o : Oper), ops.toList[i]? = some o → ∀ e ∈ o.after.toList, Region.binds md e = true → e.on < ops.size ∧ r e.on < r i := by
  unfold drawMd at h
  split at h
  · rename_i h1; exact ⟨fun x => x, fun i o ho => drawBy_some h1 ho⟩
  · exact ⟨fun x => rankIn x (topo md ops.toList.zipIdx ops.toList.length []) 0, fun i o ho => drawBy_some h ho⟩
theorem drawOk_some {ops : Array Oper} (h : drawOk ops = true) (md : Region.Mode) : ∃ r : Nat → Nat, ∀ (i : Nat) (o : Oper), ops.toList[i]? = some o → ∀ e ∈ o.after.toList, Region.binds md e = true → e.on < ops.size ∧ r e.on < r i := by
  unfold drawOk at h
  simp only [Bool.and_eq_true] at h
  cases md
  · exact drawMd_some h.1.2
  · exact drawMd_some h.2
  · exact drawMd_some h.1.1
section
variable (md : Region.Mode) (ops : Array Oper)
/-- what the model's own listing keeps -/
structure LinI (listed : Array Bool) (acc : List Nat) : Prop where
  size : listed.size = ops.size
  nd : acc.Nodup
  mem : ∀ i, i ∈ acc ↔ listed[i]? = some true
  valid : ∀ a i b, acc = a ++ i :: b → ∀ o, ops.toList[i]? = some o → ∀ e ∈ o.after.toList, Region.binds md e = true → e.on ∈ b
def LinOut (res : List Nat) : Prop := res.Nodup ∧ (∀ i, i < ops.size → i ∈ res) ∧ (∀ i ∈ res, i < ops.size) ∧
      (∀ a i b, res = a ++ i :: b → ∀ o, ops.toList[i]? = some o → ∀ e ∈ o.after.toList, Region.binds md e = true → e.on ∈ b)
theorem LinI.out {listed : Array Bool} {acc : List Nat} (hI : LinI md ops listed acc) (hall : ∀ i, i < ops.size → listed[i]? = some true) : LinOut md ops acc :=
  ⟨hI.nd, fun i hi => (hI.mem i).2 (hall i hi), fun i hi => by
    have := (Array.getElem?_eq_some_iff.1 ((hI.mem i).1 hi)).1
    rw [hI.size] at this; exact this, hI.valid⟩
theorem lin_go (hb : drawOk ops = true) : ∀ (fuel t : Nat) (listed : Array Bool) (acc : List Nat), LinI md ops listed acc → listed.toList.countP (!·) ≤ fuel →
    ∃ res, Region.linearise.go md ops fuel t listed acc = res.reverse ∧ LinOut md ops res
  | 0, t, listed, acc, hI, hf => by
    refine ⟨acc, rfl, hI.out md ops fun i hi => ?_⟩
    have h0 : listed.toList.countP (!·) = 0 := by omega
    rw [List.countP_eq_zero] at h0
    have hlt : i < listed.size := by rw [hI.size]; exact hi
    have := h0 listed[i] (by simp)
    rw [Array.getElem?_eq_getElem hlt]
    simpa using this
  | fuel + 1, t, listed, acc, hI, hf => by
    simp only [Region.linearise.go]
    generalize hrs : ((List.range ops.size).filter fun i => !listed.getD i true && ((ops[i]?).map (·.after.all fun e => !Region.binds md e || listed.getD e.on false)).getD false) = rs
    split
    · rename_i i hi
      have hmem : i ∈ rs := List.mem_of_getElem? hi
      rw [← hrs, List.mem_filter] at hmem
      obtain ⟨h1, h2⟩ := hmem
      rw [List.mem_range] at h1
      rw [Bool.and_eq_true] at h2
      have hls : i < listed.size := by rw [hI.size]; exact h1
      have hnl : listed[i] = false := by
        have := h2.1
        simp only [Array.getD_eq_getD_getElem?, Array.getElem?_eq_getElem hls, Option.getD_some] at this
        simpa using this
      refine lin_go hb fuel _ _ _ ⟨by simp [hI.size], ?_, ?_, ?_⟩ ?_
      · rw [List.nodup_cons]
        refine ⟨fun hm => ?_, hI.nd⟩
        have := (hI.mem i).1 hm
        rw [Array.getElem?_eq_getElem hls, hnl] at this
        simp at this
      · intro j
        rw [List.mem_cons, hI.mem j, Array.getElem?_setIfInBounds]
        by_cases e : i = j
        · subst e; simp [hls]
        · simp [e, fun h : j = i => e h.symm]
          exact fun h => absurd h.symm e
      · intro a j b hab o ho e he hbd
        cases a with
        | nil =>
          simp only [List.nil_append, List.cons.injEq] at hab
          obtain ⟨rfl, rfl⟩ := hab
          have h3 := h2.2
          have ho' : ops[i]? = some o := by simpa using ho
          rw [ho'] at h3
          simp only [Option.map_some, Option.getD_some, Array.all_eq_true_iff_forall_mem] at h3
          have := h3 e (by simpa using he)
          rw [hbd] at this
          simp only [Bool.not_true, Bool.false_or] at this
          refine (hI.mem e.on).2 ?_
          rw [Array.getD_eq_getD_getElem?] at this
          cases hq : listed[e.on]? with
          | none => rw [hq] at this; simp at this
          | some q => rw [hq] at this; simp at this; rw [this]
        | cons x a =>
          simp only [List.cons_append, List.cons.injEq] at hab
          obtain ⟨rfl, hab⟩ := hab
          exact hI.valid a j b hab o ho e he hbd
      · have : (listed.setIfInBounds i true).toList = listed.toList.set i true := by simp
        rw [this, List.countP_set (h := by simpa using hls)]
        have hg : listed.toList[i]'(by simpa using hls) = false := by simpa using hnl
        rw [hg]
        have hpos : 0 < listed.toList.countP (!·) := List.countP_pos_iff.2 ⟨false, by rw [← hg]; exact List.getElem_mem _, rfl⟩
        simp only [Bool.not_false, if_true, Bool.not_true, Bool.false_eq_true, if_false]
        omega
    · rename_i hn
      refine ⟨acc, rfl, hI.out md ops ?_⟩
      have hrn : rs = [] := by
        cases rs with
        | nil => rfl
        | cons x l =>
          rw [List.getElem?_eq_none_iff] at hn
          have := Nat.mod_lt t (show 0 < (x :: l).length by simp)
          omega
      -- the first that is not listed could be listed
      obtain ⟨r, hr⟩ := drawOk_some hb md
      suffices all : ∀ n i, r i = n → i < ops.size → listed[i]? = some true from fun i hi => all _ i rfl hi
      intro n
      induction n using Nat.strongRecOn with
      | _ n ih =>
        intro i hin hi
        have hls : i < listed.size := by rw [hI.size]; exact hi
        cases hq : listed[i] with
        | true => rw [Array.getElem?_eq_getElem hls, hq]
        | false =>
          exfalso
          have : i ∈ rs := by
            rw [← hrs, List.mem_filter]
            refine ⟨List.mem_range.2 hi, ?_⟩
            rw [Bool.and_eq_true]
            refine ⟨by simp [Array.getD_eq_getD_getElem?, Array.getElem?_eq_getElem hls, hq], ?_⟩
            have ho : ops[i]? = some ops[i] := Array.getElem?_eq_getElem hi
            rw [ho]
            simp only [Option.map_some, Option.getD_some, Array.all_eq_true_iff_forall_mem]
            intro e he
            cases hbd : Region.binds md e with
            | false => rfl
            | true =>
              obtain ⟨hlt, hrk⟩ := hr i ops[i] (by simp) e (by simpa using he) hbd
              have := ih (r e.on) (by omega) e.on rfl hlt
              simp [Array.getD_eq_getD_getElem?, this]
          rw [hrn] at this
          simp at this
end
theorem valid_of {md : Region.Mode} {ops : Array Oper} {res : List Nat} (h : LinOut md ops res) : Valid ops res.reverse ∧ (∀ i, i ∈ res.reverse ↔ i < ops.size) := by
  refine ⟨?_, fun i => by rw [List.mem_reverse]; exact ⟨h.2.2.1 i, h.2.1 i⟩⟩
  obtain ⟨h1, _, _, h4⟩ := h
  have key : ∀ (l pre : List Nat), res.reverse = pre ++ l → Valid ops l := by
    intro l
    induction l with
    | nil => intro pre _; trivial
    | cons i l ih =>
      intro pre hp
      have hr : res = l.reverse ++ i :: pre.reverse := by
        have := congrArg List.reverse hp
        simpa using this
      refine ⟨?_, ?_, ih (pre ++ [i]) (by rw [hp]; simp)⟩
      · rw [hr, List.nodup_append] at h1
        intro hm
        exact (h1.2.2 i (by simpa using hm) i (by simp)) rfl
      · intro o ho e he hbd
        have := h4 _ _ _ hr o ho e he (binds_any hbd)
        rw [hr, List.nodup_append] at h1
        obtain ⟨n1, n2, n3⟩ := h1
        rw [List.nodup_cons] at n2
        intro hm
        rcases List.mem_cons.1 hm with e0 | hm
        · rw [e0] at this; exact n2.1 this
        · exact n3 e.on (by simpa using hm) e.on (List.mem_cons_of_mem _ this) rfl
  exact key _ [] rfl
theorem schedule_valid {ops : Array Oper} (hb : drawOk ops = true) (mixed : Bool) (t : Nat) : Valid ops (Region.schedule mixed ops t) ∧ ∀ i, i ∈ Region.schedule mixed ops t ↔ i < ops.size := by
  have key : ∀ md t, Valid ops (Region.linearise md ops t) ∧ ∀ i, i ∈ Region.linearise md ops t ↔ i < ops.size := by
    intro md t
    obtain ⟨res, h1, h2⟩ := lin_go md ops hb ops.size t (Array.replicate ops.size false) [] ⟨by simp, by simp, by
      intro i
      simp [Array.getElem?_replicate], by
      intro a i b hab
      simp at hab⟩ (Nat.le_trans List.countP_le_length (by simp))
    unfold Region.linearise
    rw [h1]
    exact valid_of h2
  unfold Region.schedule
  split
  · exact key _ _
  · exact key _ _
end Go.Ev
namespace Go.Ev

theorem putT_some {t t' : T Value} {nt d : Nat} {v : Value} (h : putT t nt (some d) v = some t') : d < nt ∧ t' = t.set d v := by
  unfold putT at h
  simp only at h
  split at h <;> first | (simp at h; done) | skip
  rename_i hb
  refine ⟨by simpa [Nat.blt_eq] using hb, ?_⟩
  split at h
  · rename_i he; simp only [Option.some.injEq] at h; rw [he]; exact h.symm
  · rename_i he; simp only [Option.some.injEq] at h; rw [he]; exact h.symm
theorem putT_none {t t' : T Value} {nt : Nat} {v : Value} (h : putT t nt none v = some t') : t' = t := by
  unfold putT at h
  simp only [Option.some.injEq] at h; exact h.symm
theorem ev_set (t : T Value) (d : Nat) (v : Value) (x : Nat) : ev (t.set d v) (.tmp x) = if x = d then v else ev t (.tmp x) := by
  simp only [ev, T.get_set]
  by_cases h : x = d
  · rw [if_pos h, if_pos h]
  · rw [if_neg h, if_neg h]
theorem ev_put {t t' : T Value} {nt : Nat} {dst : Option Tmp} {v : Value} (h : putT t nt dst v = some t') (x : Nat) : ev t' (.tmp x) = if dst = some x then v else ev t (.tmp x) := by
  cases dst with
  | none => rw [putT_none h]; simp
  | some d =>
    rw [(putT_some h).2, ev_set]
    by_cases e : x = d
    · subst e; simp
    · rw [if_neg e, if_neg (by simpa using fun h : d = x => e h.symm)]
theorem ev_const (t t' : T Value) : ∀ x : Operand, (∀ d, x = .tmp d → ev t (.tmp d) = ev t' (.tmp d)) → ev t x = ev t' x
  | .tmp d, h => h d rfl
  | .const v, _ => rfl
  | .global g, _ => rfl
  | .func f, _ => rfl

/-- the slots that an operation reads -/
def reads (ops : Array Oper) (o : Oper) (d : Nat) : Prop := .tmp d ∈ o.op.operands.toList ∨ ∃ j wn oj, o.guard = some (j, wn) ∧ ops.toList[j]? = some oj ∧ oj.dst = some d
theorem bit_or (k t d : Nat) : Nat.testBit (Nat.lor k (Nat.shiftLeft 1 t)) d = true ↔ Nat.testBit k d = true ∨ t = d := by
  show (k ||| (1 <<< t)).testBit d = true ↔ _
  rw [Nat.testBit_or, Bool.or_eq_true, Nat.one_shiftLeft, Nat.testBit_two_pow]
  simp
theorem maskOp_bit : ∀ (l : List Operand) (k d : Nat), Nat.testBit (maskOp l k) d = true ↔ Nat.testBit k d = true ∨ Operand.tmp d ∈ l
  | [], k, d => by simp [maskOp]
  | x :: l, k, d => by
    cases x with
    | tmp t =>
      simp only [maskOp]
      rw [maskOp_bit l, bit_or]
      constructor
      · rintro ((h | h) | h)
        · exact .inl h
        · subst h; exact .inr (by simp)
        · exact .inr (List.mem_cons_of_mem _ h)
      · rintro (h | h)
        · exact .inl (.inl h)
        · rcases List.mem_cons.1 h with h | h
          · injection h with h; exact .inl (.inr h.symm)
          · exact .inr h
    | const v => simp only [maskOp]; rw [maskOp_bit l]; simp
    | global g => simp only [maskOp]; rw [maskOp_bit l]; simp
    | func f => simp only [maskOp]; rw [maskOp_bit l]; simp
theorem namesA_bit (ops : Array Oper) (o : Oper) (k d : Nat) : Nat.testBit (namesA ops o k) d = true ↔ Nat.testBit k d = true ∨ reads ops o d := by
  unfold namesA reads
  cases hg : o.guard with
  | none => simp only; rw [maskOp_bit]; simp
  | some g =>
    obtain ⟨j, wn⟩ := g
    simp only
    cases hj : ops.toList[j]? with
    | none =>
      simp only; rw [maskOp_bit]
      constructor
      · rintro (h | h); exact .inl h; exact .inr (.inl h)
      · rintro (h | h | ⟨j', wn', oj, h1, h2, h3⟩)
        · exact .inl h
        · exact .inr h
        · simp only [Option.some.injEq, Prod.mk.injEq] at h1; obtain ⟨rfl, rfl⟩ := h1; rw [hj] at h2; simp at h2
    | some oj =>
      simp only
      cases hd : oj.dst with
      | none =>
        simp only; rw [maskOp_bit]
        constructor
        · rintro (h | h); exact .inl h; exact .inr (.inl h)
        · rintro (h | h | ⟨j', wn', oj', h1, h2, h3⟩)
          · exact .inl h
          · exact .inr h
          · simp only [Option.some.injEq, Prod.mk.injEq] at h1; obtain ⟨rfl, rfl⟩ := h1; rw [hj] at h2; obtain rfl := Option.some.inj h2; rw [hd] at h3; simp at h3
      | some q =>
        simp only; rw [maskOp_bit, bit_or]
        constructor
        · rintro ((h | h) | h)
          · exact .inl h
          · subst h; exact .inr (.inr ⟨j, wn, oj, rfl, hj, hd⟩)
          · exact .inr (.inl h)
        · rintro (h | h | ⟨j', wn', oj', h1, h2, h3⟩)
          · exact .inl (.inl h)
          · exact .inr h
          · simp only [Option.some.injEq, Prod.mk.injEq] at h1; obtain ⟨rfl, rfl⟩ := h1; rw [hj] at h2; obtain rfl := Option.some.inj h2; rw [hd] at h3; exact .inl (.inr (Option.some.inj h3))
theorem maskA_some {ops : Array Oper} {o : Oper} {k k' : Nat} (h : maskA ops o k = some k') :
    (∀ d, o.dst = some d → Nat.testBit k d = false ∧ ¬ reads ops o d) ∧ (∀ d, Nat.testBit k d = true → Nat.testBit k' d = true) ∧ (∀ d, reads ops o d → Nat.testBit k' d = true) ∧ (∀ d, o.dst = some d → Nat.testBit k' d = true) := by
  unfold maskA at h
  cases hd : o.dst with
  | none =>
    rw [hd] at h
    simp only [Option.some.injEq] at h; subst h
    exact ⟨by simp, fun d h => (namesA_bit _ _ _ _).2 (.inl h), fun d h => (namesA_bit _ _ _ _).2 (.inr h), by simp⟩
  | some q =>
    rw [hd] at h
    simp only at h
    split at h <;> first | (simp at h; done) | skip
    rename_i hb
    simp only [Option.some.injEq] at h; subst h
    refine ⟨?_, fun d h => (bit_or _ _ _).2 (.inl ((namesA_bit _ _ _ _).2 (.inl h))), fun d h => (bit_or _ _ _).2 (.inl ((namesA_bit _ _ _ _).2 (.inr h))), ?_⟩
    · intro d he
      obtain rfl := Option.some.inj he
      refine ⟨?_, fun hr => ?_⟩
      · cases hk : Nat.testBit k q with
        | false => rfl
        | true => rw [(namesA_bit ops o k q).2 (.inl hk)] at hb; simp at hb
      · rw [(namesA_bit ops o k q).2 (.inr hr)] at hb; simp at hb
    · intro d he
      exact (bit_or _ _ _).2 (.inr (Option.some.inj he))
theorem edgeFrom_some {i : Nat} : ∀ {l : List Edge}, edgeFrom i l = true → ∃ e ∈ l, e.on = i ∧ Region.binds .any e = true
  | [], h => by simp [edgeFrom] at h
  | e :: l, h => by
    simp only [edgeFrom] at h
    split at h
    · rename_i hb
      split at h
      · rename_i hq
        exact ⟨e, by simp, Nat.eq_of_beq_eq_true hb, hq⟩
      · obtain ⟨e', h1, h2⟩ := edgeFrom_some h; exact ⟨e', List.mem_cons_of_mem _ h1, h2⟩
    · obtain ⟨e', h1, h2⟩ := edgeFrom_some h; exact ⟨e', List.mem_cons_of_mem _ h1, h2⟩
theorem depsOk_some {ops : Array Oper} {o : Oper} : ∀ {l : List Hist}, depsOk ops o l = true → ∀ h ∈ l, ∀ d, h.o.dst = some d → reads ops o d → edgeFrom h.i o.after.toList = true
  | [], _, _, hm => by simp at hm
  | g :: l, hk, h, hm => by
    intro d hd hr
    simp only [depsOk] at hk
    rcases List.mem_cons.1 hm with rfl | hm
    · rw [hd] at hk
      simp only at hk
      rw [(namesA_bit ops o 0 d).2 (.inr hr)] at hk
      simp only at hk
      split at hk
      · assumption
      · simp at hk
    · split at hk
      · exact depsOk_some hk h hm d hd hr
      · split at hk
        · exact depsOk_some hk h hm d hd hr
        · split at hk
          · exact depsOk_some hk h hm d hd hr
          · simp at hk
theorem blockedBy_some {bl : List Nat} : ∀ {l : List Edge}, blockedBy bl l = true → ∃ e ∈ l, e.on ∈ bl ∧ Region.binds .any e = true
  | [], h => by simp [blockedBy] at h
  | e :: l, h => by
    simp only [blockedBy] at h
    split at h
    · rename_i hq
      split at h
      · rename_i hb
        rw [List.any_eq_true] at hb
        obtain ⟨y, hy, he⟩ := hb
        have := Nat.eq_of_beq_eq_true he
        exact ⟨e, by simp, by rw [this]; exact hy, hq⟩
      · obtain ⟨e', h1, h2⟩ := blockedBy_some h; exact ⟨e', List.mem_cons_of_mem _ h1, h2⟩
    · obtain ⟨e', h1, h2⟩ := blockedBy_some h; exact ⟨e', List.mem_cons_of_mem _ h1, h2⟩
/-- what waits for another one is not the next one of the model's -/
theorem alone_head {ops : Array Oper} {x : Nat} {sched : List Nat} (hv : Valid ops (x :: sched)) : ∀ {rem : List (Nat × Oper)} {bl : List Nat}, alone bl rem = true → (∀ y ∈ bl, y ∈ x :: sched) → (∀ z ∈ rem, z.1 ∈ x :: sched ∧ ops.toList[z.1]? = some z.2) → ∀ z ∈ rem, z.1 ≠ x
  | [], bl, _, _, _ => by simp
  | (i, o) :: l, bl, h, hbl, hrem => by
    simp only [alone] at h
    split at h <;> first | (simp at h; done) | skip
    rename_i hb
    obtain ⟨hi, ho⟩ := hrem (i, o) (by simp)
    intro z hz
    rcases List.mem_cons.1 hz with rfl | hz
    · intro e
      simp only at e; subst e
      obtain ⟨e, he, h1, h2⟩ := blockedBy_some hb
      exact hv.2.1 o ho e he h2 (hbl _ h1)
    · exact alone_head hv h (fun y hy => by
        rcases List.mem_cons.1 hy with rfl | hy
        · exact hi
        · exact hbl y hy) (fun z hz => hrem z (List.mem_cons_of_mem _ hz)) z hz
theorem wantedA_iff {t : T Value} {ops : Array Oper} {j : Nat} {wn : Bool} : wantedA t ops (some (j, wn)) = true ↔ ∃ oj d, ops.toList[j]? = some oj ∧ oj.dst = some d ∧ ev t (.tmp d) = .bool wn := by
  unfold wantedA
  simp only
  cases hj : ops.toList[j]? with
  | none => simp
  | some oj =>
    simp only
    cases hd : oj.dst with
    | none => simp [hd]
    | some d =>
      simp only
      constructor
      · intro h
        refine ⟨oj, d, rfl, hd, ?_⟩
        simp only [ev]
        split at h <;> first | (simp at h; done) | skip
        rename_i b hb
        rw [hb]
        simp only
        split at h <;> first | rfl | (simp at h)
      · rintro ⟨oj', d', h1, h2, h3⟩
        obtain rfl := Option.some.inj h1
        rw [hd] at h2
        obtain rfl := Option.some.inj h2
        simp only [ev] at h3
        cases hg : t.get d with
        | none => rw [hg] at h3; simp [undef] at h3
        | some v =>
          rw [hg] at h3
          simp only at h3
          subst h3
          cases wn <;> rfl
section
variable {tb : Tabs} {ops : Array Oper} {o : Oper} {t t' : T Value} (h : ∀ d, reads ops o d → ev t (.tmp d) = ev t' (.tmp d))
include h
theorem wantedA_congr : wantedA t ops o.guard = wantedA t' ops o.guard := by
  cases hg : o.guard with
  | none => rfl
  | some g =>
    obtain ⟨j, wn⟩ := g
    have : wantedA t ops (some (j, wn)) = true ↔ wantedA t' ops (some (j, wn)) = true := by
      rw [wantedA_iff, wantedA_iff]
      constructor
      · rintro ⟨oj, d, h1, h2, h3⟩
        exact ⟨oj, d, h1, h2, by rw [← h d (.inr ⟨j, wn, oj, hg, h1, h2⟩)]; exact h3⟩
      · rintro ⟨oj, d, h1, h2, h3⟩
        exact ⟨oj, d, h1, h2, by rw [h d (.inr ⟨j, wn, oj, hg, h1, h2⟩)]; exact h3⟩
    cases h1 : wantedA t ops (some (j, wn)) <;> cases h2 : wantedA t' ops (some (j, wn)) <;> simp_all
theorem ops_congr : ∀ x ∈ o.op.operands.toList, ev t x = ev t' x := fun x hx => ev_const t t' x fun d e => h d (.inl (by rw [← e]; exact hx))
theorem opA_congr' (m : Mem) : opA o.op tb t m = opA o.op tb t' m := opA_congr (ops_congr h) m
theorem evs_congr' : evs t o.op.operands.toList = evs t' o.op.operands.toList := evs_congr (ops_congr h)
end
end Go.Ev
namespace Go.Ev
open Go.RowKit

section
variable (tb : Tabs) (E : Env) (m : Mem) (lo hi : Nat) (ops : Array Oper) (t : T Value) (nt : Nat)
/-- what is known of an operation that was done ahead of the model, whatever the memory does -/
def HFact (h : Hist) : Prop :=
  (∀ d, h.o.dst = some d → ev t (.tmp d) = h.v ∧ d < nt) ∧
  match h.k with
  | .s => wantedA t ops h.o.guard = false ∧ h.v = undef
  | .r => wantedA t ops h.o.guard = true ∧ evs t h.o.op.operands.toList = h.vs ∧ (isPure h.o.op = true → ∀ m, opA h.o.op tb t m = .r h.v)
  | .f b => wantedA t ops h.o.guard = true ∧ evs t h.o.op.operands.toList = h.vs ∧ lo ≤ b ∧ b < hi ∧ E b = none ∧ ∃ ob mk, (∀ m, opA h.o.op tb t m = .f ob mk) ∧ h.v = mk b ∧ m.objs.get b = some ob
/-- what it read stands -/
def HNow (h : Hist) : Prop :=
  match h.k with
  | .r => opA h.o.op tb t m = .r h.v
  | _ => True
structure DrI (wait : Bool) (rem : List (Nat × Oper)) (hist : List Hist) (mask : Nat) (sched : List Nat) : Prop where
  valid : Valid ops sched
  remOps : ∀ x ∈ rem, ops.toList[x.1]? = some x.2
  remIn : ∀ x ∈ rem, x.1 ∈ sched
  remNd : (rem.map (·.1)).Nodup
  histOps : ∀ h ∈ hist, ops.toList[h.i]? = some h.o
  histNd : (hist.map (·.i)).Nodup
  apart : ∀ h ∈ hist, ∀ x ∈ rem, h.i ≠ x.1
  all : ∀ k ∈ sched, (∃ x ∈ rem, x.1 = k) ∨ ∃ h ∈ hist, h.i = k
  fact : ∀ h ∈ hist, h.i ∈ sched → HFact tb E m lo hi ops t nt h
  now : wait = false → ∀ h ∈ hist, h.i ∈ sched → HNow tb m t h
  deps : ∀ h ∈ hist, ∀ g ∈ hist, g.i ≠ h.i → ∀ d, g.o.dst = some d → reads ops h.o d → edgeFrom g.i h.o.after.toList = true
  names : ∀ h ∈ hist, (∀ d, reads ops h.o d → Nat.testBit mask d = true) ∧ ∀ d, h.o.dst = some d → Nat.testBit mask d = true
  ids : ∀ h ∈ hist, ∀ g ∈ hist, ∀ b, h.k = .f b → g.k = .f b → h.i = g.i
  idlt : ∀ h ∈ hist, ∀ b, h.k = .f b → b < hi
  own : ∀ h ∈ hist, ∀ d, h.o.dst = some d → ¬ reads ops h.o d
end
section
variable {tb : Tabs} {E : Env} {m m' : Mem} {lo hi hi' : Nat} {ops : Array Oper} {t t' : T Value} {nt : Nat}
theorem HFact.step {h : Hist} (H : HFact tb E m lo hi ops t nt h) (hr : ∀ d, reads ops h.o d → ev t (.tmp d) = ev t' (.tmp d)) (hd : ∀ d, h.o.dst = some d → ev t (.tmp d) = ev t' (.tmp d)) (S : Sub m m') (hh : hi ≤ hi') : HFact tb E m' lo hi' ops t' nt h := by
  obtain ⟨h1, h2⟩ := H
  refine ⟨fun d e => ⟨by rw [← hd d e]; exact (h1 d e).1, (h1 d e).2⟩, ?_⟩
  cases hk : h.k with
  | s => rw [hk] at h2; exact ⟨by rw [← wantedA_congr hr]; exact h2.1, h2.2⟩
  | r =>
    rw [hk] at h2
    exact ⟨by rw [← wantedA_congr hr]; exact h2.1, by rw [← evs_congr' hr]; exact h2.2.1, fun hp m => by rw [← opA_congr' hr]; exact h2.2.2 hp m⟩
  | f b =>
    rw [hk] at h2
    obtain ⟨g1, g2, g3, g4, g5, ob, mk, g6, g7, g8⟩ := h2
    exact ⟨by rw [← wantedA_congr hr]; exact g1, by rw [← evs_congr' hr]; exact g2, g3, by omega, g5, ob, mk, fun m => by rw [← opA_congr' hr]; exact g6 m, g7, S _ _ g8⟩
theorem HNow.step {h : Hist} (H : HNow tb m t h) (hr : ∀ d, reads ops h.o d → ev t (.tmp d) = ev t' (.tmp d)) (S : Sub m m') : HNow tb m' t' h := by
  unfold HNow at H ⊢
  cases hk : h.k with
  | r => rw [hk] at H; simp only at H ⊢; rw [← opA_congr' hr]; exact opA_sub S H
  | _ => trivial
/-- one more operation is done ahead -/
theorem DrI.exec {rem rem' : List (Nat × Oper)} {hist : List Hist} {mask mask' : Nat} {sched : List Nat} {x : Nat × Oper} {v : Value} {k : HK} {vs : List Value} (H : DrI tb E m lo hi ops t nt false rem hist mask sched)
    (hx : x ∈ rem) (hrem : ∀ y ∈ rem', y ∈ rem ∧ y.1 ≠ x.1) (hnd : (rem'.map (·.1)).Nodup) (hall : ∀ y ∈ rem, y = x ∨ y ∈ rem') (hp : putT t nt x.2.dst v = some t') (hm : maskA ops x.2 mask = some mask') (hdeps : depsOk ops x.2 hist = true)
    (S : Sub m m') (hh : hi ≤ hi') (hid : ∀ b, k = .f b → hi ≤ b ∧ b < hi')
    (hnew : HFact tb E m' lo hi' ops t' nt ⟨x.1, x.2, vs, k, v⟩) (hnow : HNow tb m' t' ⟨x.1, x.2, vs, k, v⟩) : DrI tb E m' lo hi' ops t' nt false rem' (⟨x.1, x.2, vs, k, v⟩ :: hist) mask' sched := by
  obtain ⟨m1, m2, m3, m4⟩ := maskA_some hm
  have hev : ∀ d, Nat.testBit mask d = true → ev t (.tmp d) = ev t' (.tmp d) := by
    intro d hd
    rw [ev_put hp, if_neg]
    intro e
    rw [(m1 d e).1] at hd; simp at hd
  have hrd : ∀ h ∈ hist, ∀ d, reads ops h.o d → ev t (.tmp d) = ev t' (.tmp d) := fun h hh d hr => hev d ((H.names h hh).1 d hr)
  have hds : ∀ h ∈ hist, ∀ d, h.o.dst = some d → ev t (.tmp d) = ev t' (.tmp d) := fun h hh d hr => hev d ((H.names h hh).2 d hr)
  refine ⟨H.valid, fun y hy => H.remOps y (hrem y hy).1, fun y hy => H.remIn y (hrem y hy).1, hnd, ?_, ?_, ?_, ?_, ?_, ?_, ?_, ?_, ?_, ?_, ?_⟩
  · intro h hm
    rcases List.mem_cons.1 hm with rfl | hm
    · exact H.remOps x hx
    · exact H.histOps h hm
  · rw [List.map_cons, List.nodup_cons]
    refine ⟨fun hm => ?_, H.histNd⟩
    obtain ⟨h, h1, h2⟩ := List.mem_map.1 hm
    exact H.apart h h1 x hx h2
  · intro h hm y hy
    rcases List.mem_cons.1 hm with rfl | hm
    · exact fun e => (hrem y hy).2 e.symm
    · exact H.apart h hm y (hrem y hy).1
  · intro j hj
    rcases H.all j hj with ⟨y, hy, e⟩ | ⟨h, hm, e⟩
    · rcases hall y hy with rfl | hy
      · exact .inr ⟨_, List.mem_cons_self, e⟩
      · exact .inl ⟨y, hy, e⟩
    · exact .inr ⟨h, List.mem_cons_of_mem _ hm, e⟩
  · intro h hm hs
    rcases List.mem_cons.1 hm with rfl | hm
    · exact hnew
    · exact (H.fact h hm hs).step (hrd h hm) (hds h hm) S hh
  · intro _ h hm hs
    rcases List.mem_cons.1 hm with rfl | hm
    · exact hnow
    · exact (H.now rfl h hm hs).step (hrd h hm) S
  · intro h hm g gm hne d hd hr
    rcases List.mem_cons.1 hm with rfl | hm
    · rcases List.mem_cons.1 gm with rfl | gm
      · exact absurd rfl hne
      · exact depsOk_some hdeps g gm d hd hr
    · rcases List.mem_cons.1 gm with rfl | gm
      · have h1 := (H.names h hm).1 d hr
        rw [(m1 d hd).1] at h1; simp at h1
      · exact H.deps h hm g gm hne d hd hr
  · intro h hm
    rcases List.mem_cons.1 hm with rfl | hm
    · exact ⟨m3, m4⟩
    · exact ⟨fun d hr => m2 d ((H.names h hm).1 d hr), fun d hr => m2 d ((H.names h hm).2 d hr)⟩
  · intro h hm g gm b hk gk
    rcases List.mem_cons.1 hm with rfl | hm
    · rcases List.mem_cons.1 gm with rfl | gm
      · rfl
      · have := H.idlt g gm b gk; have := hid b hk; omega
    · rcases List.mem_cons.1 gm with rfl | gm
      · have := H.idlt h hm b hk; have := hid b gk; omega
      · exact H.ids h hm g gm b hk gk
  · intro h hm b hk
    rcases List.mem_cons.1 hm with rfl | hm
    · exact (hid b hk).2
    · have := H.idlt h hm b hk; omega
  · intro h hm d hd
    rcases List.mem_cons.1 hm with rfl | hm
    · exact (m1 d hd).2
    · exact H.own h hm d hd
theorem sub_newObjA {o : AObj} (hn : m.objs.get m.next = none) : Sub m (newObjA m o) := by
  intro b q hq
  rw [get_newObjA, if_neg (by intro e; subst e; rw [hn] at hq; simp at hq)]; exact hq
theorem drPut_ok {tt : Option (T Value)} {mk : Option Nat} {bl : List Nat} {rem : List (Nat × Oper)} {hist : List Hist} {ih : DrF} {t1 : T Value} {m1 : Mem} {rem1 : List (Nat × Oper)} {hist1 : List Hist} {mask1 : Nat}
    (h : drPut tt mk bl rem m hist ih = .ok t1 m1 rem1 hist1 mask1) : ∃ t' mask', tt = some t' ∧ mk = some mask' ∧ ih bl rem t' m hist mask' = .ok t1 m1 rem1 hist1 mask1 := by
  unfold drPut at h
  split at h
  · exact ⟨_, _, rfl, rfl, h⟩
  · simp at h
end
section
variable {tb : Tabs} {N : Nat} {w0 : World} {E : Env} {w : World} {lo : Nat} {ops : Array Oper} {nt : Nat} {sched : List Nat}
theorem perm_take {rem l : List (Nat × Oper)} {x : Nat × Oper} (h : ((rem.reverse ++ x :: l).map (·.1)).Nodup) : (∀ y ∈ rem.reverse ++ l, y ∈ rem.reverse ++ x :: l ∧ y.1 ≠ x.1) ∧ ((rem.reverse ++ l).map (·.1)).Nodup ∧ (∀ y ∈ rem.reverse ++ x :: l, y = x ∨ y ∈ rem.reverse ++ l) := by
  rw [List.map_append, List.map_cons, List.nodup_append, List.nodup_cons] at h
  obtain ⟨h1, ⟨h2, h3⟩, h4⟩ := h
  refine ⟨?_, ?_, ?_⟩
  · intro y hy
    rcases List.mem_append.1 hy with hy | hy
    · exact ⟨List.mem_append.2 (.inl hy), h4 _ (List.mem_map.2 ⟨y, hy, rfl⟩) _ List.mem_cons_self⟩
    · exact ⟨List.mem_append.2 (.inr (List.mem_cons_of_mem _ hy)), fun e => h2 (by rw [← e]; exact List.mem_map.2 ⟨y, hy, rfl⟩)⟩
  · rw [List.map_append, List.nodup_append]
    exact ⟨h1, h3, fun a ha b hb => h4 a ha b (List.mem_cons_of_mem _ hb)⟩
  · intro y hy
    rcases List.mem_append.1 hy with hy | hy
    · exact .inr (List.mem_append.2 (.inl hy))
    · rcases List.mem_cons.1 hy with rfl | hy
      · exact .inl rfl
      · exact .inr (List.mem_append.2 (.inr hy))
def PassOut (tb : Tabs) (N : Nat) (w0 : World) (E : Env) (w : World) (lo : Nat) (ops : Array Oper) (nt : Nat) (sched : List Nat) (t : T Value) (m : Mem) (hist : List Hist) (t1 : T Value) (m1 : Mem) (rem1 : List (Nat × Oper)) (hist1 : List Hist) (mask1 : Nat) : Prop :=
  lo ≤ m1.next ∧ MR tb.p N w0 E m1 w ∧ MExt lo E m E m1 ∧ DrI tb E m1 lo m1.next ops t1 nt false rem1 hist1 mask1 sched ∧
      (∀ X : Nat → Prop, (∀ h ∈ hist1, ∀ d, h.o.dst = some d → h.i ∈ sched → X d) → ∀ x, ¬ X x → ev t1 (.tmp x) = ev t (.tmp x)) ∧ ∀ h ∈ hist, h ∈ hist1
/-- a pass: what is done ahead of the model -/
theorem drPass_ok : ∀ (l : List (Nat × Oper)) (bl : List Nat) (rem : List (Nat × Oper)) (t : T Value) (m : Mem) (hist : List Hist) (mask : Nat) (t1 : T Value) (m1 : Mem) (rem1 : List (Nat × Oper)) (hist1 : List Hist) (mask1 : Nat),
    drPass tb ops nt l bl rem t m hist mask = .ok t1 m1 rem1 hist1 mask1 → lo ≤ m.next → MR tb.p N w0 E m w → DrI tb E m lo m.next ops t nt false (rem.reverse ++ l) hist mask sched →
    PassOut tb N w0 E w lo ops nt sched t m hist t1 m1 rem1 hist1 mask1
  | [], bl, rem, t, m, hist, mask, t1, m1, rem1, hist1, mask1, h, hlo, HM, HD => by
    have h : DrR.ok t m rem.reverse hist mask = .ok t1 m1 rem1 hist1 mask1 := h
    simp only [DrR.ok.injEq] at h
    obtain ⟨rfl, rfl, rfl, rfl, rfl⟩ := h
    exact ⟨hlo, HM, .refl _ _ _, by simpa using HD, fun X _ x _ => rfl, fun h hh => hh⟩
  | x :: l, bl, rem, t, m, hist, mask, t1, m1, rem1, hist1, mask1, h, hlo, HM, HD => by
    have h : drStep tb ops nt x l (drPass tb ops nt l) bl rem t m hist mask = .ok t1 m1 rem1 hist1 mask1 := h
    have keep : drPass tb ops nt l (x.1 :: bl) (x :: rem) t m hist mask = .ok t1 m1 rem1 hist1 mask1 → PassOut tb N w0 E w lo ops nt sched t m hist t1 m1 rem1 hist1 mask1 := fun h => drPass_ok l _ _ t m hist mask t1 m1 rem1 hist1 mask1 h hlo HM (by simpa using HD)
    have hx : x ∈ rem.reverse ++ x :: l := by simp
    obtain ⟨p1, p2, p3⟩ := perm_take HD.remNd
    have hxs : x.1 ∈ sched := HD.remIn x hx
    unfold drStep at h
    split at h
    · exact keep h
    · split at h
      · simp at h
      · rename_i hdeps
        -- what is done, and then the rest
        have go : ∀ (t' : T Value) (m' : Mem) (mask' : Nat) (v : Value) (k : HK) (vs : List Value), putT t nt x.2.dst v = some t' → maskA ops x.2 mask = some mask' → Sub m m' → m.next ≤ m'.next → MR tb.p N w0 E m' w → MExt lo E m E m' → (∀ b, k = .f b → m.next ≤ b ∧ b < m'.next) →
            HFact tb E m' lo m'.next ops t' nt ⟨x.1, x.2, vs, k, v⟩ → HNow tb m' t' ⟨x.1, x.2, vs, k, v⟩ → drPass tb ops nt l bl rem t' m' (⟨x.1, x.2, vs, k, v⟩ :: hist) mask' = .ok t1 m1 rem1 hist1 mask1 → PassOut tb N w0 E w lo ops nt sched t m hist t1 m1 rem1 hist1 mask1 := by
          intro t' m' mask' v k vs hp hm S hn HM' hx' hid hf hnow h
          have HD' := HD.exec hx p1 p2 p3 hp hm hdeps S hn hid hf hnow
          obtain ⟨r1, r2, r3, r4, r5, r6⟩ := drPass_ok l bl rem t' m' _ mask' t1 m1 rem1 hist1 mask1 h (by omega) HM' HD'
          refine ⟨r1, r2, hx'.trans r3, r4, fun X hX y hy => ?_, fun g hg => r6 g (List.mem_cons_of_mem _ hg)⟩
          rw [r5 X hX y hy, ev_put hp, if_neg]
          intro e
          exact hy (hX _ (r6 _ List.mem_cons_self) y e hxs)
        split at h
        · rename_i hw
          obtain ⟨t', mask', e1, e2, h⟩ := drPut_ok h
          have hr : ∀ d, reads ops x.2 d → ev t (.tmp d) = ev t' (.tmp d) := fun d hr => by
            rw [ev_put e1, if_neg]; intro e; exact ((maskA_some e2).1 d e).2 hr
          refine go t' m mask' undef .s [] e1 e2 (Sub.refl m) (Nat.le_refl _) HM (.refl _ _ _) (by simp) ⟨fun d e => ⟨by rw [ev_put e1]; simp only at e; rw [if_pos e], ?_⟩, by rw [← wantedA_congr hr]; exact hw, rfl⟩ trivial h
          simp only at e; rw [e] at e1; exact (putT_some e1).1
        · rename_i hw
          unfold drK at h
          split at h
          · rename_i v hop
            obtain ⟨t', mask', e1, e2, h⟩ := drPut_ok h
            have hr : ∀ d, reads ops x.2 d → ev t (.tmp d) = ev t' (.tmp d) := fun d hr => by
              rw [ev_put e1, if_neg]; intro e; exact ((maskA_some e2).1 d e).2 hr
            refine go t' m mask' v .r _ e1 e2 (Sub.refl m) (Nat.le_refl _) HM (.refl _ _ _) (by simp) ⟨fun d e => ⟨by rw [ev_put e1]; simp only at e; rw [if_pos e], ?_⟩, by rw [← wantedA_congr hr]; exact hw, by rw [← evs_congr' hr], fun hp m2 => ?_⟩ ?_ h
            · simp only at e; rw [e] at e1; exact (putT_some e1).1
            · rw [← opA_congr' hr, opA_pure hp t m2 m]; exact hop
            · show opA x.2.op tb t' m = .r v
              rw [← opA_congr' hr]; exact hop
          · rename_i ob mk hop
            obtain ⟨t', mask', e1, e2, h⟩ := drPut_ok h
            have hr : ∀ d, reads ops x.2 d → ev t (.tmp d) = ev t' (.tmp d) := fun d hr => by
              rw [ev_put e1, if_neg]; intro e; exact ((maskA_some e2).1 d e).2 hr
            have hdom := HM.dom m.next (Nat.le_refl _)
            refine go t' (newObjA m ob) mask' (mk m.next) (.f m.next) _ e1 e2 (sub_newObjA hdom.1) (by rw [next_newObjA]; omega) (HM.lay ob) ((MExt.lay HM ob).lower hlo) (by intro b e; cases e; rw [next_newObjA]; omega)
              ⟨fun d e => ⟨by rw [ev_put e1]; simp only at e; rw [if_pos e], ?_⟩, by rw [← wantedA_congr hr]; exact hw, by rw [← evs_congr' hr], hlo, by rw [next_newObjA]; omega, hdom.2, ob, mk, fun m2 => ?_, rfl, by rw [get_newObjA, if_pos rfl]⟩ trivial h
            · simp only at e; rw [e] at e1; exact (putT_some e1).1
            · rw [← opA_congr' hr]; exact opA_f hop m2
          · exact keep h
          · exact keep h
          · simp at h
end
end Go.Ev
namespace Go.Ev

section
variable {P : Program} {fr : Frame} {cs : List Frame} {w w' : World} {k : List Item} {ops : Array Oper} {i : Nat} {rest : List Nat}
theorem st_region_nil (hm : fr.mode = .run) (ht : fr.todo = .inRegion ops [] :: k) : step P (lone fr cs w) = .next (lone { fr with todo := k } cs w) := by
  obtain ⟨fn, tmps, todo, defers, mode, kind, ro⟩ := fr
  simp only at hm ht; subst hm; subst ht
  exact step_lone_go (by simp [stepG, stepG.exec])
theorem st_skip (hm : fr.mode = .run) (ht : fr.todo = .inRegion ops (i :: rest) :: k) (h : ((ops[i]?).map (Region.wanted · (yielded ops fr.tmps))).getD false = false) : step P (lone fr cs w) = .next (lone (fr.finish undef) cs w) := by
  obtain ⟨fn, tmps, todo, defers, mode, kind, ro⟩ := fr
  simp only at hm ht h; subst hm; subst ht
  exact step_lone_go (by simp [stepG, stepG.exec, h])
theorem stG_op (hm : fr.mode = .run) (ht : fr.todo = .inRegion ops (i :: rest) :: k) {o : Oper} (ho : ops[i]? = some o) (hw : Region.wanted o (yielded ops fr.tmps) = true) (hd : fr.roundOf = none ∨ ∀ c, o.op ≠ .defer c) :
    stepG P true { frame := fr, callers := cs, status := .running, dying := none } w = stepG.apply P true fr cs none (execOp fr.eval o) w := by
  obtain ⟨fn, tmps, todo, defers, mode, kind, ro⟩ := fr
  simp only at hm ht hw hd; subst hm; subst ht
  rcases hd with rfl | hd
  · simp [stepG, stepG.exec, stepG.oper, Frame.oper?, ho, hw]
  · cases ro with
    | none => simp [stepG, stepG.exec, stepG.oper, Frame.oper?, ho, hw]
    | some l =>
      cases hop : o.op <;> first | (exact absurd hop (hd _)) | simp [stepG, stepG.exec, stepG.oper, Frame.oper?, ho, hw, hop]
theorem st_apply_value {s : Sem Next} {nx : Next} {v : Value} (hr : s.run P w = .ok nx w') (hn : nx = .value v ∨ (nx = .skip ∧ v = undef)) (hg : stepG P true { frame := fr, callers := cs, status := .running, dying := none } w = stepG.apply P true fr cs none s w) :
    step P (lone fr cs w) = .next (lone (fr.finish v) cs w') := by
  refine step_lone_go ?_
  rw [hg]
  rcases hn with rfl | ⟨rfl, rfl⟩ <;> simp [stepG.apply, Sem.runT_eq, hr]
theorem st_apply_enter {s : Sem Next} {f : FuncId} {args : Array Value} (hr : s.run P w = .ok (.enter f args) w') (hk : ∀ d r sv k, fr.todo ≠ .call d true r sv :: k) (hg : stepG P true { frame := fr, callers := cs, status := .running, dying := none } w = stepG.apply P true fr cs none s w) :
    step P (lone fr cs w) = .next (lone (Frame.enter P f args .normal) (fr :: cs) w') := by
  refine step_lone_go ?_
  rw [hg]
  have : (match fr.todo with | .call _ true _ _ :: _ => CallKind.wrapped | _ => .normal) = .normal := by
    split
    · rename_i d r sv k he; exact absurd he (hk d r sv k)
    · rfl
  simp [stepG.apply, Sem.runT_eq, hr, this]
end
end Go.Ev
namespace Go.Ev
open Go.RowKit

def GlobE (G : Nat) (E : Env) : Prop := ∀ g, g < G → E g = some ⟨g, 0, 0⟩
theorem operand_rel {G : Nat} {E : Env} (HG : GlobE G E) {X : Nat → Prop} {t : T Value} {nt : Nat} {fr : Frame} (HS : TRx E X t nt fr.tmps) : ∀ {x : Operand}, operandOk G x = true → (∀ d, x = .tmp d → ¬ X d) → VR E (ev t x) (fr.eval x)
  | .tmp d, _, hd => HS.2 d (hd d rfl)
  | .const v, h, _ => cellsOfV_self h
  | .global g, h, _ => by
    have hg := HG g (by simpa [operandOk, Nat.blt_eq] using h)
    have := VR.ptr (E := E) (b := g) (o := 0) hg
    simpa [ev, Frame.eval] using this
  | .func f, _, _ => .func (f := []) (f' := []) (c := []) (c' := []) (fun l => by simp) .nil .nil
theorem VR.bool_inv {E : Env} {v : Value} {b : Bool} (h : VR E v (.bool b)) : v = .bool b := by cases h; rfl
theorem wanted_rel {E : Env} {ops : Array Oper} {o : Oper} {t : T Value} {tm : Array Value} (hs : ∀ d, reads ops o d → VR E (ev t (.tmp d)) (tm.getD d undef)) : Region.wanted o (yielded ops tm) = wantedA t ops o.guard := by
  unfold Region.wanted
  cases hg : o.guard with
  | none => rfl
  | some g =>
    obtain ⟨j, wn⟩ := g
    simp only
    have key : (yielded ops tm j = some wn) ↔ wantedA t ops (some (j, wn)) = true := by
      rw [wantedA_iff]
      constructor
      · intro h
        unfold yielded at h
        split at h <;> first | (simp at h; done) | skip
        rename_i b hb
        simp only [Option.some.injEq] at h; subst h
        cases hj : ops[j]? with
        | none => rw [hj] at hb; simp at hb
        | some oj =>
          rw [hj] at hb
          simp only [Option.bind_some] at hb
          cases hd : oj.dst with
          | none => rw [hd] at hb; simp at hb
          | some d =>
            rw [hd] at hb
            simp only [Option.bind_some] at hb
            have hj' : ops.toList[j]? = some oj := by simpa using hj
            refine ⟨oj, d, hj', hd, ?_⟩
            have := hs d (.inr ⟨j, b, oj, hg, hj', hd⟩)
            rw [Array.getD_eq_getD_getElem?, hb, Option.getD_some] at this
            exact this.bool_inv
      · rintro ⟨oj, d, h1, h2, h3⟩
        have := hs d (.inr ⟨j, wn, oj, hg, h1, h2⟩)
        rw [h3] at this
        have hj : ops[j]? = some oj := by simpa using h1
        unfold yielded
        rw [hj]
        simp only [Option.bind_some, h2]
        rw [Array.getD_eq_getD_getElem?] at this
        cases hq : tm[d]? with
        | none => rw [hq, Option.getD_none] at this; cases this
        | some q => rw [hq, Option.getD_some] at this; cases this; rfl
    cases h1 : wantedA t ops (some (j, wn)) with
    | true => rw [key.2 h1]; simp
    | false =>
      have : yielded ops tm j ≠ some wn := fun h => by rw [key.1 h] at h1; simp at h1
      simpa using this
def lagX (hist : List Hist) (sched : List Nat) (x : Nat) : Prop := ∃ h ∈ hist, h.i ∈ sched ∧ h.o.dst = some x
theorem nodup_same {hist : List Hist} (h : (hist.map (·.i)).Nodup) {a b : Hist} (ha : a ∈ hist) (hb : b ∈ hist) (e : a.i = b.i) : a = b := by
  induction hist with
  | nil => simp at ha
  | cons x l ih =>
    rw [List.map_cons, List.nodup_cons] at h
    rcases List.mem_cons.1 ha with ea | ma
    · rcases List.mem_cons.1 hb with eb | mb
      · rw [ea, eb]
      · exact absurd (List.mem_map.2 ⟨b, mb, by rw [← e, ea]⟩) h.1
    · rcases List.mem_cons.1 hb with eb | mb
      · exact absurd (List.mem_map.2 ⟨a, ma, by rw [e, eb]⟩) h.1
      · exact ih h.2 ma mb
section
variable {tb : Tabs} {N G : Nat} {w0 : World} {E : Env} {m : Mem} {w : World} {lo : Nat} {ops : Array Oper} {t : T Value} {nt : Nat} {rem : List (Nat × Oper)} {hist : List Hist} {mask : Nat} {sched : List Nat} {x : Nat} {fr : Frame} {cs : List Frame} {k : List Item}
theorem finish_eq {v : Value} {o : Oper} (ht : fr.todo = .inRegion ops (x :: sched) :: k) (ho : ops[x]? = some o) :
    fr.finish v = { fr with tmps := (match o.dst with | some d => fr.tmps.setIfInBounds d v | none => fr.tmps), todo := .inRegion ops sched :: k } := by
  obtain ⟨fn, tmps, todo, defers, mode, kind, ro⟩ := fr
  simp only at ht; subst ht
  simp only [Frame.finish, ho, Option.bind_some]
  cases o.dst <;> rfl
/-- the model does what was done ahead of it -/
theorem lag_step (ok : TabsOk tb) (HM : MR tb.p N w0 E m w) (HG : GlobE G E) (HD : DrI tb E m lo m.next ops t nt false rem hist mask (x :: sched)) (HS : TRx E (lagX hist (x :: sched)) t nt fr.tmps) (hx : ∀ z ∈ rem, z.1 ≠ x)
    (hm : fr.mode = .run) (ht : fr.todo = .inRegion ops (x :: sched) :: k) (hops : ∀ o ∈ ops.toList, opOk G o = true) :
    ∃ tm w' E', step tb.p (lone fr cs w) = .next (lone { fr with tmps := tm, todo := .inRegion ops sched :: k } cs w') ∧ MR tb.p N w0 E' m w' ∧ MExt lo E m E' m ∧ DrI tb E' m lo m.next ops t nt false rem hist mask sched ∧ TRx E' (lagX hist sched) t nt tm := by
  obtain ⟨h, hh, rfl⟩ : ∃ h ∈ hist, h.i = x := by
    rcases HD.all x (by simp) with ⟨z, hz, e⟩ | h
    · exact absurd e (hx z hz)
    · exact h
  have hol := HD.histOps h hh
  have ho : ops[h.i]? = some h.o := by simpa using hol
  have hnx : h.i ∉ sched := HD.valid.1
  obtain ⟨hf1, hf2⟩ := HD.fact h hh (by simp)
  have hnow := HD.now rfl h hh (by simp)
  -- what it reads is there
  have hread : ∀ d, reads ops h.o d → ¬ lagX hist (h.i :: sched) d := by
    rintro d hr ⟨g, hg, gi, gd⟩
    by_cases e : g.i = h.i
    · obtain rfl := nodup_same HD.histNd hg hh e
      exact HD.own g hg d gd hr
    · obtain ⟨ed, he, h1, h2⟩ := edgeFrom_some (HD.deps h hh g hg e d gd hr)
      exact HD.valid.2.1 h.o hol ed he h2 (by rw [h1]; exact gi)
  have hw : Region.wanted h.o (yielded ops fr.tmps) = wantedA t ops h.o.guard := wanted_rel (E := E) fun d hr => HS.2 d (hread d hr)
  have hρ : ∀ y ∈ h.o.op.operands.toList, VR E (ev t y) (fr.eval y) := fun y hy =>
    operand_rel HG HS (List.all_eq_true.1 (hops h.o (List.mem_of_getElem? hol)) y hy) fun d e => hread d (.inl (by rw [← e]; exact hy))
  have hop := run_opA (o := h.o) ok HM hρ
  -- the slots, once it is done
  have slots : ∀ {E' : Env} {v' : Value}, Env.le E E' → VR E' h.v v' → TRx E' (lagX hist sched) t nt (match h.o.dst with | some d => fr.tmps.setIfInBounds d v' | none => fr.tmps) := by
    intro E' v' hle hv
    have hold : ∀ y, ¬ lagX hist sched y → h.o.dst ≠ some y → VR E' (ev t (.tmp y)) (fr.tmps.getD y undef) := by
      intro y hy hne
      refine (HS.2 y ?_).mono hle
      rintro ⟨g, hg, gi, gd⟩
      rcases List.mem_cons.1 gi with gi | gi
      · obtain rfl := nodup_same HD.histNd hg hh gi
        exact hne gd
      · exact hy ⟨g, hg, gi, gd⟩
    cases hd : h.o.dst with
    | none => exact ⟨HS.1, fun y hy => hold y hy (by rw [hd]; simp)⟩
    | some d =>
      refine ⟨by simp [HS.1], fun y hy => ?_⟩
      simp only [Array.getD_eq_getD_getElem?, Array.getElem?_setIfInBounds]
      by_cases e : d = y
      · subst e
        obtain ⟨e1, e2⟩ := hf1 d hd
        rw [if_pos rfl, if_pos (by rw [HS.1]; exact e2), e1]
        exact hv
      · rw [if_neg e]
        have := hold y hy (by rw [hd]; simpa using e)
        rw [Array.getD_eq_getD_getElem?] at this
        exact this
  have next : ∀ {E' : Env}, (∀ b, E b = none → (∀ g ∈ hist, g.k = .f b → g.i ∈ sched → E' b = none)) → DrI tb E' m lo m.next ops t nt false rem hist mask sched := by
    intro E' hE'
    refine ⟨HD.valid.2.2, HD.remOps, fun z hz => ?_, HD.remNd, HD.histOps, HD.histNd, HD.apart, fun j hj => HD.all j (List.mem_cons_of_mem _ hj), fun g hg gi => ?_, fun _ g hg gi => HD.now rfl g hg (List.mem_cons_of_mem _ gi), HD.deps, HD.names, HD.ids, HD.idlt, HD.own⟩
    · rcases List.mem_cons.1 (HD.remIn z hz) with e | e
      · exact absurd e (hx z hz)
      · exact e
    · obtain ⟨q1, q2⟩ := HD.fact g hg (List.mem_cons_of_mem _ gi)
      refine ⟨q1, ?_⟩
      cases hk : g.k with
      | s => rw [hk] at q2; exact q2
      | r => rw [hk] at q2; exact q2
      | f b =>
        rw [hk] at q2
        obtain ⟨a1, a2, a3, a4, a5, a6⟩ := q2
        exact ⟨a1, a2, a3, a4, hE' b a5 g hg hk gi, a6⟩
  cases hk : h.k with
  | s =>
    rw [hk] at hf2
    obtain ⟨f1, f2⟩ := hf2
    refine ⟨_, w, E, ?_, HM, .refl _ _ _, next fun b hb _ _ _ _ => hb, slots (v' := undef) (.refl E) (by rw [f2]; exact .undef E)⟩
    rw [st_skip hm ht (by rw [ho]; simp only [Option.map_some, Option.getD_some]; rw [hw, f1]), finish_eq ht ho]
  | r =>
    rw [hk] at hf2
    unfold HNow at hnow; rw [hk] at hnow; simp only at hnow
    rw [hnow] at hop
    obtain ⟨nx, q1, q2⟩ := hop
    have hdf : fr.roundOf = none ∨ ∀ c, h.o.op ≠ .defer c := .inr fun c e => by rw [e] at hnow; simp [opA, kC] at hnow
    have hg := stG_op (cs := cs) (w := w) (P := tb.p) hm ht ho (by rw [hw]; exact hf2.1) hdf
    rcases q2 with ⟨v', rfl, hv⟩ | ⟨rfl, hv⟩
    · refine ⟨_, w, E, ?_, HM, .refl _ _ _, next fun b hb _ _ _ _ => hb, slots (.refl E) hv⟩
      rw [st_apply_value q1 (.inl rfl) hg, finish_eq ht ho]
    · refine ⟨_, w, E, ?_, HM, .refl _ _ _, next fun b hb _ _ _ _ => hb, slots (v' := undef) (.refl E) (by rw [hv]; exact .undef E)⟩
      rw [st_apply_value q1 (.inr ⟨rfl, rfl⟩) hg, finish_eq ht ho]
  | f b =>
    rw [hk] at hf2
    obtain ⟨f1, f2, f3, f4, f5, ob, mk, f6, f7, f8⟩ := hf2
    rw [f6 m] at hop
    obtain ⟨v', w', o', sh, ex, q1, q2, q3, q4, q5, q6, q7, q8⟩ := hop b f5
    have hdf : fr.roundOf = none ∨ ∀ c, h.o.op ≠ .defer c := .inr fun c e => by have := f6 m; rw [e] at this; simp [opA, kC] at this
    have hg := stG_op (cs := cs) (w := w) (P := tb.p) hm ht ho (by rw [hw]; exact f1) hdf
    refine ⟨_, w', _, ?_, HM.mat f5 f8 f4 q8 q2 q3 q4 q5 q6, MExt.mat f5 f3, next ?_, slots (Env.add_le f5) (by rw [f7]; exact q7)⟩
    · rw [st_apply_value q1 (.inl rfl) hg, finish_eq ht ho]
    · intro b' hb' g hg gk gi
      simp only [Env.add]
      rw [if_neg]
      · exact hb'
      · intro e; subst e
        have := HD.ids h hh g hg b' hk gk
        rw [← this] at gi
        exact hnx gi
end
end Go.Ev
namespace Go.Ev
open Go.RowKit

theorem zip_all_eq {f : Value → Value → Bool} (hf : ∀ a b, f a b = true → a = b) : ∀ {l k : List Value}, l.length = k.length → ((l.zip k).all fun (x, y) => f x y) = true → l = k
  | [], [], _, _ => rfl
  | x :: l, y :: k, hl, h => by
    simp only [List.zip_cons_cons, List.all_cons, Bool.and_eq_true] at h
    rw [hf _ _ h.1, zip_all_eq hf (by simpa using hl) h.2]
  | [], y :: k, hl, _ => by simp at hl
  | x :: l, [], hl, _ => by simp at hl
theorem arr_eq {a b : Array Value} (h : a.toList = b.toList) : a = b := by
  obtain ⟨a⟩ := a; obtain ⟨b⟩ := b; simp only at h; rw [h]
theorem spot_eq {a b : Option Nat} (h : (match a, b with | none, none => true | some x, some y => Nat.beq x y | _, _ => false) = true) : a = b := by
  cases a <;> cases b <;> simp only at h <;> first | rfl | (simp at h; done) | (rw [Nat.eq_of_beq_eq_true h])
theorem vEq_eq : ∀ (n : Nat) (a b : Value), vEq n a b = true → a = b
  | 0, a, b, h => by simp [vEq] at h
  | n + 1, a, b, h => by
    unfold vEq at h
    split at h
    · rename_i hn; simp at hn
    · rename_i hn; simp at h; rw [h]
    · simp only [Bool.and_eq_true, intEq_eq, beq_iff_eq] at h
      rw [kEq_true h.1, h.2]
    · rename_i a b _
      rw [bytesEq_eq] at h
      have : a.data.toList = b.data.toList := by simpa using h
      obtain ⟨⟨a⟩⟩ := a; obtain ⟨⟨b⟩⟩ := b; simp only at this; rw [this]
    · rfl
    · rename_i a b _
      obtain ⟨a1, a2, a3⟩ := a; obtain ⟨b1, b2, b3⟩ := b
      simp only [Bool.and_eq_true] at h
      obtain ⟨⟨h1, h2⟩, h3⟩ := h
      rw [Nat.eq_of_beq_eq_true h1, Nat.eq_of_beq_eq_true h2, spot_eq h3]
    · simp only [Bool.and_eq_true] at h
      rw [Nat.eq_of_beq_eq_true h.1, Nat.eq_of_beq_eq_true h.2]
    · rename_i a _ _ b _ _ _
      obtain ⟨a1, a2, a3⟩ := a; obtain ⟨b1, b2, b3⟩ := b
      simp only [Bool.and_eq_true] at h
      obtain ⟨⟨⟨⟨h1, h2⟩, h3⟩, h4⟩, h5⟩ := h
      rw [Nat.eq_of_beq_eq_true h1, Nat.eq_of_beq_eq_true h2, spot_eq h3, Nat.eq_of_beq_eq_true h4, Nat.eq_of_beq_eq_true h5]
    · rfl
    · rw [Nat.eq_of_beq_eq_true h]
    · rfl
    · rfl
    · rename_i d _ _ _ _ hn
      obtain rfl : n = d := by simpa using hn
      simp only [Bool.and_eq_true] at h
      rw [Nat.eq_of_beq_eq_true h.1, vEq_eq n _ _ h.2]
    · rename_i d _ _ hn
      obtain rfl : n = d := by simpa using hn
      simp only [Bool.and_eq_true] at h
      rw [arr_eq (zip_all_eq (vEq_eq n) (Nat.eq_of_beq_eq_true h.1) h.2)]
    · rename_i d _ _ _ _ _ _ hn
      obtain rfl : n = d := by simpa using hn
      simp only [Bool.and_eq_true] at h
      obtain ⟨⟨⟨⟨h1, h2⟩, h3⟩, h4⟩, h5⟩ := h
      rw [Nat.eq_of_beq_eq_true h1, arr_eq (zip_all_eq (vEq_eq n) (Nat.eq_of_beq_eq_true h2) h4), arr_eq (zip_all_eq (vEq_eq n) (Nat.eq_of_beq_eq_true h3) h5)]
    · rename_i d _ _ hn
      obtain rfl : n = d := by simpa using hn
      simp only [Bool.and_eq_true] at h
      rw [arr_eq (zip_all_eq (vEq_eq n) (Nat.eq_of_beq_eq_true h.1) h.2)]
    · simp at h
theorem vEqL_eq : ∀ {l k : List Value}, vEqL l k = true → l = k
  | [], [], _ => rfl
  | x :: l, y :: k, h => by
    simp only [vEqL] at h
    split at h
    · rename_i h1; rw [vEq_eq _ _ _ h1, vEqL_eq h]
    · simp at h
  | [], y :: k, h => by simp [vEqL] at h
  | x :: l, [], h => by simp [vEqL] at h
theorem evs_inj {t t' : T Value} : ∀ {l : List Operand}, evs t l = evs t' l → ∀ x ∈ l, ev t x = ev t' x
  | [], _, x, hx => by simp at hx
  | y :: l, h, x, hx => by
    simp only [evs, List.cons.injEq] at h
    rcases List.mem_cons.1 hx with e | hx
    · rw [e]; exact h.1
    · exact evs_inj h.2 x hx
section
variable {tb : Tabs} {ops : Array Oper} {t : T Value} {m : Mem}
theorem recheck_some {after : List Edge} : ∀ {l : List Hist}, recheck tb ops t m after l = true → ∀ h ∈ l, edgeFrom h.i after = true ∨ checkH tb ops t m h = true
  | [], _, h, hm => by simp at hm
  | g :: l, hk, h, hm => by
    simp only [recheck] at hk
    split at hk
    · rename_i he
      rcases List.mem_cons.1 hm with e | hm
      · rw [e]; exact .inl he
      · exact recheck_some hk h hm
    · split at hk
      · rename_i he
        rcases List.mem_cons.1 hm with e | hm
        · rw [e]; exact .inr he
        · exact recheck_some hk h hm
      · simp at hk
theorem checkH_some {h : Hist} (hc : checkH tb ops t m h = true) : (∀ d, h.o.dst = some d → ev t (.tmp d) = h.v) ∧
    match h.k with
    | .s => wantedA t ops h.o.guard = false
    | .f _ => wantedA t ops h.o.guard = true ∧ evs t h.o.op.operands.toList = h.vs
    | .r => wantedA t ops h.o.guard = true ∧ evs t h.o.op.operands.toList = h.vs ∧ (isPure h.o.op = true ∨ opA h.o.op tb t m = .r h.v) := by
  unfold checkH at hc
  split at hc <;> first | (simp at hc; done) | skip
  rename_i h1
  refine ⟨fun d hd => ?_, ?_⟩
  · rw [hd] at h1; exact vEq_eq _ _ _ h1
  · cases hk : h.k with
    | s => rw [hk] at hc; simpa using hc
    | f b =>
      rw [hk] at hc
      simp only [Bool.and_eq_true] at hc
      exact ⟨hc.1, vEqL_eq hc.2⟩
    | r =>
      rw [hk] at hc
      simp only at hc
      split at hc <;> first | (simp at hc; done) | skip
      rename_i h2
      rw [Bool.and_eq_true] at h2
      refine ⟨h2.1, vEqL_eq h2.2, ?_⟩
      split at hc
      · rename_i h3; exact .inl h3
      · split at hc
        · rename_i w hw; rw [vEq_eq _ _ _ hc]; exact .inr hw
        · simp at hc
end
section
variable {tb : Tabs} {N G : Nat} {w0 : World} {lo : Nat} {ops : Array Oper} {t : T Value} {nt : Nat} {rem : List (Nat × Oper)} {hist : List Hist} {mask : Nat} {m : Mem} {cs : List Frame} {k : List Item}
/-- the model catches up, as far as the next write -/
theorem catch_up (ok : TabsOk tb) (hops : ∀ o ∈ ops.toList, opOk G o = true) (hrem : ∀ i o l, rem = (i, o) :: l → alone [i] l = true) : ∀ (sched : List Nat) (E : Env) (w : World) (fr : Frame), MR tb.p N w0 E m w → GlobE G E → DrI tb E m lo m.next ops t nt false rem hist mask sched →
    TRx E (lagX hist sched) t nt fr.tmps → fr.mode = .run → fr.todo = .inRegion ops sched :: k →
    ∃ sched' tm w' E', Steps tb.p (lone fr cs w) (lone { fr with tmps := tm, todo := .inRegion ops sched' :: k } cs w') ∧ MR tb.p N w0 E' m w' ∧ MExt lo E m E' m ∧ DrI tb E' m lo m.next ops t nt false rem hist mask sched' ∧ TRx E' (lagX hist sched') t nt tm ∧
      (rem = [] → sched' = []) ∧ ∀ i o l, rem = (i, o) :: l → ∃ rest, sched' = i :: rest
  | [], E, w, fr, HM, HG, HD, HS, hm, ht => by
    refine ⟨[], fr.tmps, w, E, ?_, HM, .refl _ _ _, HD, HS, fun _ => rfl, fun i o l e => ?_⟩
    · have : ({ fr with tmps := fr.tmps, todo := .inRegion ops [] :: k } : Frame) = fr := by obtain ⟨fn, tmps, todo, defers, mode, kind, ro⟩ := fr; simp only at ht; rw [ht]
      rw [this]; exact .refl _ _
    · have := HD.remIn (i, o) (by rw [e]; simp); simp at this
  | x :: s, E, w, fr, HM, HG, HD, HS, hm, ht => by
    by_cases hx : ∀ z ∈ rem, z.1 ≠ x
    · obtain ⟨tm, w1, E1, h1, h2, h3, h4, h5⟩ := lag_step (cs := cs) (k := k) ok HM HG HD HS hx hm ht hops
      obtain ⟨s', tm', w2, E2, g1, g2, g3, g4, g5, g6, g7⟩ := catch_up ok hops hrem s E1 w1 { fr with tmps := tm, todo := .inRegion ops s :: k } h2 (fun g hg => h3.le _ _ (HG g hg)) h4 h5 hm rfl
      exact ⟨s', tm', w2, E2, .head h1 g1, g2, h3.trans g3, g4, g5, g6, g7⟩
    · refine ⟨x :: s, fr.tmps, w, E, ?_, HM, .refl _ _ _, HD, HS, fun e => ?_, fun i o l e => ?_⟩
      · have : ({ fr with tmps := fr.tmps, todo := .inRegion ops (x :: s) :: k } : Frame) = fr := by obtain ⟨fn, tmps, todo, defers, mode, kind, ro⟩ := fr; simp only at ht; rw [ht]
        rw [this]; exact .refl _ _
      · exact absurd (by rw [e]; simp) hx
      · by_cases e2 : i = x
        · exact ⟨s, by rw [e2]⟩
        · exfalso
          apply hx
          intro z hz
          rw [e] at hz
          rcases List.mem_cons.1 hz with e3 | hz
          · rw [e3]; exact e2
          · exact alone_head HD.valid (hrem i o l e) (fun y hy => by
              rcases List.mem_cons.1 hy with e4 | hy
              · rw [e4]; exact HD.remIn (i, o) (by rw [e]; simp)
              · simp at hy) (fun z hz => ⟨HD.remIn z (by rw [e]; exact List.mem_cons_of_mem _ hz), HD.remOps z (by rw [e]; exact List.mem_cons_of_mem _ hz)⟩) z hz
/-- a write, or a call, is done in both -/
theorem DrI.write {E : Env} {i : Nat} {o : Oper} {l : List (Nat × Oper)} {rest : List Nat} {hi hi' : Nat} {t' : T Value} {v : Value} (H : DrI tb E m lo hi ops t nt true ((i, o) :: l) hist mask (i :: rest)) (hp : putT t nt o.dst v = some t') (hc : recheck tb ops t' m o.after.toList hist = true) (hh : hi ≤ hi') :
    DrI tb E m lo hi' ops t' nt false l hist mask rest := by
  have hnd := H.remNd
  rw [List.map_cons, List.nodup_cons] at hnd
  have hoi : ops.toList[i]? = some o := H.remOps (i, o) (by simp)
  have hck : ∀ h ∈ hist, h.i ∈ rest → checkH tb ops t' m h = true := by
    intro h hm hs
    rcases recheck_some hc h hm with he | he
    · obtain ⟨e, h1, h2, h3⟩ := edgeFrom_some he
      exact absurd (by rw [h2]; exact List.mem_cons_of_mem _ hs) (H.valid.2.1 o hoi e h1 h3)
    · exact he
  refine ⟨H.valid.2.2, fun z hz => H.remOps z (List.mem_cons_of_mem _ hz), fun z hz => ?_, hnd.2, H.histOps, H.histNd, fun h hm z hz => H.apart h hm z (List.mem_cons_of_mem _ hz), fun j hj => ?_, fun h hm hs => ?_, fun _ h hm hs => ?_, H.deps, H.names, H.ids, fun h hm b hk => ?_, H.own⟩
  · rcases List.mem_cons.1 (H.remIn z (List.mem_cons_of_mem _ hz)) with e | e
    · exact absurd (by rw [← e]; exact List.mem_map.2 ⟨z, hz, rfl⟩) hnd.1
    · exact e
  · rcases H.all j (List.mem_cons_of_mem _ hj) with ⟨z, hz, e⟩ | h
    · rcases List.mem_cons.1 hz with e2 | hz
      · rw [e2] at e; simp only at e; subst e; exact absurd hj H.valid.1
      · exact .inl ⟨z, hz, e⟩
    · exact .inr h
  · obtain ⟨c1, c2⟩ := checkH_some (hck h hm hs)
    obtain ⟨f1, f2⟩ := H.fact h hm (List.mem_cons_of_mem _ hs)
    refine ⟨fun d hd => ⟨c1 d hd, (f1 d hd).2⟩, ?_⟩
    cases hk : h.k with
    | s => rw [hk] at c2 f2; exact ⟨c2, f2.2⟩
    | r =>
      rw [hk] at c2 f2
      have hev := evs_inj (f2.2.1.trans c2.2.1.symm)
      exact ⟨c2.1, c2.2.1, fun hp m => by rw [← opA_congr hev]; exact f2.2.2 hp m⟩
    | f b =>
      rw [hk] at c2 f2
      obtain ⟨a1, a2, a3, a4, a5, ob, mk, a6, a7, a8⟩ := f2
      have hev := evs_inj (a2.trans c2.2.symm)
      exact ⟨c2.1, c2.2, a3, by omega, a5, ob, mk, fun m => by rw [← opA_congr hev]; exact a6 m, a7, a8⟩
  · obtain ⟨c1, c2⟩ := checkH_some (hck h hm hs)
    obtain ⟨f1, f2⟩ := H.fact h hm (List.mem_cons_of_mem _ hs)
    unfold HNow
    cases hk : h.k with
    | r =>
      rw [hk] at c2 f2
      simp only
      rcases c2.2.2 with hp | hp
      · have hev := evs_inj (f2.2.1.trans c2.2.1.symm)
        rw [← opA_congr hev]; exact f2.2.2 hp m
      · exact hp
    | _ => trivial
  · have := H.idlt h hm b hk; omega
/-- a frame that waits -/
theorem DrI.wait {E E' : Env} {m' : Mem} {hi : Nat} {sched : List Nat} {b : Bool} (H : DrI tb E m lo hi ops t nt b rem hist mask sched) (hx : MExt hi E m E' m') : DrI tb E' m' lo hi ops t nt true rem hist mask sched :=
  ⟨H.valid, H.remOps, H.remIn, H.remNd, H.histOps, H.histNd, H.apart, H.all, fun h hm hs => by
    obtain ⟨f1, f2⟩ := H.fact h hm hs
    refine ⟨f1, ?_⟩
    cases hk : h.k with
    | s => rw [hk] at f2; exact f2
    | r => rw [hk] at f2; exact f2
    | f b =>
      rw [hk] at f2
      obtain ⟨a1, a2, a3, a4, a5, ob, mk, a6, a7, a8⟩ := f2
      obtain ⟨e1, e2⟩ := hx.pend b a4 a5
      exact ⟨a1, a2, a3, a4, e1, ob, mk, a6, a7, by rw [e2]; exact a8⟩, by simp, H.deps, H.names, H.ids, H.idlt, H.own⟩
theorem lag_write {E E' : Env} {i : Nat} {o : Oper} {l : List (Nat × Oper)} {rest : List Nat} {hi : Nat} {t' : T Value} {v v' : Value} {b : Bool} {tm : Array Value} (H : DrI tb E m lo hi ops t nt b ((i, o) :: l) hist mask (i :: rest)) (hp : putT t nt o.dst v = some t') (hv : VR E' v v') (hle : Env.le E E') (HS : TRx E (lagX hist (i :: rest)) t nt tm) :
    TRx E' (lagX hist rest) t' nt (match o.dst with | some d => tm.setIfInBounds d v' | none => tm) := by
  have hold : ∀ y, ¬ lagX hist rest y → VR E' (ev t (.tmp y)) (tm.getD y undef) := by
    intro y hy
    refine (HS.2 y ?_).mono hle
    rintro ⟨g, hg, gi, gd⟩
    rcases List.mem_cons.1 gi with gi | gi
    · exact H.apart g hg (i, o) (by simp) gi
    · exact hy ⟨g, hg, gi, gd⟩
  cases hd : o.dst with
  | none => rw [hd] at hp; rw [putT_none hp]; exact ⟨HS.1, hold⟩
  | some d =>
    rw [hd] at hp
    obtain ⟨h1, h2⟩ := putT_some hp
    refine ⟨by simp [HS.1], fun y hy => ?_⟩
    rw [h2, ev_set]
    simp only [Array.getD_eq_getD_getElem?, Array.getElem?_setIfInBounds]
    by_cases e : d = y
    · subst e
      rw [if_pos rfl, if_pos rfl, if_pos (by rw [HS.1]; exact h1)]
      exact hv
    · rw [if_neg (fun h => e h.symm), if_neg e]
      have := hold y hy
      rw [Array.getD_eq_getD_getElem?] at this
      exact this
end
end Go.Ev
namespace Go.Ev

section
variable {P : Program} {fn : FuncId} {tmps : Array Value} {k : List Item} {ds : List Deferred} {kind : CallKind} {ro : Option Nat} {cs : List Frame} {w w' : World}
/-- a running frame -/
def rf (fn : FuncId) (tmps : Array Value) (ds : List Deferred) (kind : CallKind) (ro : Option Nat) (k : List Item) : Frame := { fn, tmps, todo := k, defers := ds, mode := .run, kind, roundOf := ro }
theorem su_skip : step P (lone (rf fn tmps ds kind ro (.code .skip :: k)) cs w) = .next (lone (rf fn tmps ds kind ro k) cs w) := step_lone_go (by simp [stepG, stepG.exec, rf])
theorem su_label {l : Nat} : step P (lone (rf fn tmps ds kind ro (.code (.label l) :: k)) cs w) = .next (lone (rf fn tmps ds kind ro k) cs w) := step_lone_go (by simp [stepG, stepG.exec, rf])
theorem su_inBlock {i : Nat} : step P (lone (rf fn tmps ds kind ro (.inBlock i :: k)) cs w) = .next (lone (rf fn tmps ds kind ro k) cs w) := step_lone_go (by simp [stepG, stepG.exec, rf])
theorem su_inScope {b : Code} : step P (lone (rf fn tmps ds kind ro (.inScope b :: k)) cs w) = .next (lone (rf fn tmps ds kind ro k) cs w) := step_lone_go (by simp [stepG, stepG.exec, rf])
theorem su_seq {a b : Code} : step P (lone (rf fn tmps ds kind ro (.code (.seq a b) :: k)) cs w) = .next (lone (rf fn tmps ds kind ro (.code a :: .code b :: k)) cs w) := step_lone_go (by simp [stepG, stepG.exec, rf])
theorem su_cond {c : Operand} {a b : Code} {q : Bool} (h : (rf fn tmps ds kind ro (.code (.cond c a b) :: k)).eval c = .bool q) : step P (lone (rf fn tmps ds kind ro (.code (.cond c a b) :: k)) cs w) = .next (lone (rf fn tmps ds kind ro (.code (if q then a else b) :: k)) cs w) :=
  step_lone_go (by simp only [rf] at h; simp [stepG, stepG.exec, rf, h])
theorem su_block {i : Nat} {b : Code} : step P (lone (rf fn tmps ds kind ro (.code (.block i b) :: k)) cs w) = .next (lone (rf fn tmps ds kind ro (.code b :: .inBlock i :: k)) cs w) := step_lone_go (by simp [stepG, stepG.exec, rf])
theorem su_loop {b : Code} : step P (lone (rf fn tmps ds kind ro (.code (.loop b) :: k)) cs w) = .next (lone (rf fn tmps ds kind ro (.code b :: .inLoop b :: k)) cs w) := step_lone_go (by simp [stepG, stepG.exec, rf])
theorem su_inLoop {b : Code} : step P (lone (rf fn tmps ds kind ro (.inLoop b :: k)) cs w) = .next (lone (rf fn tmps ds kind ro (.code b :: .inLoop b :: k)) cs w) := step_lone_go (by simp [stepG, stepG.exec, rf])
theorem su_scope {b : Code} : step P (lone (rf fn tmps ds kind ro (.code (.scope b) :: k)) cs w) = .next (lone (rf fn tmps ds kind ro (.code b :: .inScope b :: k)) cs w) := step_lone_go (by simp [stepG, stepG.exec, rf])
theorem su_exit {i : Nat} {k2 : List Item} (h : exitTo i k = some k2) : step P (lone (rf fn tmps ds kind ro (.code (.exit i) :: k)) cs w) = .next (lone (rf fn tmps ds kind ro k2) cs w) := step_lone_go (by simp [stepG, stepG.exec, rf, h])
theorem su_goto {i : Nat} {k2 : List Item} (h : gotoIn i k = some k2) : step P (lone (rf fn tmps ds kind ro (.code (.goto i) :: k)) cs w) = .next (lone (rf fn tmps ds kind ro k2) cs w) := step_lone_go (by simp [stepG, stepG.exec, rf, h])
theorem su_region {i : Nat} {ops : Array Oper} : step P (lone (rf fn tmps ds kind ro (.code (.region i ops false) :: k)) cs w) = .next (lone (rf fn tmps ds kind ro (.inRegion ops (List.range ops.size) :: k)) cs w) := step_lone_go (by simp [stepG, stepG.exec, rf])
theorem su_region_draw {i : Nat} {ops : Array Oper} : step P (lone (rf fn tmps ds kind ro (.code (.region i ops true) :: k)) cs w) =
    .next (lone (rf fn tmps ds kind ro (.inRegion ops (Region.schedule (P.follows .mixedOrders) ops (w.tape w.drawn (.order fn i))) :: k)) cs { w with drawn := w.drawn + 1 }) :=
  step_lone_go (by simp [stepG, stepG.exec, rf, choose, Sem.run, Question.forced, Question.cut])
/-- a frame that is left -/
theorem su_end : step P (lone (rf fn tmps ds kind none []) cs w) = .next (lone { rf fn tmps ds kind none [] with mode := .returning } cs w) := step_lone_go (by simp [stepG, stepG.exec, rf])
theorem su_ret : step P (lone (rf fn tmps ds kind none (.code .ret :: k)) cs w) = .next (lone { rf fn tmps ds kind none (.code .ret :: k) with mode := .returning } cs w) := step_lone_go (by simp [stepG, stepG.exec, rf])
end
end Go.Ev
