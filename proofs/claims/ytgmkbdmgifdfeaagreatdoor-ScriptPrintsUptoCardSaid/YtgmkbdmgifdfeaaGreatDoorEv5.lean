/- Every operation met by the model. -/
import Derived.Test.YtgmkbdmgifdfeaaGreatDoorEv4
import Derived.Laws.RangeString
import Derived.Test.YtgmkbdmgifdfeaaGreatDoorEv0
set_option linter.unusedSimpArgs false
set_option linter.unusedVariables false
namespace Go.Ev
open Go.RowKit

section
variable {tb : Tabs} {N : Nat} {w0 : World} {E : Env} {m : Mem} {w : World}
theorem MR.newOb (H : MR tb.p N w0 E m w) {o : AObj} {ob : Obj} (ho : o.own = true) {sh ex : Nat} (hob : ∀ E', Env.le E E' → ObjR tb.p E' ⟨w.heap.size, sh, ex⟩ o ob) :
    ∃ E', E' m.next = some ⟨w.heap.size, sh, ex⟩ ∧ MR tb.p N w0 E' (newObjA m o) { w with heap := w.heap.push ob } ∧ MExt m.next E m E' (newObjA m o) ∧ Env.le E E' := by
  have hn := (H.dom m.next (Nat.le_refl _)).2
  have HM := (H.lay o).mat (b := m.next) (o := o) (ob := ob) (w' := { w with heap := w.heap.push ob }) (sh := sh) (ex := ex) hn (by rw [get_newObjA, if_pos rfl]) (by rw [next_newObjA]; omega) ho rfl rfl rfl rfl (hob _ (Env.add_le hn))
  exact ⟨_, Env.add_at, HM, (MExt.lay H _).trans (MExt.mat hn (Nat.le_refl _)), Env.add_le hn⟩
theorem run_rangeA (ok : TabsOk tb) (H : MR tb.p N w0 E m w) {t : TypeId} {x x' v : Value} (hx : VR E x x') {m' : Mem} (h : rangeA tb t m x = some (v, m')) : WrOk tb N w0 E m w v m' (Instr.range t x') := by
  unfold rangeA at h
  obtain ⟨i, hi, h1⟩ := oB_some.1 h
  clear h
  have fin : ∀ (o : AObj) (ob : Obj), o.own = true → (∀ E', Env.le E E' → ObjR tb.p E' ⟨w.heap.size, 0, 0⟩ o ob) → v = .pointer (some ⟨m.next, 0, none⟩) → m' = newObjA m o →
      (Instr.range t x').run tb.p w = .ok (.pointer (some ⟨w.heap.size, 0, none⟩)) { w with heap := w.heap.push ob } → WrOk tb N w0 E m w v m' (Instr.range t x') := by
    intro o ob ho hob hv hm hrun
    obtain ⟨E', e1, e2, e3, _⟩ := H.newOb ho hob
    refine ⟨_, _, E', hrun, ?_, by rw [hm]; exact e2, by rw [hm]; exact e3⟩
    rw [hv]
    exact .ptr (o := 0) e1
  split at h1 <;> first | (simp at h1; done) | skip
  · rename_i s hd
    simp only [Option.some.injEq, Prod.mk.injEq] at h1
    cases hx
    exact fin _ (.stringIter s 0) rfl (fun E' _ => .strIter rfl (by simp)) h1.1.symm h1.2.symm (by simp [Instr.range, run_ty ok hi, hd])
  · rename_i kt et hd
    simp only [Option.some.injEq, Prod.mk.injEq] at h1
    cases hx
    exact fin _ (.mapIter none 0 #[] 0) rfl (fun E' _ => .mapIter0 _ _ _ rfl) h1.1.symm h1.2.symm (by simp [Instr.range, run_ty ok hi, hd])
  · rename_i kt et r hd
    obtain ⟨⟨es, c⟩, hm, h2⟩ := oB_some.1 h1
    simp only [Option.some.injEq, Prod.mk.injEq] at h2
    cases hx with
    | @map _ j hE =>
      obtain ⟨es', hh, hes⟩ := H.map hE hm
      exact fin _ (.mapIter (some j.blk) c #[] c) rfl (fun E' hle => .mapIter _ _ _ rfl (hle _ _ hE)) h2.1.symm h2.2.symm (by simp [Instr.range, run_ty ok hi, hd, run_getMap hh])
theorem putIter (H : MR tb.p N w0 E m w) {b : Nat} {i : Info} (hE : E b = some i) {o o2 : AObj} (hg : m.objs.get b = some o) (ho : o.own = true) (ho2 : o2.own = true) {ob ob2 : Obj} (hh : w.heap[i.blk]? = some ob) (hnc : ∀ c e f, ob ≠ .cells c e f) (h2 : ObjR tb.p E i o2 ob2) :
    (setObj i.blk ob2).run tb.p w = .ok () { w with heap := w.heap.setIfInBounds i.blk ob2 } ∧ MR tb.p N w0 E (putObj m b o2) { w with heap := w.heap.setIfInBounds i.blk ob2 } := by
  have hlt : i.blk < w.heap.size := (Array.getElem?_eq_some_iff.1 hh).1
  refine ⟨?_, ?_⟩
  · cases ob <;> first | (simp [setObj, Sem.run, hh]; done) | exact absurd rfl (hnc _ _ _)
  · refine H.put hE hg ho (.inl ho2) (by simp) ?_ rfl rfl rfl fun _ => ⟨_, by simp [hlt], h2⟩
    intro k hk
    simp only [Array.getElem?_setIfInBounds]
    rw [if_neg (fun e => hk e.symm)]
theorem run_nextStr (H : MR tb.p N w0 E m w) {b : Nat} {i : Info} (hE : E b = some i) (hs0 : i.shift = 0) {s : ByteArray} {pos : Nat} {rest : List UInt8} (hg : m.objs.get b = some (.strIter s pos rest)) (hh : w.heap[i.blk]? = some (.stringIter s pos)) (hr : rest = s.data.toList.drop pos)
    {v : Value} {m' : Mem} (h : nextStr m b s pos rest = some (v, m')) (ty : TypeId) : WrOk tb N w0 E m w v m' (Instr.next (.pointer (some ⟨i.blk, 0, none⟩)) true ty) := by
  have hget : (getObj i.blk).run tb.p w = .ok (.stringIter s pos) w := by simp [getObj, Sem.run, hh]
  unfold nextStr at h
  split at h
  · rename_i c rest
    split at h <;> first | (simp at h; done) | skip
    rename_i hc
    have hc : c.toNat < 128 := by simpa [Nat.blt_eq] using hc
    simp only [Option.some.injEq, Prod.mk.injEq] at h
    obtain ⟨rfl, rfl⟩ := h
    have hlt : pos < s.size := by
      have : (s.data.toList.drop pos).length = rest.length + 1 := by rw [← hr]; rfl
      simp only [List.length_drop, Array.length_toList] at this
      show pos < s.data.size
      omega
    have hcp : s[pos]'hlt = c := by
      have h1 : (s.data.toList.drop pos)[0]? = some c := by rw [← hr]; rfl
      rw [List.getElem?_drop, Nat.add_zero] at h1
      have h2 := (List.getElem?_eq_some_iff.1 h1).2
      rw [← h2]; rfl
    have hdec := decode_ascii s pos hlt (by rw [hcp]; exact hc)
    rw [hcp] at hdec
    obtain ⟨p1, p2⟩ := putIter H hE hg rfl (o2 := .strIter s (pos + 1) rest) rfl hh (by simp) (ob2 := .stringIter s (pos + 1)) (.strIter hs0 (by rw [List.drop_add_one_eq_tail_drop, ← hr]; rfl))
    refine ⟨.tuple #[.bool true, goInt pos, .int .i32 c.toNat], _, E, ?_, .tuple (.cons (.bool _) (.cons (by rw [vInt_eq]; exact .int _ _) (.cons (by rw [vInt_eq]; exact .int _ _) .nil))), p2, .put _ hE⟩
    unfold Instr.next
    simp only [Sem.run_bind, hget, Result.andThen_ok]
    rw [if_pos hlt, hdec]
    simp only [Sem.run_bind, p1, Result.andThen_ok]
    rfl
  · simp only [Option.some.injEq, Prod.mk.injEq] at h
    obtain ⟨rfl, rfl⟩ := h
    have hge : ¬ pos < s.size := by
      have : (s.data.toList.drop pos).length = 0 := by rw [← hr]; rfl
      simp only [List.length_drop, Array.length_toList] at this
      show ¬ pos < s.data.size
      omega
    refine ⟨.tuple #[.bool false], w, E, ?_, .tuple (.cons (.bool _) .nil), H, .refl _ _ _⟩
    unfold Instr.next
    simp only [Sem.run_bind, hget, Result.andThen_ok]
    rw [if_neg hge]; rfl
theorem unseen_rel {E : Env} {seen : List Nat} : ∀ {es es' : List MapEntry}, EntR E es es' → EntR E (unseen seen es) (es'.filter fun e => !seen.contains e.born) := by
  intro es es' h
  induction h with
  | nil => exact .nil
  | @cons k k' v v' b l l' hk hv t ih =>
    have : (seen.any (Nat.beq b)) = seen.contains b := by
      rw [List.contains_eq_any_beq]
      congr 1; funext x
      rw [beq_dec]; simp [BEq.beq, instBEqOfDecidableEq]
    simp only [unseen, List.filter_cons, this]
    cases seen.contains b with
    | true => exact ih
    | false => exact .cons hk hv ih
theorem born_rel {E : Env} {es es' : List MapEntry} (h : EntR E es es') {p : Nat → Bool} (ha : es.all (fun e => p e.born) = true) : ∀ e ∈ es', p e.born = true := by
  induction h with
  | nil => simp
  | cons hk hv t ih =>
    rw [List.all_cons, Bool.and_eq_true] at ha
    intro e he
    rcases List.mem_cons.1 he with rfl | he
    · exact ha.1
    · exact ih ha.2 e he
theorem run_nextMap (H : MR tb.p N w0 E m w) {b r : Nat} {i j : Info} (hE : E b = some i) (hr : E r = some j) (hs0 : i.shift = 0) {since last : Nat} {seen : List Nat} (hg : m.objs.get b = some (.mapIter (some r) since seen last)) (hh : w.heap[i.blk]? = some (.mapIter (some j.blk) since ⟨seen⟩ last))
    {v : Value} {m' : Mem} (h : nextMap m b r since seen last = some (v, m')) (ty : TypeId) : WrOk tb N w0 E m w v m' (Instr.next (.pointer (some ⟨i.blk, 0, none⟩)) false ty) := by
  have hget : (getObj i.blk).run tb.p w = .ok (.mapIter (some j.blk) since ⟨seen⟩ last) w := by simp [getObj, Sem.run, hh]
  unfold nextMap at h
  obtain ⟨⟨es, c⟩, hm, h1⟩ := oB_some.1 h
  clear h
  simp only at h1
  obtain ⟨es', hh', hes⟩ := H.map hr hm
  split at h1 <;> first | (simp at h1; done) | skip
  rename_i hck
  simp only [Bool.and_eq_true] at hck
  obtain ⟨⟨k1, k2⟩, k3⟩ := hck
  have k2 := Nat.eq_of_beq_eq_true k2
  have k3 := Nat.le_of_ble_eq_true k3
  subst k2
  have hborn : ∀ e ∈ es', e.born < since := fun e he => by simpa [Nat.blt_eq] using born_rel hes (p := fun n => Nat.blt n since) k1 e he
  have hguard : (!(⟨seen⟩ : Array Nat).isEmpty && !(⟨es'⟩ : Array MapEntry).isEmpty && (⟨es'⟩ : Array MapEntry).all (·.born ≥ last)) = false := by
    cases es' with
    | nil => simp
    | cons e es' =>
      have := hborn e (by simp)
      have hne : ¬ last ≤ e.born := by omega
      simp [hne]
  have hleft : (⟨es'⟩ : Array MapEntry).filter (fun e => !(⟨seen⟩ : Array Nat).contains e.born) = ⟨es'.filter fun e => !seen.contains e.born⟩ := by
    apply Array.ext'
    simp
  have hrel := unseen_rel (seen := seen) hes
  have hL : ∀ e ∈ es'.filter (fun e => !seen.contains e.born), e.born < since := fun e he => hborn e (List.mem_filter.1 he).1
  generalize hLd : es'.filter (fun e => !seen.contains e.born) = L at hrel hL hleft
  have hold : (⟨L⟩ : Array MapEntry).filter (·.born < since) = ⟨L⟩ := by
    apply Array.ext'
    simp only [Array.toList_filter]
    exact List.filter_eq_self.2 fun e he => by simpa using hL e he
  have hnew : (⟨L⟩ : Array MapEntry).filter (·.born ≥ since) = #[] := by
    apply Array.ext'
    simp only [Array.toList_filter]
    exact List.filter_eq_nil_iff.2 fun e he => by have := hL e he; simp; omega
  have hrun : (Instr.next (.pointer (some ⟨i.blk, 0, none⟩)) false ty).run tb.p w =
      ((choose (.mapNext ((if (⟨L⟩ : Array MapEntry).isEmpty then #[none] else #[]) ++ ((⟨L⟩ : Array MapEntry) ++ #[]).map some).size)).run tb.p w).andThen fun n w =>
        (match ((if (⟨L⟩ : Array MapEntry).isEmpty then #[none] else #[]) ++ ((⟨L⟩ : Array MapEntry) ++ #[]).map some)[n]? with
          | some (some e) => (do setObj i.blk (.mapIter (some j.blk) since ((⟨seen⟩ : Array Nat).push e.born) last); pure (.tuple #[.bool true, e.key, e.val]) : Sem Value)
          | some none => pure (.tuple #[.bool false])
          | none => stuck "Next: no such candidate").run tb.p w := by
    unfold Instr.next
    simp only [Sem.run_bind, hget, Result.andThen_ok, run_getMap hh', hguard, Bool.false_eq_true, if_false, hleft, hold, hnew]
    congr 1
  split at h1
  · rename_i hu
    rw [hu] at hrel
    cases hrel
    simp only [Option.some.injEq, Prod.mk.injEq] at h1
    obtain ⟨rfl, rfl⟩ := h1
    refine ⟨.tuple #[.bool false], w, E, ?_, .tuple (.cons (.bool _) .nil), H, .refl _ _ _⟩
    rw [hrun]
    simp [Question.forced]
  · rename_i e hu
    rw [hu] at hrel
    simp only [Option.some.injEq, Prod.mk.injEq] at h1
    obtain ⟨rfl, rfl⟩ := h1
    cases hrel with
    | @cons k k' v v' b0 l l' hk hv t =>
    cases t
    obtain ⟨p1, p2⟩ := putIter H hE hg rfl (o2 := .mapIter (some r) since (seen ++ [b0]) last) rfl hh (by simp) (ob2 := .mapIter (some j.blk) since ⟨seen ++ [b0]⟩ last) (.mapIter _ _ _ hs0 hr)
    refine ⟨.tuple #[.bool true, k', v'], _, E, ?_, .tuple (.cons (.bool _) (.cons hk (.cons hv .nil))), p2, .put _ hE⟩
    rw [hrun]
    have hp : (⟨seen⟩ : Array Nat).push b0 = ⟨seen ++ [b0]⟩ := by simp
    simp [Question.forced]
    rw [p1]
    rfl
  · simp at h1
theorem run_nextA (H : MR tb.p N w0 E m w) {it it' v : Value} (hit : VR E it it') {isS : Bool} {m' : Mem} (h : nextA m it isS = some (v, m')) (ty : TypeId) : WrOk tb N w0 E m w v m' (Instr.next it' isS ty) := by
  unfold nextA at h
  split at h <;> first | (simp at h; done) | skip
  rename_i b
  cases hit with
  | @ptr _ _ i hE =>
  split at h <;> first | (simp at h; done) | skip
  · rename_i s pos rest hg
    split at h <;> first | (simp at h; done) | skip
    obtain ⟨ob, h2, h3⟩ := H.objs _ _ _ hE hg rfl
    cases h3 with
    | strIter hs hr =>
      simp only [hs, Nat.add_zero]
      exact run_nextStr H hE hs hg h2 hr h ty
  · rename_i since seen st hg
    split at h <;> first | (simp at h; done) | skip
    simp only [Option.some.injEq, Prod.mk.injEq] at h
    obtain ⟨rfl, rfl⟩ := h
    obtain ⟨ob, h2, h3⟩ := H.objs _ _ _ hE hg rfl
    cases h3 with
    | mapIter0 _ _ _ hs =>
      refine ⟨.tuple #[.bool false], w, E, ?_, .tuple (.cons (.bool _) .nil), H, .refl _ _ _⟩
      have hget : (getObj i.blk).run tb.p w = .ok (.mapIter none since ⟨seen⟩ st) w := by simp [getObj, Sem.run, h2]
      unfold Instr.next
      simp only [hs, Nat.add_zero, Sem.run_bind, hget, Result.andThen_ok]
      rfl
  · rename_i r since seen last hg
    split at h <;> first | (simp at h; done) | skip
    obtain ⟨ob, h2, h3⟩ := H.objs _ _ _ hE hg rfl
    cases h3 with
    | mapIter _ _ _ hs hr =>
      simp only [hs, Nat.add_zero]
      exact run_nextMap H hE hr hs hg h2 h ty
end
end Go.Ev
namespace Go.Ev
open Go.RowKit

/-- what the model's operation yields, put beside the abstract value -/
def NxR (E : Env) (v : Value) (nx : Next) : Prop := (∃ v', nx = .value v' ∧ VR E v v') ∨ (nx = .skip ∧ v = undef)
def OpOut (tb : Tabs) (N : Nat) (w0 : World) (E : Env) (m : Mem) (w : World) (r : OR) (s : Sem Next) : Prop :=
  match r with
  | .r v => ∃ nx, s.run tb.p w = .ok nx w ∧ NxR E v nx
  | .f ob mk => ∀ b, E b = none → ∃ v' w' o' sh ex, s.run tb.p w = .ok (.value v') w' ∧ w'.heap = w.heap.push o' ∧ w'.os = w.os ∧ w'.tape = w.tape ∧ w'.output = w.output ∧
      ObjR tb.p (E.add b ⟨w.heap.size, sh, ex⟩) ⟨w.heap.size, sh, ex⟩ ob o' ∧ VR (E.add b ⟨w.heap.size, sh, ex⟩) (mk b) v' ∧ ob.own = true
  | .e v m' => ∃ nx w' E', s.run tb.p w = .ok nx w' ∧ NxR E' v nx ∧ MR tb.p N w0 E' m' w' ∧ MExt m.next E m E' m'
  | .c => True
  | .bad => True
section
variable {tb : Tabs} {N : Nat} {w0 : World} {E : Env} {m : Mem} {w : World}
theorem OpOut.of {r : OR} {s : Sem Value} (h : OpRes tb N w0 E m w r s) : OpOut tb N w0 E m w r (do pure (.value (← s))) := by
  cases r with
  | r v => obtain ⟨v', h1, h2⟩ := h; exact ⟨_, by simp [h1], .inl ⟨v', rfl, h2⟩⟩
  | f ob mk =>
    intro b hb
    obtain ⟨v', w', o', sh, ex, h1, h2⟩ := h b hb
    exact ⟨v', w', o', sh, ex, by simp [h1], h2⟩
  | e v m' =>
    obtain ⟨v', w', E', h1, h2, h3⟩ := h
    exact ⟨_, w', E', by simp [h1], .inl ⟨v', rfl, h2⟩, h3⟩
  | c => trivial
  | bad => trivial
theorem OpOut.ofU {r : OR} {s : Sem Unit} (h : OpResU tb N w0 E m w r s) : OpOut tb N w0 E m w r (do s; pure .skip) := by
  cases r with
  | r v => exact h.elim
  | f ob mk => exact h.elim
  | e v m' =>
    obtain ⟨rfl, w', E', h1, h2⟩ := h
    exact ⟨.skip, w', E', by simp [h1], .inr ⟨rfl, rfl⟩, h2⟩
  | c => trivial
  | bad => trivial
theorem OpRes.ofR {x : Option Value} {s : Sem Value} (h : ∀ v, x = some v → RdOk tb E w v s) : OpRes tb N w0 E m w (oR x) s := by
  cases x with
  | none => exact trivial
  | some v => exact h v rfl
theorem OpRes.ofE {x : Option (Value × Mem)} {s : Sem Value} (h : ∀ v m', x = some (v, m') → WrOk tb N w0 E m w v m' s) : OpRes tb N w0 E m w (oE x) s := by
  cases x with
  | none => exact trivial
  | some x => obtain ⟨v, m'⟩ := x; exact h v m' rfl
theorem evs_rel {t : T Value} {ρ : Operand → Value} : ∀ {l : List Operand}, (∀ x ∈ l, VR E (ev t x) (ρ x)) → VRs E (evs t l) (l.map ρ)
  | [], _ => .nil
  | x :: l, h => .cons (h x (by simp)) (evs_rel fun y hy => h y (by simp [hy]))
theorem evP_rel {t : T Value} {ρ : Operand → Value} : ∀ {l : List (Nat × Operand)}, (∀ x ∈ l.map (·.2), VR E (ev t x) (ρ x)) → PartsR E (evP t l) (l.map fun (i, x) => (i, ρ x))
  | [], _ => .nil
  | (i, x) :: l, h => .cons (h x (by simp)) (evP_rel fun y hy => h y (by simp at hy ⊢; exact .inr hy))
theorem evO_rel {t : T Value} {ρ : Operand → Value} : ∀ {o : Option Operand}, (∀ x, o = some x → VR E (ev t x) (ρ x)) → OVR E (evO t o) (o.map ρ)
  | none, _ => .none
  | some x, h => .some (h x rfl)
def nilCheckS (x : Value) : Sem Next :=
  match x with
    | .pointer none | .nilIface | .nilFunc => runtimePanic .nilDeref
    | .func (.method name) first captured =>
      match (first[0]? : Option Value) with
      | some .nilIface => runtimePanic .nilDeref
      | some (.iface t w) => do
        if (← nilAhead ((← program).types.size + Made.depth) t w name) != some false then
          unsupported (.noEntry "op/nilCheck.the method's receiver behind this interface value is a nil pointer, or cannot be seen to be none, and the arguments act or may panic (ledger 612)")
        pure (.value (.func (.method name) first captured))
      | _ => pure (.value (.func (.method name) first captured))
    | x => pure (.value x)
theorem VRs.one {E : Env} {x : Value} {l' : List Value} (h : VRs E [x] l') : ∃ x', l' = [x'] ∧ VR E x x' := by
  cases h with | cons h t => cases t; exact ⟨_, rfl, h⟩
theorem VRs.two {E : Env} {x y : Value} {l' : List Value} (h : VRs E [x, y] l') : ∃ x' y', l' = [x', y'] ∧ VR E x x' ∧ VR E y y' := by
  cases h with | cons h t => cases t with | cons h2 t => cases t; exact ⟨_, _, rfl, h, h2⟩
theorem VRs.hd {E : Env} {x : Value} {l l' : List Value} (h : VRs E (x :: l) l') : ∃ x' k', l' = x' :: k' ∧ VR E x x' ∧ VRs E l k' := by
  cases h with | cons h t => exact ⟨_, _, rfl, h, t⟩
theorem run_opNilCheck {x x' : Value} (hx : VR E x x') : OpOut tb N w0 E m w (opNilCheck x) (nilCheckS x') := by
  unfold opNilCheck
  split
  · exact trivial
  · exact trivial
  · exact trivial
  · exact trivial
  · rename_i h1 h2 h3 h4
    refine ⟨.value x', ?_, .inl ⟨x', rfl, hx⟩⟩
    cases hx <;> first | rfl | (exact absurd rfl h1) | (exact absurd rfl h2) | (exact absurd rfl h3) | skip
    rename_i fn _ _ _ _ _ _ _
    cases fn <;> first | rfl | (exact absurd rfl (h4 _ _ _))
theorem run_maxMin {k : IntKind} {n : Int} {l l' : List Value} (hl : VRs E l l') (tys : Array TypeId) (ty : TypeId) :
    OpRes tb N w0 E m w (oR (maxI k n l)) (Builtin.max_ tys ty ⟨.int k n :: l'⟩) ∧ OpRes tb N w0 E m w (oR (minI k n l)) (Builtin.min_ tys ty ⟨.int k n :: l'⟩) :=
  ⟨OpRes.ofR fun v hv => let ⟨h1, h2⟩ := run_maxI (P := tb.p) (w := w) hl hv; ⟨v, h1, h2⟩, OpRes.ofR fun v hv => let ⟨h1, h2⟩ := run_minI (P := tb.p) (w := w) hl hv; ⟨v, h1, h2⟩⟩
theorem run_opBuiltin (ok : TabsOk tb) (H : MR tb.p N w0 E m w) {b : Builtin} {tys : List TypeId} {ty : TypeId} {cs : Array Bool} {args args' : List Value} (ha : VRs E args args') :
    OpOut tb N w0 E m w (opBuiltin tb m b tys args) (builtin b ⟨tys⟩ ty cs ⟨args'⟩) := by
  unfold opBuiltin
  cases b <;> try exact trivial
  case append =>
    simp only
    split <;> first | exact trivial | skip
    obtain ⟨_, _, rfl, h1, h2⟩ := ha.two
    exact OpOut.of (OpRes.ofE fun v m' h => run_appendA ok H h1 h2 h ty)
  case cap =>
    simp only
    split <;> first | exact trivial | skip
    obtain ⟨_, rfl, h1⟩ := ha.one
    exact OpOut.of (OpRes.ofR fun v h => let ⟨q1, q2⟩ := run_capA ok H h1 h; ⟨v, q1, q2⟩)
  case clear =>
    simp only
    split <;> first | exact trivial | skip
    obtain ⟨_, rfl, h1⟩ := ha.one
    split <;> first | exact trivial | skip
    rename_i h
    exact OpOut.of (r := .e undef _) (run_clearA ok H h1 h ty)
  case copy =>
    simp only
    split <;> first | exact trivial | skip
    obtain ⟨_, _, rfl, h1, h2⟩ := ha.two
    exact OpOut.of (OpRes.ofE fun v m' h => run_copyA ok H h1 h2 h ty)
  case delete =>
    simp only
    split <;> first | exact trivial | skip
    obtain ⟨_, _, rfl, h1, h2⟩ := ha.two
    split <;> first | exact trivial | skip
    rename_i h
    exact OpOut.of (r := .e undef _) (run_deleteA ok H h1 h2 h ty)
  case len =>
    simp only
    split <;> first | exact trivial | skip
    obtain ⟨_, rfl, h1⟩ := ha.one
    exact OpOut.of (OpRes.ofR fun v h => let ⟨q1, q2⟩ := run_lenA ok H h1 h; ⟨v, q1, q2⟩)
  case max =>
    simp only
    split <;> first | exact trivial | skip
    obtain ⟨_, _, rfl, h1, h3⟩ := ha.hd
    cases h1
    exact OpOut.of (run_maxMin h3 _ _).1
  case min =>
    simp only
    split <;> first | exact trivial | skip
    obtain ⟨_, _, rfl, h1, h3⟩ := ha.hd
    cases h1
    exact OpOut.of (run_maxMin h3 _ _).2
  case unsafeSliceData =>
    simp only
    split <;> first | exact trivial | skip
    · obtain ⟨_, rfl, h1⟩ := ha.one
      cases h1
      exact OpOut.of (r := .r (.pointer none)) ⟨.pointer none, rfl, .ptrNil⟩
    · obtain ⟨_, rfl, h1⟩ := ha.one
      split <;> first | exact trivial | skip
      · rename_i hsp
        cases h1 with
        | @sl b o q l c h =>
          refine OpOut.of (r := .r _) ⟨.pointer (some ⟨q.blk, q.shift + o, none⟩), ?_, .ptr h⟩
          rename_i k _
          obtain ⟨k', hk⟩ : ∃ k', k + 1 + q.extra = k' + 1 := ⟨k + q.extra, by omega⟩
          rw [hk]; rfl
        | slX l c h => simp at hsp
      · rename_i hsp
        cases h1 with
        | sl l c h => simp at hsp
        | slX l c h => exact OpOut.of (r := .r _) ⟨_, rfl, .ptr h⟩
  case unsafeString =>
    simp only
    split <;> first | exact trivial | skip
    obtain ⟨_, _, rfl, h1, h2⟩ := ha.two
    cases h2
    exact OpOut.of (run_opUnsafeString ok H h1 ty)
theorem run_opA (ok : TabsOk tb) (H : MR tb.p N w0 E m w) {t : T Value} {ρ : Operand → Value} {o : Oper} (hρ : ∀ x ∈ o.op.operands.toList, VR E (ev t x) (ρ x)) : OpOut tb N w0 E m w (opA o.op tb t m) (execOp ρ o) := by
  unfold execOp opA
  cases ho : o.op <;> simp only [ho] <;> rw [ho] at hρ <;> simp only [Op.operands] at hρ <;> try exact trivial
  case move x => exact ⟨_, rfl, .inl ⟨_, rfl, hρ x (by simp)⟩⟩
  case assign x => exact ⟨_, w, E, rfl, .inl ⟨_, rfl, hρ x (by simp)⟩, H, .refl _ _ _⟩
  case pick c a b =>
    unfold kPick opPick
    have hc := hρ c (by simp); have ha := hρ a (by simp); have hb := hρ b (by simp)
    split <;> first | exact trivial | skip
    · rename_i h; rw [h] at hc
      generalize ρ c = c' at hc
      cases hc
      exact ⟨_, by simp [asBool], .inl ⟨_, rfl, ha⟩⟩
    · rename_i h; rw [h] at hc
      generalize ρ c = c' at hc
      cases hc
      exact ⟨_, by simp [asBool], .inl ⟨_, rfl, hb⟩⟩
  case alloc e => exact OpOut.of (run_opAlloc ok)
  case box e x => exact OpOut.of (run_opBox (hρ x (by simp)))
  case build ty ps =>
    have hp : (ps.map fun (i, x) => (i, ρ x)) = ⟨ps.toList.map fun (i, x) => (i, ρ x)⟩ := by apply Array.ext'; simp
    rw [hp]
    exact OpOut.of (OpRes.ofR fun v h => run_buildA ok (evP_rel (ρ := ρ) (by simpa using hρ)) h)
  case buildSlice ty n ps =>
    have hp : (ps.map fun (i, x) => (i, ρ x)) = ⟨ps.toList.map fun (i, x) => (i, ρ x)⟩ := by apply Array.ext'; simp
    rw [hp]
    exact OpOut.of (run_opBuildSlice ok (evP_rel (ρ := ρ) (by simpa using hρ)))
  case load ty a =>
    unfold kLoad opLoad
    have ha := hρ a (by simp)
    split <;> first | exact trivial | skip
    rename_i h; rw [h] at ha
    generalize ρ a = a' at ha
    cases ha with
    | ptr hE =>
      refine OpOut.of (OpRes.ofR fun v hv => ?_)
      obtain ⟨v', q1, q2⟩ := run_loadA ok H hE hv
      exact ⟨v', by simpa [Instr.loadAt, Instr.sureAddr] using q1, q2⟩
  case store ty a x => exact OpOut.ofU (run_opStore ok H (hρ a (by simp)) (hρ x (by simp)))
  case nilCheck x => exact run_opNilCheck (x' := ρ x) (hρ x (by simp))
  case binOp op ty x y yt => exact OpOut.of (OpRes.ofR fun v h => let ⟨q1, q2⟩ := run_binA ok H (hρ x (by simp)) (hρ y (by simp)) h; ⟨v, q1, q2⟩)
  case unOp op ty x =>
    refine OpOut.of (OpRes.ofR fun v h => ?_)
    have hx := hρ x (by simp)
    have hflat : ρ x = ev t x ∧ VR E v v := by
      unfold unA at h
      split at h
      · rename_i hh; rw [hh] at hx; rw [hh]
        generalize ρ x = x' at hx
        cases hx
        simp only [Option.some.injEq] at h; subst h
        exact ⟨rfl, by rw [vInt_eq]; exact .int _ _⟩
      · rename_i hh; rw [hh] at hx; rw [hh]
        generalize ρ x = x' at hx
        cases hx
        obtain ⟨n, _, rfl⟩ := oI_some h
        exact ⟨rfl, .int _ _⟩
      · rename_i hh; rw [hh] at hx; rw [hh]
        generalize ρ x = x' at hx
        cases hx
        simp only [Option.some.injEq] at h; subst h
        exact ⟨rfl, .bool _⟩
      · simp at h
    rw [hflat.1]
    exact ⟨v, run_unA h, hflat.2⟩
  case convert s d x => exact OpOut.of (run_opConv ok H (hρ x (by simp)))
  case makeInterface ty x =>
    unfold kMakeInterface opMkIface
    split <;> first | exact trivial | skip
    rename_i i hi
    split <;> first | exact trivial | skip
    rename_i hd
    refine OpOut.of (r := .r _) ⟨.iface ty (ρ x), ?_, .iface _ (hρ x (by simp))⟩
    unfold Instr.makeInterface
    simp only [Sem.run_bind, run_ty ok hi, Result.andThen_ok]
    rfl
  case makeFunc fn f c =>
    unfold kMakeFunc
    split <;> first | exact trivial | skip
    rename_i hy
    have h1 : f.map ρ = ⟨f.toList.map ρ⟩ := by apply Array.ext'; simp
    have h2 : c.map ρ = ⟨c.toList.map ρ⟩ := by apply Array.ext'; simp
    rw [h1, h2]
    exact OpOut.of (r := .r _) ⟨_, rfl, .func (fun l => hy l) (evs_rel fun x hx => hρ x (by simp at hx ⊢; exact .inl hx)) (evs_rel fun x hx => hρ x (by simp at hx ⊢; exact .inr hx))⟩
  case makeMap ty r => exact OpOut.of (run_opMakeMap (evO_rel fun x hx => hρ x (by rw [hx]; simp)))
  case makeSlice ty l c => exact OpOut.of (run_opMakeSlice ok (hρ l (by simp)) (hρ c (by simp)))
  case slice ty x lo hi mx => exact OpOut.of (OpRes.ofR fun v h => run_sliceA ok H (hρ x (by simp)) (evO_rel fun y hy => hρ y (by rw [hy]; simp)) (evO_rel fun y hy => hρ y (by rw [hy]; simp)) (evO_rel fun y hy => hρ y (by rw [hy]; simp)) h)
  case sliceToArrayPointer arr x => exact OpOut.of (run_opSAP ok (hρ x (by simp)))
  case fieldAddr ty x f => exact OpOut.of (OpRes.ofR fun v h => run_fieldAddrA ok (hρ x (by simp)) h)
  case field ty x f => exact OpOut.of (OpRes.ofR fun v h => run_fieldA ok (hρ x (by simp)) h)
  case indexAddr ty x i => exact OpOut.of (OpRes.ofR fun v h => run_indexAddrA ok (hρ x (by simp)) (hρ i (by simp)) h)
  case index ty x i => exact OpOut.of (OpRes.ofR fun v h => run_indexA ok (hρ x (by simp)) (hρ i (by simp)) h)
  case lookup ty x k cok => exact OpOut.of (OpRes.ofR fun v h => run_lookupA ok H (hρ x (by simp)) (hρ k (by simp)) h)
  case mapUpdate ty a k x => exact OpOut.ofU (OpResU.of fun m' h => run_mapUpdateA ok H (hρ a (by simp)) (hρ k (by simp)) (hρ x (by simp)) h)
  case insert ty a k x => exact OpOut.ofU (OpResU.of fun m' h => run_mapUpdateA ok H (hρ a (by simp)) (hρ k (by simp)) (hρ x (by simp)) h)
  case mapEntry ty a k => exact OpOut.of (OpRes.ofE fun v m' h => run_mapEntryA ok H (hρ a (by simp)) (hρ k (by simp)) h)
  case entryStore ty a s x => exact OpOut.ofU (OpResU.of fun m' h => run_entryStoreA ok H (hρ a (by simp)) (hρ s (by simp)) (hρ x (by simp)) h)
  case range ty x => exact OpOut.of (OpRes.ofE fun v m' h => run_rangeA ok H (hρ x (by simp)) h)
  case next it s => exact OpOut.of (OpRes.ofE fun v m' h => run_nextA H (hρ it (by simp)) h _)
  case entry it => exact OpOut.of (OpRes.ofR fun v h => run_entryA ok H (hρ it (by simp)) h)
  case typeAssert x xt a cok => exact OpOut.of (OpRes.ofR fun v h => run_typeAssertA ok (hρ x (by simp)) h)
  case extract x i =>
    unfold kExtract opExtract
    have hx := hρ x (by simp)
    split <;> first | exact trivial | skip
    rename_i vs h; rw [h] at hx
    generalize ρ x = x' at hx
    cases hx with
    | tuple hx =>
      refine OpOut.of (OpRes.ofR fun v hv => ?_)
      obtain ⟨v', q1, q2⟩ := hx.get i v hv
      refine ⟨v', ?_, q2⟩
      rename_i a' 
      have : (⟨a'⟩ : Array Value)[i]? = some v' := by simpa using q1
      simp [Instr.extract, this]
  case call c =>
    unfold kCall opCall
    obtain ⟨cl, ⟨args⟩, ⟨tys⟩⟩ := c
    cases cl with
    | builtin b =>
      simp only
      have ha : VRs E (evs t args) (args.map ρ) := evs_rel fun x hx => hρ x (by simp [Call.operands]; exact hx)
      have hm : (⟨args⟩ : Array Operand).map ρ = ⟨args.map ρ⟩ := by apply Array.ext'; simp
      have := run_opBuiltin ok H (b := b) (tys := tys) (ty := o.type) (cs := (⟨args⟩ : Array Operand).map fun | .const _ => true | _ => false) ha
      rw [← hm] at this
      exact this
    | _ => exact trivial
end
end Go.Ev
namespace Go.Ev

variable {tb : Tabs}
theorem evs_congr {t t' : T Value} : ∀ {l : List Operand}, (∀ x ∈ l, ev t x = ev t' x) → evs t l = evs t' l
  | [], _ => rfl
  | x :: l, h => by simp only [evs]; rw [h x (by simp), evs_congr fun y hy => h y (by simp [hy])]
theorem evP_congr {t t' : T Value} : ∀ {l : List (Nat × Operand)}, (∀ x ∈ l.map (·.2), ev t x = ev t' x) → evP t l = evP t' l
  | [], _ => rfl
  | (i, x) :: l, h => by
    simp only [evP]; rw [h x (by simp), evP_congr fun y hy => h y (by simp at hy ⊢; exact .inr hy)]
theorem evO_congr {t t' : T Value} : ∀ {o : Option Operand}, (∀ x, o = some x → ev t x = ev t' x) → evO t o = evO t' o
  | none, _ => rfl
  | some x, h => by simp only [evO]; rw [h x rfl]
/-- an operation looks at its operands alone -/
theorem opA_congr {o : Op} {t t' : T Value} (h : ∀ x ∈ o.operands.toList, ev t x = ev t' x) (m : Mem) : opA o tb t m = opA o tb t' m := by
  cases o <;> simp only [Op.operands] at h <;> try rfl
  case move x => simp only [opA, kMove]; rw [h x (by simp)]
  case assign x => simp only [opA, kAssign]; rw [h x (by simp)]
  case pick c a b => simp only [opA, kPick]; rw [h c (by simp), h a (by simp), h b (by simp)]
  case box e x => simp only [opA, kBox]; rw [h x (by simp)]
  case build ty ps => simp only [opA, kBuild]; rw [evP_congr (by simpa using h)]
  case buildSlice ty n ps => simp only [opA, kBuildSlice]; rw [evP_congr (by simpa using h)]
  case insert ty a k x => simp only [opA, kInsert]; rw [h a (by simp), h k (by simp), h x (by simp)]
  case load ty a => simp only [opA, kLoad]; rw [h a (by simp)]
  case store ty a x => simp only [opA, kStore]; rw [h a (by simp), h x (by simp)]
  case nilCheck x => simp only [opA, kNilCheck]; rw [h x (by simp)]
  case binOp op ty x y yt => simp only [opA, kBinOp]; rw [h x (by simp), h y (by simp)]
  case unOp op ty x => simp only [opA, kUnOp]; rw [h x (by simp)]
  case convert s d x => simp only [opA, kConvert]; rw [h x (by simp)]
  case sliceToArrayPointer a x => simp only [opA, kSliceToArrayPointer]; rw [h x (by simp)]
  case makeInterface ty x => simp only [opA, kMakeInterface]; rw [h x (by simp)]
  case makeFunc fn f c =>
    simp only [opA, kMakeFunc]
    rw [evs_congr (l := f.toList) fun x hx => h x (by simp at hx ⊢; exact .inl hx), evs_congr (l := c.toList) fun x hx => h x (by simp at hx ⊢; exact .inr hx)]
  case makeMap ty r => simp only [opA, kMakeMap]; rw [evO_congr fun x hx => h x (by rw [hx]; simp)]
  case makeSlice ty l c => simp only [opA, kMakeSlice]; rw [h l (by simp), h c (by simp)]
  case slice ty x lo hi mx =>
    simp only [opA, kSlice]
    rw [h x (by simp), evO_congr (o := lo) fun x hx => h x (by rw [hx]; simp), evO_congr (o := hi) fun x hx => h x (by rw [hx]; simp), evO_congr (o := mx) fun x hx => h x (by rw [hx]; simp)]
  case fieldAddr ty x f => simp only [opA, kFieldAddr]; rw [h x (by simp)]
  case field ty x f => simp only [opA, kField]; rw [h x (by simp)]
  case indexAddr ty x i => simp only [opA, kIndexAddr]; rw [h x (by simp), h i (by simp)]
  case index ty x i => simp only [opA, kIndex]; rw [h x (by simp), h i (by simp)]
  case lookup ty x k ok => simp only [opA, kLookup]; rw [h x (by simp), h k (by simp)]
  case mapUpdate ty a k x => simp only [opA, kMapUpdate]; rw [h a (by simp), h k (by simp), h x (by simp)]
  case mapEntry ty a k => simp only [opA, kMapEntry]; rw [h a (by simp), h k (by simp)]
  case entryStore ty a s x => simp only [opA, kEntryStore]; rw [h a (by simp), h s (by simp), h x (by simp)]
  case range ty x => simp only [opA, kRange]; rw [h x (by simp)]
  case next it s => simp only [opA, kNext]; rw [h it (by simp)]
  case entry it => simp only [opA, kEntry]; rw [h it (by simp)]
  case typeAssert x xt a ok => simp only [opA, kTypeAssert]; rw [h x (by simp)]
  case extract x i => simp only [opA, kExtract]; rw [h x (by simp)]
  case call c =>
    simp only [opA, kCall, opCall]
    rw [evs_congr (l := c.args.toList) fun x hx => h x (by simp [Call.operands]; exact .inr (by simpa using hx))]
theorem oR_f {x : Option Value} {ob : AObj} {mk : Nat → Value} (h : oR x = .f ob mk) : False := by cases x <;> simp [oR] at h
theorem oE_f {x : Option (Value × Mem)} {ob : AObj} {mk : Nat → Value} (h : oE x = .f ob mk) : False := by
  cases x with
  | none => simp [oE] at h
  | some x => obtain ⟨_, _⟩ := x; simp [oE] at h
theorem oM_f {x : Option Mem} {ob : AObj} {mk : Nat → Value} (h : oM x = .f ob mk) : False := by cases x <;> simp [oM] at h
theorem convSl_f {m : Mem} {same : Bool} {s d : TypeDesc} {x : Value} {a : Addr} {l : Nat} {ob : AObj} {mk : Nat → Value} (h : convSl tb m same s d x a l = .f ob mk) : False := by
  unfold convSl at h
  repeat (split at h <;> try (simp at h; done))
theorem convPtr_f {m : Mem} {s d : TypeDesc} {a : Addr} {ob : AObj} {mk : Nat → Value} (h : convPtr tb m s d a = .f ob mk) : False := by
  unfold convPtr at h
  repeat (split at h <;> try (simp at h; done))
theorem opUnsafeString_f {m : Mem} {tys : List TypeId} {p : Option Addr} {n : Nat} {ob : AObj} {mk : Nat → Value} (h : opUnsafeString tb m tys p n = .f ob mk) : False := by
  unfold opUnsafeString at h
  repeat (split at h <;> try (simp at h; done))
theorem opBuiltin_f {m : Mem} {b : Builtin} {tys : List TypeId} {args : List Value} {ob : AObj} {mk : Nat → Value} (h : opBuiltin tb m b tys args = .f ob mk) : False := by
  unfold opBuiltin at h
  split at h <;> first | (simp at h; done) | skip
  all_goals (repeat (split at h <;> try (simp at h; done)))
  all_goals first | exact oR_f h | exact oE_f h | exact oM_f h | exact opUnsafeString_f h | skip
/-- what makes an object looks at no memory -/
theorem opA_f {o : Op} {t : T Value} {m : Mem} {ob : AObj} {mk : Nat → Value} (h : opA o tb t m = .f ob mk) (m' : Mem) : opA o tb t m' = .f ob mk := by
  cases o <;> try exact h
  all_goals first
    | exact absurd h (fun h => oR_f h)
    | exact absurd h (fun h => oE_f h)
    | exact absurd h (fun h => oM_f h)
    | skip
  case assign x => simp [opA, kAssign] at h
  case load ty a =>
    simp only [opA, kLoad, opLoad] at h
    split at h
    · exact absurd h (fun h => oR_f h)
    · simp at h
  case store ty a x =>
    simp only [opA, kStore, opStore] at h
    split at h
    · exact absurd h (fun h => oM_f h)
    · simp at h
  case convert s d x =>
    simp only [opA, kConvert, opConv] at h ⊢
    split at h <;> first | (simp at h; done) | skip
    rename_i s d hs hd
    split at h
    · exact h
    · exact h
    · exact h
    · exact absurd h (fun h => convSl_f h)
    · exact absurd h (fun h => convPtr_f h)
    · simp at h
  case call c =>
    simp only [opA, kCall, opCall] at h ⊢
    split at h
    · exact absurd h (fun h => opBuiltin_f h)
    · simp at h
/-- what is pure looks at no memory -/
theorem opA_pure {o : Op} (h : isPure o = true) (t : T Value) (m m' : Mem) : opA o tb t m = opA o tb t m' := by
  cases o <;> first | rfl | (simp [isPure] at h)
/-! ### a greater memory -/
def Sub (m m' : Mem) : Prop := ∀ b o, m.objs.get b = some o → m'.objs.get b = some o
theorem Sub.refl (m : Mem) : Sub m m := fun _ _ h => h
theorem Sub.trans {a b c : Mem} (h : Sub a b) (k : Sub b c) : Sub a c := fun x o e => k x o (h x o e)
section
variable {m m' : Mem} (S : Sub m m')
include S
theorem rowOf_sub {b : Nat} {r : Row} (h : rowOf m b = some r) : rowOf m' b = some r := by
  unfold rowOf at h ⊢
  split at h <;> first | (simp at h; done) | skip
  · rename_i q hq; rw [S _ _ hq]; exact h
  · rename_i q hq; rw [S _ _ hq]; exact h
theorem rowW_sub {b : Nat} {r : Row} (h : rowW m b = some r) : rowW m' b = some r := by
  unfold rowW at h ⊢
  split at h <;> first | (simp at h; done) | skip
  rename_i q hq; rw [S _ _ hq]; exact h
theorem mapOf_sub {b : Nat} {r : List MapEntry × Nat} (h : mapOf m b = some r) : mapOf m' b = some r := by
  unfold mapOf at h ⊢
  split at h <;> first | (simp at h; done) | skip
  rename_i q c hq; rw [S _ _ hq]; exact h
theorem loadA_sub {t b o : Nat} {v : Value} (h : loadA tb t m b o = some v) : loadA tb t m' b o = some v := by
  unfold loadA at h ⊢
  obtain ⟨i, hi, h⟩ := oB_some.1 h
  obtain ⟨r, hr, h⟩ := oB_some.1 h
  rw [hi]; simp only [oB]; rw [rowOf_sub S hr]; exact h
theorem bytesAt_sub {b o n : Nat} {v : ByteArray} (h : bytesAt m b o n = some v) : bytesAt m' b o n = some v := by
  unfold bytesAt at h ⊢
  obtain ⟨r, hr, h⟩ := oB_some.1 h
  rw [rowOf_sub S hr]; exact h
theorem ptrEq_sub {a b : Addr} {r : Bool} (h : ptrEq m a b = some r) : ptrEq m' a b = some r := by
  unfold ptrEq at h ⊢
  split at h
  · exact h
  · split at h <;> first | (simp at h; done) | skip
    rename_i r q hr hq
    rw [rowOf_sub S hr, rowOf_sub S hq]; exact h
theorem eqPtr_sub {a b : Option Addr} {r : Bool} (h : eqPtr m a b = some r) : eqPtr m' a b = some r := by
  unfold eqPtr at h ⊢
  split at h <;> first | exact h | exact ptrEq_sub S h
theorem eqPt_sub {e : TypeId} {x y : Value} {r : Bool} (h : eqPt tb m e x y = some r) : eqPt tb m' e x y = some r := by
  unfold eqPt at h ⊢
  split at h <;> first | (simp at h; done) | skip
  obtain ⟨i, hi, h⟩ := oB_some.1 h
  rw [hi]; simp only [oB]
  split at h
  · simp at h
  · exact eqPtr_sub S h
omit S in
theorem eqFields_mono {eq eq' : TypeId → Value → Value → Option Bool} (he : ∀ t x y r, eq t x y = some r → eq' t x y = some r) {xs ys : List Value} : ∀ {fs : List (Nat × Nat × TypeId × Bool)} {r : Bool}, eqFields tb eq xs ys fs = some r → eqFields tb eq' xs ys fs = some r
  | [], r, h => h
  | (o, s, t, b) :: fs, r, h => by
    simp only [eqFields] at h ⊢
    cases b with
    | true => exact eqFields_mono he h
    | false =>
      obtain ⟨x, hx, h⟩ := oB_some.1 h
      obtain ⟨y, hy, h⟩ := oB_some.1 h
      obtain ⟨q, hq, h⟩ := oB_some.1 h
      simp only
      rw [hx]; simp only [oB]; rw [hy]; simp only [he _ _ _ _ hq]
      cases q with
      | true => exact eqFields_mono he h
      | false => exact h
omit S in
theorem eqElems_mono {eq eq' : TypeId → Value → Value → Option Bool} (he : ∀ t x y r, eq t x y = some r → eq' t x y = some r) {elem n : Nat} {xs ys : List Value} : ∀ {k i : Nat} {r : Bool}, eqElems tb eq elem n xs ys k i = some r → eqElems tb eq' elem n xs ys k i = some r
  | 0, i, r, h => h
  | k + 1, i, r, h => by
    simp only [eqElems] at h ⊢
    obtain ⟨x, hx, h⟩ := oB_some.1 h
    obtain ⟨y, hy, h⟩ := oB_some.1 h
    obtain ⟨q, hq, h⟩ := oB_some.1 h
    rw [hx]; simp only [oB]; rw [hy]; simp only [he _ _ _ _ hq]
    cases q with
    | true => exact eqElems_mono he h
    | false => exact h
omit S in
theorem eqIf_mono {eq eq' : TypeId → Value → Value → Option Bool} (he : ∀ t x y r, eq t x y = some r → eq' t x y = some r) {x y : Value} {r : Bool} (h : eqIf tb eq x y = some r) : eqIf tb eq' x y = some r := by
  unfold eqIf at h ⊢
  split at h <;> try exact h
  split at h <;> try exact h
  rename_i hb
  obtain ⟨j, hj, h⟩ := oB_some.1 h
  simp only [hj, oB]
  split at h <;> first | (simp at h; done) | skip
  exact he _ _ _ _ h
omit S in
theorem eqSt_mono {eq eq' : TypeId → Value → Value → Option Bool} (he : ∀ t x y r, eq t x y = some r → eq' t x y = some r) {i : TI} {x y : Value} {r : Bool} (h : eqSt tb eq i x y = some r) : eqSt tb eq' i x y = some r := by
  unfold eqSt at h ⊢
  split at h <;> try exact h
  split at h <;> try exact h
  exact eqFields_mono he h
omit S in
theorem eqAr_mono {eq eq' : TypeId → Value → Value → Option Bool} (he : ∀ t x y r, eq t x y = some r → eq' t x y = some r) {n : Nat} {e : TypeId} {x y : Value} {r : Bool} (h : eqAr tb eq n e x y = some r) : eqAr tb eq' n e x y = some r := by
  unfold eqAr at h ⊢
  split at h <;> try exact h
  obtain ⟨j, hj, h⟩ := oB_some.1 h
  rw [hj]; simp only [oB]
  exact eqElems_mono he h
theorem eqA_sub : ∀ (d : Nat) (t : TypeId) (x y : Value) (r : Bool), eqA tb m d t x y = some r → eqA tb m' d t x y = some r
  | 0, _, _, _, _, h => by simp [eqA] at h
  | d + 1, t, x, y, r, h => by
    simp only [eqA] at h ⊢
    obtain ⟨i, hi, h⟩ := oB_some.1 h
    rw [hi]; simp only [oB]
    cases hd : i.d <;> rw [hd] at h <;> simp only at h ⊢ <;>
      first | exact h | exact eqPt_sub S h | exact eqIf_mono (eqA_sub d) h | exact eqSt_mono (eqA_sub d) h | exact eqAr_mono (eqA_sub d) h
theorem binA_sub {op : BinOp} {t : TypeId} {x y : Operand} {a b v : Value} (h : binA tb m op t x y a b = some v) : binA tb m' op t x y a b = some v := by
  have key : ∀ {r : Bool}, eqOp tb m t x y a b = some r → eqOp tb m' t x y a b = some r := by
    intro r h
    unfold eqOp at h ⊢
    split at h
    · exact eqA_sub S _ _ _ _ _ h
    · simp at h
  unfold binA at h ⊢
  split at h <;> try exact h
  split at h <;> try exact h
  · obtain ⟨r, hr, h⟩ := oB_some.1 h
    rw [key hr]; exact h
  · obtain ⟨r, hr, h⟩ := oB_some.1 h
    rw [key hr]; exact h
theorem sliceA_sub {t : TypeId} {x v : Value} {lo hi mx : Option Value} (h : sliceA tb t m x lo hi mx = some v) : sliceA tb t m' x lo hi mx = some v := by
  unfold sliceA at h ⊢
  obtain ⟨i, hi', h⟩ := oB_some.1 h
  rw [hi']; simp only [oB]
  split at h <;> try exact h
  · obtain ⟨⟨l, h0, q⟩, hb, h⟩ := oB_some.1 h
    obtain ⟨e, he, h⟩ := oB_some.1 h
    obtain ⟨r, hr, h⟩ := oB_some.1 h
    rw [hb]; simp only; rw [he]; simp only; rw [rowOf_sub S hr]; exact h
  · obtain ⟨⟨l, h0, q⟩, hb, h⟩ := oB_some.1 h
    obtain ⟨e, he, h⟩ := oB_some.1 h
    obtain ⟨r, hr, h⟩ := oB_some.1 h
    rw [hb]; simp only; rw [he]; simp only; rw [rowOf_sub S hr]; exact h
theorem lenA_sub {t : TypeId} {x v : Value} (h : lenA tb t m x = some v) : lenA tb t m' x = some v := by
  unfold lenA at h ⊢
  split at h <;> try exact h
  obtain ⟨i, hi, h⟩ := oB_some.1 h
  rw [hi]; simp only [oB]
  split at h <;> try exact h
  split at h <;> first | (simp at h; done) | skip
  rename_i hq
  rw [S _ _ hq]; exact h
theorem capA_sub {t : TypeId} {x v : Value} (h : capA tb t m x = some v) : capA tb t m' x = some v := by
  unfold capA at h ⊢
  split at h <;> try exact h
  obtain ⟨i, hi, h⟩ := oB_some.1 h
  rw [hi]; simp only [oB]
  split at h <;> try exact h
  split at h <;> try exact h
  obtain ⟨r, hr, h⟩ := oB_some.1 h
  rw [rowOf_sub S hr]; exact h
theorem keyFind_sub {kt : TypeId} {k : Value} : ∀ {es : List MapEntry} {i : Nat} {q : Option (Nat × Value)}, keyFind tb m kt k es i = some q → keyFind tb m' kt k es i = some q
  | [], i, q, h => h
  | e :: es, i, q, h => by
    simp only [keyFind] at h ⊢
    obtain ⟨r, hr, h⟩ := oB_some.1 h
    rw [eqA_sub S _ _ _ _ _ hr]; simp only [oB]
    cases r with
    | true => exact h
    | false => exact keyFind_sub h
theorem lookupA_sub {t : TypeId} {x k v : Value} {ok : Bool} (h : lookupA tb t m x k ok = some v) : lookupA tb t m' x k ok = some v := by
  unfold lookupA at h ⊢
  obtain ⟨i, hi, h⟩ := oB_some.1 h
  rw [hi]; simp only [oB]
  split at h <;> try exact h
  split at h <;> try exact h
  split at h <;> try exact h
  obtain ⟨⟨es, c⟩, hm, h⟩ := oB_some.1 h
  obtain ⟨q, hq, h⟩ := oB_some.1 h
  rw [mapOf_sub S hm]; simp only; rw [keyFind_sub S hq]; exact h
theorem entryA_sub {it v : Value} (h : entryA m it = some v) : entryA m' it = some v := by
  unfold entryA at h ⊢
  split at h <;> try exact h
  split at h <;> first | (simp at h; done) | skip
  rename_i hq
  rw [S _ _ hq]; simp only
  split at h <;> try exact h
  rename_i hl
  obtain ⟨⟨es, c⟩, hm, h⟩ := oB_some.1 h
  rw [mapOf_sub S hm]; exact h
omit S in
theorem oR_sub {x x' : Option Value} (hx : ∀ v, x = some v → x' = some v) {v : Value} (h : oR x = .r v) : oR x' = .r v := by
  cases x with
  | none => simp [oR] at h
  | some u => simp only [oR, OR.r.injEq] at h; subst h; rw [hx u rfl]; rfl
omit S in
theorem oE_r {x : Option (Value × Mem)} {v : Value} (h : oE x = .r v) : False := by
  cases x with
  | none => simp [oE] at h
  | some x => obtain ⟨_, _⟩ := x; simp [oE] at h
omit S in
theorem oM_r {x : Option Mem} {v : Value} (h : oM x = .r v) : False := by cases x <;> simp [oM] at h
theorem convPtr_sub {s d : TypeDesc} {a : Addr} {v : Value} (h : convPtr tb m s d a = .r v) : convPtr tb m' s d a = .r v := by
  unfold convPtr at h ⊢
  split at h <;> try exact h
  · split at h <;> try exact h
    split at h <;> first | (simp at h; done) | skip
    rename_i j r hj hr
    rw [hj, rowOf_sub S hr]; exact h
  · split at h <;> try exact h
    split at h <;> first | (simp at h; done) | skip
    rename_i j r hj hr
    rw [hj, rowOf_sub S hr]; exact h
theorem convSl_sub {same : Bool} {s d : TypeDesc} {x : Value} {a : Addr} {l : Nat} {v : Value} (h : convSl tb m same s d x a l = .r v) : convSl tb m' same s d x a l = .r v := by
  unfold convSl at h ⊢
  split at h <;> try exact h
  split at h <;> try exact h
  · split at h <;> try exact h
    rename_i hj
    split at h <;> try exact h
    rename_i hd
    split at h <;> try exact h
    split at h <;> first | (simp at h; done) | skip
    rename_i hb
    rw [bytesAt_sub S hb]; exact h
  · repeat (split at h <;> try (simp at h; done))
theorem opBuiltin_sub {b : Builtin} {tys : List TypeId} {args : List Value} {v : Value} (h : opBuiltin tb m b tys args = .r v) : opBuiltin tb m' b tys args = .r v := by
  unfold opBuiltin at h ⊢
  split at h <;> try exact h
  · split at h <;> try exact h
    exact oR_sub (fun v h => lenA_sub S h) h
  · split at h <;> try exact h
    exact oR_sub (fun v h => capA_sub S h) h
  · split at h <;> try exact h
    exact (oE_r h).elim
  · split at h <;> try exact h
    exact (oE_r h).elim
  · split at h <;> try exact h
    split at h <;> simp at h
  · split at h <;> try exact h
    split at h <;> simp at h
  · split at h <;> try exact h
    unfold opUnsafeString at h ⊢
    split at h <;> try exact h
    repeat (split at h <;> try (simp at h; done))
/-- what was read stands in a greater memory -/
theorem opA_sub {o : Op} {t : T Value} {v : Value} (h : opA o tb t m = .r v) : opA o tb t m' = .r v := by
  cases o <;> try exact h
  all_goals first
    | exact (oE_r h).elim
    | exact (oM_r h).elim
    | skip
  case assign x => simp [opA, kAssign] at h
  case load ty a =>
    simp only [opA, kLoad, opLoad] at h ⊢
    split at h
    · exact oR_sub (fun v h => loadA_sub S h) h
    · simp at h
  case store ty a x =>
    simp only [opA, kStore, opStore] at h
    split at h
    · exact (oM_r h).elim
    · simp at h
  case binOp op ty x y yt => exact oR_sub (fun v h => binA_sub S h) h
  case convert s d x =>
    simp only [opA, kConvert, opConv] at h ⊢
    split at h <;> first | (simp at h; done) | skip
    rename_i s d hs hd
    split at h
    · exact h
    · exact h
    · exact h
    · exact convSl_sub S h
    · exact convPtr_sub S h
    · simp at h
  case slice ty x lo hi mx => exact oR_sub (fun v h => sliceA_sub S h) h
  case lookup ty x k ok => exact oR_sub (fun v h => lookupA_sub S h) h
  case entry it => exact oR_sub (fun v h => entryA_sub S h) h
  case call c =>
    simp only [opA, kCall, opCall] at h ⊢
    split at h
    · exact opBuiltin_sub S h
    · simp at h
end
end Go.Ev
