/- Values and memory, related to the model; the first operations. -/
import Derived.Test.YtgmkbdmgifdfeaaGreatDoorEv0
import Derived.Below
import Derived.Calls
import Derived.Laws.Strings
import Derived.Laws.Concat
import Derived.Tactics
import Derived.Laws.Cells
import Derived.Laws.Strings2
set_option linter.unusedSimpArgs false
set_option linter.unusedVariables false
namespace Go.Ev
open Go.RowKit

structure Info where
  blk : Nat
  shift : Nat
  extra : Nat
abbrev Env := Nat → Option Info

mutual
inductive VR (E : Env) : Value → Value → Prop where
  | bool (b : Bool) : VR E (.bool b) (.bool b)
  | int (k : IntKind) (n : Int) : VR E (.int k n) (.int k n)
  | string (s : ByteArray) : VR E (.string s) (.string s)
  | ptrNil : VR E (.pointer none) (.pointer none)
  | ptr {b o : Nat} {i : Info} (h : E b = some i) : VR E (.pointer (some ⟨b, o, none⟩)) (.pointer (some ⟨i.blk, i.shift + o, none⟩))
  | slNil (l c : Nat) : VR E (.slice none l c) (.slice none l c)
  | sl {b o : Nat} {i : Info} (l c : Nat) (h : E b = some i) : VR E (.slice (some ⟨b, o, none⟩) l c) (.slice (some ⟨i.blk, i.shift + o, none⟩) l (c + i.extra))
  | slX {b o : Nat} {i : Info} (l c : Nat) (h : E b = some i) : VR E (.slice (some ⟨b, o, some 0⟩) l c) (.slice (some ⟨i.blk, i.shift + o, none⟩) l c)
  | slE0 {b o k : Nat} {i : Info} (h : E b = some i) (hx : i.extra = 0) : VR E (.slice (some ⟨b, o, some (k + 1)⟩) 0 0) (.slice (some ⟨i.blk, i.shift + o, none⟩) 0 0)
  | slE1 {b o k : Nat} {i : Info} (h : E b = some i) (hx : i.extra ≠ 0) : VR E (.slice (some ⟨b, o, some (k + 1)⟩) 0 0) (.slice (some ⟨i.blk, i.shift + o + (k + 1), none⟩) 0 i.extra)
  | slD {b o : Nat} {s : Option Nat} {i : Info} (a' : Addr) (h : E b = some i) : VR E (.slice (some ⟨b, o, s⟩) 0 0) (.slice (some a') 0 0)
  | mapNil : VR E (.map none) (.map none)
  | map {r : Nat} {i : Info} (h : E r = some i) : VR E (.map (some r)) (.map (some i.blk))
  | nilFunc : VR E .nilFunc .nilFunc
  | nilIface : VR E .nilIface .nilIface
  | func {fn : Fn} {f f' c c' : List Value} (hf : ∀ l, fn ≠ .yield l) (h1 : VRs E f f') (h2 : VRs E c c') : VR E (.func fn ⟨f⟩ ⟨c⟩) (.func fn ⟨f'⟩ ⟨c'⟩)
  | yield {l : Nat} {i : Info} (h : E l = some i) : VR E (.func (.yield l) #[] #[]) (.func (.yield i.blk) #[] #[])
  | iface (t : TypeId) {v v' : Value} (h : VR E v v') : VR E (.iface t v) (.iface t v')
  | agg {a a' : List Value} (h : VRs E a a') : VR E (.agg ⟨a⟩) (.agg ⟨a'⟩)
  | tuple {a a' : List Value} (h : VRs E a a') : VR E (.tuple ⟨a⟩) (.tuple ⟨a'⟩)
inductive VRs (E : Env) : List Value → List Value → Prop where
  | nil : VRs E [] []
  | cons {v v' : Value} {l l' : List Value} (h : VR E v v') (t : VRs E l l') : VRs E (v :: l) (v' :: l')
end

def Env.le (E E' : Env) : Prop := ∀ b i, E b = some i → E' b = some i
theorem Env.le.refl (E : Env) : Env.le E E := fun _ _ h => h
theorem Env.le.trans {A B C : Env} (h : Env.le A B) (k : Env.le B C) : Env.le A C := fun b i e => k b i (h b i e)

mutual
theorem VR.mono {E E' : Env} (hE : Env.le E E') : ∀ {v v' : Value}, VR E v v' → VR E' v v'
  | _, _, .bool b => .bool b
  | _, _, .int k n => .int k n
  | _, _, .string s => .string s
  | _, _, .ptrNil => .ptrNil
  | _, _, .ptr h => .ptr (hE _ _ h)
  | _, _, .slNil l c => .slNil l c
  | _, _, .sl l c h => .sl l c (hE _ _ h)
  | _, _, .slX l c h => .slX l c (hE _ _ h)
  | _, _, .slD a h => .slD a (hE _ _ h)
  | _, _, .slE0 h hx => .slE0 (hE _ _ h) hx
  | _, _, .slE1 h hx => .slE1 (hE _ _ h) hx
  | _, _, .mapNil => .mapNil
  | _, _, .map h => .map (hE _ _ h)
  | _, _, .nilFunc => .nilFunc
  | _, _, .nilIface => .nilIface
  | _, _, .func hf h1 h2 => .func hf (VRs.mono hE h1) (VRs.mono hE h2)
  | _, _, .yield h => .yield (hE _ _ h)
  | _, _, .iface t h => .iface t (VR.mono hE h)
  | _, _, .agg h => .agg (VRs.mono hE h)
  | _, _, .tuple h => .tuple (VRs.mono hE h)
theorem VRs.mono {E E' : Env} (hE : Env.le E E') : ∀ {l l' : List Value}, VRs E l l' → VRs E' l l'
  | _, _, .nil => .nil
  | _, _, .cons h t => .cons (VR.mono hE h) (VRs.mono hE t)
end

theorem VR.undef (E : Env) : VR E undef undef := .tuple .nil

section
variable {E : Env}
theorem VRs.length {l l' : List Value} (h : VRs E l l') : l.length = l'.length := by
  induction l generalizing l' with
  | nil => cases h; rfl
  | cons v l ih => cases h with | cons h t => simp [ih t]
theorem VRs.get {l l' : List Value} (h : VRs E l l') : ∀ (i : Nat) (v : Value), l[i]? = some v → ∃ v', l'[i]? = some v' ∧ VR E v v' := by
  induction l generalizing l' with
  | nil => intro i v hv; simp at hv
  | cons x l ih =>
    cases h with
    | cons h t =>
      intro i v hv
      cases i with
      | zero => simp at hv; subst hv; exact ⟨_, by simp, h⟩
      | succ i => simp at hv; obtain ⟨v', h1, h2⟩ := ih t i v hv; exact ⟨v', by simpa using h1, h2⟩
theorem VRs.of_get {l l' : List Value} (hl : l.length = l'.length) (h : ∀ (i : Nat) (v v' : Value), l[i]? = some v → l'[i]? = some v' → VR E v v') : VRs E l l' := by
  induction l generalizing l' with
  | nil => cases l' with | nil => exact .nil | cons => simp at hl
  | cons x l ih =>
    cases l' with
    | nil => simp at hl
    | cons y l' =>
      refine .cons (h 0 x y (by simp) (by simp)) (ih (by simpa using hl) fun i v v' h1 h2 => h (i + 1) v v' (by simpa using h1) (by simpa using h2))
theorem VRs.append {a a' b b' : List Value} (h : VRs E a a') (k : VRs E b b') : VRs E (a ++ b) (a' ++ b') := by
  induction a generalizing a' with
  | nil => cases h; exact k
  | cons x l ih => cases h with | cons h t => exact .cons h (ih t)
theorem VRs.take {a a' : List Value} (h : VRs E a a') (n : Nat) : VRs E (a.take n) (a'.take n) := by
  induction a generalizing a' n with
  | nil => cases h; simp; exact .nil
  | cons x l ih => cases h with | cons h t => cases n with | zero => simp; exact .nil | succ n => simp; exact .cons h (ih t n)
theorem VRs.drop {a a' : List Value} (h : VRs E a a') (n : Nat) : VRs E (a.drop n) (a'.drop n) := by
  induction a generalizing a' n with
  | nil => cases h; simp; exact .nil
  | cons x l ih => cases h with | cons h t => cases n with | zero => simp; exact .cons h t | succ n => simp; exact ih t n
theorem VRs.repl {z z' : List Value} (h : VRs E z z') : ∀ n, VRs E (repl z n) (repl z' n)
  | 0 => .nil
  | n + 1 => VRs.append h (VRs.repl h n)
theorem VR.cells {v v' : Value} (h : VR E v v') : VRs E (cellsOfV v) v'.cells.toList := by
  cases h <;> first | exact (‹VRs E _ _›) | exact .cons (by constructor <;> assumption) .nil
end
end Go.Ev
namespace Go.Ev
open Go.RowKit

/-- slots -/
def TRx (E : Env) (X : Nat → Prop) (t : T Value) (nt : Nat) (tm : Array Value) : Prop :=
  tm.size = nt ∧ ∀ x, ¬ X x → VR E (ev t (.tmp x)) (tm.getD x undef)
abbrev TR (E : Env) (t : T Value) (nt : Nat) (tm : Array Value) : Prop := TRx E (fun _ => False) t nt tm
theorem TRx.mono {E E' : Env} {X : Nat → Prop} {t : T Value} {nt : Nat} {tm : Array Value} (hE : Env.le E E') (h : TRx E X t nt tm) : TRx E' X t nt tm :=
  ⟨h.1, fun x hx => (h.2 x hx).mono hE⟩

/-- deferred calls -/
inductive DefR (E : Env) : Deferred → Deferred → Prop where
  | fn {fn fn' : Fn} {c c' a a' : List Value} (h : VR E (.func fn #[] ⟨c⟩) (.func fn' #[] ⟨c'⟩)) (ha : VRs E a a') : DefR E { target := .fn fn ⟨c⟩, args := ⟨a⟩ } { target := .fn fn' ⟨c'⟩, args := ⟨a'⟩ }
  | coll {b : Nat} {i : Info} (h : E b = some i) : DefR E { target := .collected b, args := #[] } { target := .collected i.blk, args := #[] }
theorem DefR.mono {E E' : Env} (hE : Env.le E E') {d d' : Deferred} (h : DefR E d d') : DefR E' d d' := by
  cases h with
  | fn h ha => exact .fn (h.mono hE) (ha.mono hE)
  | coll h => exact .coll (hE _ _ h)
inductive DefsR (E : Env) : List Deferred → List Deferred → Prop where
  | nil : DefsR E [] []
  | cons {d d' : Deferred} {l l' : List Deferred} (h : DefR E d d') (t : DefsR E l l') : DefsR E (d :: l) (d' :: l')
theorem DefsR.mono {E E' : Env} (hE : Env.le E E') {l l' : List Deferred} (h : DefsR E l l') : DefsR E' l l' := by
  induction h with
  | nil => exact .nil
  | cons h _ ih => exact .cons (h.mono hE) ih
theorem DefsR.append {E : Env} {a a' b b' : List Deferred} (h : DefsR E a a') (k : DefsR E b b') : DefsR E (a ++ b) (a' ++ b') := by
  induction h with
  | nil => exact k
  | cons h _ ih => exact .cons h ih

/-- map entries -/
inductive EntR (E : Env) : List MapEntry → List MapEntry → Prop where
  | nil : EntR E [] []
  | cons {k k' v v' : Value} {b : Nat} {l l' : List MapEntry} (hk : VR E k k') (hv : VR E v v') (t : EntR E l l') : EntR E (⟨k, v, b⟩ :: l) (⟨k', v', b⟩ :: l')
theorem EntR.mono {E E' : Env} (hE : Env.le E E') {l l' : List MapEntry} (h : EntR E l l') : EntR E' l l' := by
  induction h with
  | nil => exact .nil
  | cons hk hv _ ih => exact .cons (hk.mono hE) (hv.mono hE) ih
theorem EntR.length {E : Env} {l l' : List MapEntry} (h : EntR E l l') : l.length = l'.length := by
  induction h with
  | nil => rfl
  | cons _ _ _ ih => simp [ih]
theorem EntR.append {E : Env} {a a' b b' : List MapEntry} (h : EntR E a a') (k : EntR E b b') : EntR E (a ++ b) (a' ++ b') := by
  induction h with
  | nil => exact k
  | cons hk hv _ ih => exact .cons hk hv ih

def FzR (fz : Fz) (shift size : Nat) (fr : Nat × Nat) : Prop :=
  match fz with
  | .none => fr.1 = fr.2
  | .str => fr.1 = fr.2 ∨ size ≤ fr.1
  | .rng lo hi => fr = (shift + lo, shift + hi)
/-- a row of cells -/
structure RowR (sz : Nat) (E : Env) (r : Row) (i : Info) (cells : Array Value) (elem : TypeId) (fr : Nat × Nat) : Prop where
  elem : elem = r.elem
  cell : ∀ j v, cellAt r j = some v → ∃ v', cells[i.shift + j]? = some v' ∧ VR E v v'
  size : cells.size = i.shift + r.n + i.extra * sz
  exact' : r.ext = false → i.shift = 0 ∧ i.extra = 0
  fz : FzR r.fz i.shift cells.size fr
theorem RowR.mono {sz : Nat} {E E' : Env} (hE : Env.le E E') {r : Row} {i : Info} {cells : Array Value} {elem : TypeId} {fr : Nat × Nat} (h : RowR sz E r i cells elem fr) : RowR sz E' r i cells elem fr :=
  ⟨h.elem, fun j v hv => let ⟨v', h1, h2⟩ := h.cell j v hv; ⟨v', h1, h2.mono hE⟩, h.size, h.exact', h.fz⟩

/-- an object -/
inductive ObjR (P : Program) (E : Env) (i : Info) : AObj → Obj → Prop where
  | row {r : Row} {cells : Array Value} {elem : TypeId} {fr : Nat × Nat} (h : RowR (P.cellsOf r.elem) E r i cells elem fr) : ObjR P E i (.row r) (.cells cells elem fr)
  | glob {r : Row} {cells : Array Value} {elem : TypeId} {fr : Nat × Nat} (h : RowR (P.cellsOf r.elem) E r i cells elem fr) (hx : r.ext = false) : ObjR P E i (.glob r) (.cells cells elem fr)
  | map {es es' : List MapEntry} {c : Nat} (h : EntR E es es') : ObjR P E i (.map es c) (.map ⟨es'⟩ c)
  | strIter {s : ByteArray} {pos : Nat} {rest : List UInt8} (hs : i.shift = 0) (h : rest = s.data.toList.drop pos) : ObjR P E i (.strIter s pos rest) (.stringIter s pos)
  | mapIter0 (since : Nat) (seen : List Nat) (st : Nat) (hs : i.shift = 0) : ObjR P E i (.mapIter none since seen st) (.mapIter none since ⟨seen⟩ st)
  | mapIter {r : Nat} {j : Info} (since : Nat) (seen : List Nat) (st : Nat) (hs : i.shift = 0) (h : E r = some j) : ObjR P E i (.mapIter (some r) since seen st) (.mapIter (some j.blk) since ⟨seen⟩ st)
  | loop {st : LoopState} {pe : Option Code} {fn : FuncId} {t : T Value} {nt : Nat} {tm : Array Value} {ps : List Tmp} {a b : Code} {ds : Nat} {j : Info} (ht : TR E t nt tm) (h : E ds = some j) :
      ObjR P E i (.loop st pe fn t nt ps a b ds) (.loop { state := st, pending := pe, fn, tmps := tm, params := ⟨ps⟩, assign := a, body := b, defers := j.blk })
  | dfr0 : ObjR P E i (.dfr none) (.deferred none)
  | dfr {l l' : List Deferred} (h : DefsR E l l') : ObjR P E i (.dfr (some l)) (.deferred (some l'))
theorem ObjR.mono {P : Program} {E E' : Env} (hE : Env.le E E') {i : Info} {a : AObj} {o : Obj} (h : ObjR P E i a o) : ObjR P E' i a o := by
  cases h with
  | row h => exact .row (h.mono hE)
  | glob h hx => exact .glob (h.mono hE) hx
  | map h => exact .map (h.mono hE)
  | strIter hs h => exact .strIter hs h
  | mapIter0 _ _ _ hs => exact .mapIter0 _ _ _ hs
  | mapIter a b c hs h => exact .mapIter _ _ _ hs (hE _ _ h)
  | loop ht h => exact .loop (ht.mono hE) (hE _ _ h)
  | dfr0 => exact .dfr0
  | dfr h => exact .dfr (h.mono hE)

def AObj.live : AObj → Bool
  | .dead => false
  | _ => true
def AObj.own : AObj → Bool
  | .dead => false
  | .glob _ => false
  | _ => true

/-- the memory; 'N': the blocks below are not ours; 'w0': the world at the begin -/
structure MR (P : Program) (N : Nat) (w0 : World) (E : Env) (m : Mem) (w : World) : Prop where
  objs : ∀ b i o, E b = some i → m.objs.get b = some o → o.live = true → ∃ ob, w.heap[i.blk]? = some ob ∧ ObjR P E i o ob
  ub : ∀ b i, E b = some i → i.blk < w.heap.size
  dom : ∀ b, m.next ≤ b → m.objs.get b = none ∧ E b = none
  inj : ∀ b b' i i' o o', b ≠ b' → E b = some i → E b' = some i' → m.objs.get b = some o → m.objs.get b' = some o' → o.live = true → o'.live = true → i.blk ≠ i'.blk
  own : ∀ b i o, E b = some i → m.objs.get b = some o → o.own = true → N ≤ i.blk
  base : Below N w0 w
  size : N ≤ w.heap.size

/-- how far it went: what was named is named; what waits below 'hi' waits on -/
structure MExt (hi : Nat) (E : Env) (m : Mem) (E' : Env) (m' : Mem) : Prop where
  le : Env.le E E'
  pend : ∀ b, b < hi → E b = none → E' b = none ∧ m'.objs.get b = m.objs.get b
  next : m.next ≤ m'.next
theorem MExt.refl (hi : Nat) (E : Env) (m : Mem) : MExt hi E m E m := ⟨.refl E, fun _ _ h => ⟨h, rfl⟩, Nat.le_refl _⟩
theorem MExt.trans {hi : Nat} {A B C : Env} {a b c : Mem} (h : MExt hi A a B b) (k : MExt hi B b C c) : MExt hi A a C c :=
  ⟨h.le.trans k.le, fun x hx e => let ⟨e1, g1⟩ := h.pend x hx e; let ⟨e2, g2⟩ := k.pend x hx e1; ⟨e2, g2.trans g1⟩, Nat.le_trans h.next k.next⟩
theorem MExt.lower {hi lo : Nat} {A B : Env} {a b : Mem} (h : MExt hi A a B b) (hl : lo ≤ hi) : MExt lo A a B b :=
  ⟨h.le, fun x hx => h.pend x (by omega), h.next⟩

/-! ### the ground's own words -/
theorem get_putObj (m : Mem) (b : Nat) (o : AObj) (k : Nat) : (putObj m b o).objs.get k = if k = b then some o else m.objs.get k := T.get_set _ _ _ _
theorem next_putObj (m : Mem) (b : Nat) (o : AObj) : (putObj m b o).next = m.next := rfl
theorem get_newObjA (m : Mem) (o : AObj) (k : Nat) : (newObjA m o).objs.get k = if k = m.next then some o else m.objs.get k := T.get_set _ _ _ _
theorem next_newObjA (m : Mem) (o : AObj) : (newObjA m o).next = m.next + 1 := rfl
theorem rowOf_some {m : Mem} {b : Nat} {r : Row} (h : rowOf m b = some r) : m.objs.get b = some (.row r) ∨ m.objs.get b = some (.glob r) := by
  unfold rowOf at h
  split at h <;> simp_all
theorem rowW_some {m : Mem} {b : Nat} {r : Row} (h : rowW m b = some r) : m.objs.get b = some (.row r) := by
  unfold rowW at h
  split at h <;> simp_all
theorem rowOf_of_rowW {m : Mem} {b : Nat} {r : Row} (h : rowW m b = some r) : rowOf m b = some r := by
  unfold rowOf; rw [rowW_some h]

section
variable {P : Program} {N : Nat} {w0 : World} {E : Env} {m : Mem} {w : World}
/-- a row, read -/
theorem MR.row (H : MR P N w0 E m w) {b : Nat} {i : Info} {r : Row} (hE : E b = some i) (h : rowOf m b = some r) :
    ∃ cells elem fr, w.heap[i.blk]? = some (.cells cells elem fr) ∧ RowR (P.cellsOf r.elem) E r i cells elem fr := by
  rcases rowOf_some h with h | h
  · obtain ⟨ob, h1, h2⟩ := H.objs b i _ hE h rfl
    cases h2 with | row h2 => exact ⟨_, _, _, h1, h2⟩
  · obtain ⟨ob, h1, h2⟩ := H.objs b i _ hE h rfl
    cases h2 with | glob h2 _ => exact ⟨_, _, _, h1, h2⟩
theorem MR.cell (H : MR P N w0 E m w) {b : Nat} {i : Info} {r : Row} (hE : E b = some i) (h : rowOf m b = some r) {j : Nat} {v : Value} (hv : cellAt r j = some v) :
    ∃ v', w.cell? ⟨i.blk, i.shift + j, none⟩ = some v' ∧ VR E v v' := by
  obtain ⟨cells, elem, fr, h1, h2⟩ := H.row hE h
  obtain ⟨v', h3, h4⟩ := h2.cell j v hv
  exact ⟨v', by simp [World.cell?, h1, h3], h4⟩
theorem cellAt_lt {r : Row} {j : Nat} {v : Value} (h : cellAt r j = some v) : j < r.n := by
  obtain ⟨ov, n, z, e, f, x⟩ := r
  simp only [cellAt] at h
  split at h
  · rename_i hb; simpa [Nat.blt_eq] using hb
  · simp at h
/-- no new block, one object turned -/
theorem MR.put (H : MR P N w0 E m w) {b : Nat} {i : Info} {o o' : AObj} {w' : World} (hE : E b = some i) (hg : m.objs.get b = some o) (hl : o.own = true) (hl' : o'.own = true ∨ o'.live = false)
    (hsize : w'.heap.size = w.heap.size) (hother : ∀ k, k ≠ i.blk → w'.heap[k]? = w.heap[k]?) (hos : w'.os = w.os) (htape : w'.tape = w.tape) (hout : w'.output = w.output)
    (hob : o'.live = true → ∃ ob, w'.heap[i.blk]? = some ob ∧ ObjR P E i o' ob) : MR P N w0 E (putObj m b o') w' := by
  have hlive : o.live = true := by cases o <;> simp_all [AObj.own, AObj.live]
  refine ⟨?_, ?_, ?_, ?_, ?_, ?_, ?_⟩
  · intro c j q hc hq hql
    rw [get_putObj] at hq
    by_cases e : c = b
    · subst e
      rw [if_pos rfl] at hq
      obtain rfl := Option.some.inj hq
      obtain rfl := Option.some.inj (hE.symm.trans hc)
      exact hob hql
    · rw [if_neg e] at hq
      obtain ⟨ob, h1, h2⟩ := H.objs c j q hc hq hql
      exact ⟨ob, by rw [hother _ (H.inj c b j i q o e hc hE hq hg hql hlive)]; exact h1, h2⟩
  · intro c j hc; rw [hsize]; exact H.ub c j hc
  · intro c hc
    rw [next_putObj] at hc
    rw [get_putObj]
    obtain ⟨h1, h2⟩ := H.dom c hc
    have : c ≠ b := by intro e; subst e; rw [h1] at hg; simp at hg
    rw [if_neg this]; exact ⟨h1, h2⟩
  · intro c c' j j' q q' hne hc hc' hq hq' hl1 hl2
    rw [get_putObj] at hq hq'
    have key : ∀ x y, (if x = b then some o' else m.objs.get x) = some y → y.live = true → ∃ z, m.objs.get x = some z ∧ z.live = true := by
      intro x y h hy
      by_cases e : x = b
      · subst e; exact ⟨o, hg, hlive⟩
      · rw [if_neg e] at h; exact ⟨y, h, hy⟩
    obtain ⟨z, hz, hzl⟩ := key _ _ hq hl1
    obtain ⟨z', hz', hzl'⟩ := key _ _ hq' hl2
    exact H.inj c c' j j' z z' hne hc hc' hz hz' hzl hzl'
  · intro c j q hc hq hqo
    rw [get_putObj] at hq
    by_cases e : c = b
    · subst e
      obtain rfl := Option.some.inj (hE.symm.trans hc)
      exact H.own c _ o hE hg hl
    · rw [if_neg e] at hq; exact H.own c j q hc hq hqo
  · exact ⟨hos.trans H.base.os, htape.trans H.base.tape, hout.trans H.base.output, by rw [hsize]; exact H.base.size, fun k hk => by
      rw [hother k (by have := H.own b i o hE hg hl; omega)]; exact H.base.block k hk⟩
  · rw [hsize]; exact H.size
theorem MExt.put {hi : Nat} {b : Nat} {i : Info} (o : AObj) (hE : E b = some i) : MExt hi E m E (putObj m b o) :=
  ⟨.refl E, fun c _ hc => ⟨hc, by rw [get_putObj, if_neg (by intro e; subst e; rw [hE] at hc; simp at hc)]⟩, Nat.le_refl _⟩
/-- the environment, one more name -/
def Env.add (E : Env) (b : Nat) (i : Info) : Env := fun c => if c = b then some i else E c
theorem Env.add_le {E : Env} {b : Nat} {i : Info} (h : E b = none) : Env.le E (E.add b i) := by
  intro c j hc
  unfold Env.add
  rw [if_neg (by intro e; subst e; rw [h] at hc; simp at hc)]; exact hc
theorem Env.add_at {E : Env} {b : Nat} {i : Info} : E.add b i b = some i := by simp [Env.add]
/-- a block is made for a name that waits -/
theorem MR.mat (H : MR P N w0 E m w) {b : Nat} {o : AObj} {ob : Obj} {w' : World} (hE : E b = none) (hg : m.objs.get b = some o) (hlt : b < m.next) (hown : o.own = true)
    (hheap : w'.heap = w.heap.push ob) (hos : w'.os = w.os) (htape : w'.tape = w.tape) (hout : w'.output = w.output) {sh ex : Nat}
    (hob : ObjR P (E.add b ⟨w.heap.size, sh, ex⟩) ⟨w.heap.size, sh, ex⟩ o ob) : MR P N w0 (E.add b ⟨w.heap.size, sh, ex⟩) m w' := by
  have hle := Env.add_le (i := ⟨w.heap.size, sh, ex⟩) hE
  have hold : ∀ k, k < w.heap.size → w'.heap[k]? = w.heap[k]? := fun k hk => by rw [hheap, Array.getElem?_push, if_neg (by omega)]
  refine ⟨?_, ?_, ?_, ?_, ?_, ?_, ?_⟩
  · intro c j q hc hq hql
    by_cases e : c = b
    · subst e
      obtain rfl := Option.some.inj (Env.add_at.symm.trans hc)
      obtain rfl := Option.some.inj (hg.symm.trans hq)
      exact ⟨ob, by rw [hheap, Array.getElem?_push]; simp, hob⟩
    · simp only [Env.add, if_neg e] at hc
      obtain ⟨ob', h1, h2⟩ := H.objs c j q hc hq hql
      exact ⟨ob', by rw [hold _ (H.ub c j hc)]; exact h1, h2.mono hle⟩
  · intro c j hc
    rw [hheap, Array.size_push]
    by_cases e : c = b
    · subst e; obtain rfl := Option.some.inj (Env.add_at.symm.trans hc); simp
    · simp only [Env.add, if_neg e] at hc; have := H.ub c j hc; omega
  · intro c hc
    obtain ⟨h1, h2⟩ := H.dom c hc
    exact ⟨h1, by simp only [Env.add]; rw [if_neg (by omega)]; exact h2⟩
  · intro c c' j j' q q' hne hc hc' hq hq' hl1 hl2
    by_cases e : c = b
    · subst e
      obtain rfl := Option.some.inj (Env.add_at.symm.trans hc)
      simp only [Env.add, if_neg (Ne.symm hne)] at hc'
      have := H.ub c' j' hc'
      simp only; omega
    · simp only [Env.add, if_neg e] at hc
      by_cases e' : c' = b
      · subst e'
        obtain rfl := Option.some.inj (Env.add_at.symm.trans hc')
        have := H.ub c j hc
        simp only; omega
      · simp only [Env.add, if_neg e'] at hc'
        exact H.inj c c' j j' q q' hne hc hc' hq hq' hl1 hl2
  · intro c j q hc hq hqo
    by_cases e : c = b
    · subst e; obtain rfl := Option.some.inj (Env.add_at.symm.trans hc); exact H.size
    · simp only [Env.add, if_neg e] at hc; exact H.own c j q hc hq hqo
  · have := H.size
    exact ⟨hos.trans H.base.os, htape.trans H.base.tape, hout.trans H.base.output, by rw [hheap, Array.size_push]; have := H.base.size; omega, fun k hk => by
      rw [hold k (by omega)]; exact H.base.block k hk⟩
  · rw [hheap, Array.size_push]; have := H.size; omega
/-- a name is laid that waits -/
theorem MR.lay (H : MR P N w0 E m w) (o : AObj) : MR P N w0 E (newObjA m o) w := by
  have hn := (H.dom m.next (Nat.le_refl _)).2
  have key : ∀ c i, E c = some i → c ≠ m.next := fun c i hc e => by subst e; rw [hn] at hc; simp at hc
  refine ⟨?_, H.ub, ?_, ?_, ?_, H.base, H.size⟩
  · intro c i q hc hq hl; rw [get_newObjA, if_neg (key c i hc)] at hq; exact H.objs c i q hc hq hl
  · intro c hc; rw [next_newObjA] at hc; rw [get_newObjA, if_neg (by omega)]; exact H.dom c (by omega)
  · intro c c' i i' q q' hne hc hc' hq hq'
    rw [get_newObjA, if_neg (key _ _ hc)] at hq
    rw [get_newObjA, if_neg (key _ _ hc')] at hq'
    exact H.inj c c' i i' q q' hne hc hc' hq hq'
  · intro c i q hc hq; rw [get_newObjA, if_neg (key _ _ hc)] at hq; exact H.own c i q hc hq
theorem MExt.lay (H : MR P N w0 E m w) (o : AObj) : MExt m.next E m E (newObjA m o) :=
  ⟨.refl E, fun c hc hn => ⟨hn, by rw [get_newObjA, if_neg (by omega)]⟩, by rw [next_newObjA]; omega⟩
theorem MExt.mat {b hi : Nat} {i : Info} (hE : E b = none) (hb : hi ≤ b) : MExt hi E m (E.add b i) m :=
  ⟨Env.add_le hE, fun c hc hn => ⟨by simp only [Env.add]; rw [if_neg (by omega)]; exact hn, rfl⟩, Nat.le_refl _⟩
/-- an order was drawn, or whatever else turns no block -/
theorem MR.same (H : MR P N w0 E m w) {w' : World} (hh : w'.heap = w.heap) (hos : w'.os = w.os) (htape : w'.tape = w.tape) (hout : w'.output = w.output) : MR P N w0 E m w' :=
  ⟨fun b i o h1 h2 h3 => by rw [hh]; exact H.objs b i o h1 h2 h3, fun b i h => by rw [hh]; exact H.ub b i h, H.dom, H.inj, H.own,
   ⟨hos.trans H.base.os, htape.trans H.base.tape, hout.trans H.base.output, by rw [hh]; exact H.base.size, fun k hk => by rw [hh]; exact H.base.block k hk⟩, by rw [hh]; exact H.size⟩
end
end Go.Ev
namespace Go.Ev

theorem addI_eq (x y : Int) : addI x y = x + y := by cases x <;> cases y <;> rfl
theorem subI_eq (x y : Int) : subI x y = x - y := by
  cases x with
  | ofNat a => cases y with
    | ofNat b =>
      simp only [subI]
      split
      · rename_i h
        have h' : b ≤ a := by simpa [Nat.ble_eq] using h
        simp only [Int.ofNat_eq_natCast]; omega
      · rename_i h
        have h' : ¬ b ≤ a := fun e => by rw [Nat.ble_eq_true_of_le e] at h; simp at h
        simp only [Int.ofNat_eq_natCast, Int.negSucc_eq]; omega
    | negSucc b => rfl
  | negSucc a => rfl
theorem mulI_eq (x y : Int) : mulI x y = x * y := by cases x <;> cases y <;> rfl
theorem quoI_some {x y r : Int} (h : quoI x y = some r) : y ≠ 0 ∧ r = x.tdiv y := by
  cases y with
  | ofNat b =>
    cases b with
    | zero => cases x <;> simp [quoI] at h
    | succ b =>
      refine ⟨by simp only [Int.ofNat_eq_natCast]; omega, ?_⟩
      cases x <;> (simp only [quoI, Option.some.injEq] at h; rw [← h]; try rfl)
  | negSucc b =>
    refine ⟨by simp [Int.negSucc_eq]; omega, ?_⟩
    cases x <;> (simp only [quoI, Option.some.injEq] at h; rw [← h])
theorem remI_some {x y r : Int} (h : remI x y = some r) : y ≠ 0 ∧ r = x.tmod y := by
  cases y with
  | ofNat b =>
    cases b with
    | zero => cases x <;> simp [remI] at h
    | succ b =>
      refine ⟨by simp only [Int.ofNat_eq_natCast]; omega, ?_⟩
      cases x <;> (simp only [remI, Option.some.injEq] at h; rw [← h]; try rfl)
  | negSucc b =>
    refine ⟨by simp [Int.negSucc_eq]; omega, ?_⟩
    cases x <;> (simp only [remI, Option.some.injEq] at h; rw [← h])
theorem kEq_true {a b : IntKind} (h : kEq a b = true) : a = b := by cases a <;> cases b <;> first | rfl | (simp [kEq] at h)
theorem intEq_eq (x y : Int) : intEq x y = (x == y) := by
  rw [Bool.eq_iff_iff, beq_iff_eq]
  cases x <;> cases y <;> simp [intEq] <;> omega
theorem intLt_eq (x y : Int) : intLt x y = decide (x < y) := by
  rw [Bool.eq_iff_iff, decide_eq_true_iff]
  cases x <;> cases y <;> simp only [intLt, Nat.blt_eq, Int.ofNat_eq_natCast, Int.negSucc_eq, Bool.false_eq_true, true_iff, false_iff] <;> omega
theorem wrap_u64 (n : Int) : IntKind.wrap .u64 n = n % 18446744073709551616 := by
  simp [IntKind.wrap, IntKind.signed, IntKind.bits]
theorem wrap_u32 (n : Int) : IntKind.wrap .u32 n = n % 4294967296 := by simp [IntKind.wrap, IntKind.signed, IntKind.bits]
theorem wrap_u16 (n : Int) : IntKind.wrap .u16 n = n % 65536 := by simp [IntKind.wrap, IntKind.signed, IntKind.bits]
theorem wrap_u8 (n : Int) : IntKind.wrap .u8 n = n % 256 := by simp [IntKind.wrap, IntKind.signed, IntKind.bits]
theorem wrap_i64 (n : Int) : IntKind.wrap .i64 n = if n % 18446744073709551616 ≥ 9223372036854775808 then n % 18446744073709551616 - 18446744073709551616 else n % 18446744073709551616 := by
  simp [IntKind.wrap, IntKind.signed, IntKind.bits]
theorem wrap_i32 (n : Int) : IntKind.wrap .i32 n = if n % 4294967296 ≥ 2147483648 then n % 4294967296 - 4294967296 else n % 4294967296 := by
  simp [IntKind.wrap, IntKind.signed, IntKind.bits]
theorem wrap_i16 (n : Int) : IntKind.wrap .i16 n = if n % 65536 ≥ 32768 then n % 65536 - 65536 else n % 65536 := by
  simp [IntKind.wrap, IntKind.signed, IntKind.bits]
theorem wrap_i8 (n : Int) : IntKind.wrap .i8 n = if n % 256 ≥ 128 then n % 256 - 256 else n % 256 := by
  simp [IntKind.wrap, IntKind.signed, IntKind.bits]
theorem wrapN_eq (k : IntKind) (m : Nat) : wrapN k m = k.wrap (.ofNat m) := by
  cases k <;> simp only [wrapN]
  all_goals first
    | (split
       · rename_i h
         have h' := h
         simp only [Nat.blt_eq] at h'
         simp only [wrap_i64, wrap_i32, wrap_i16, wrap_i8, Int.ofNat_eq_natCast]
         omega
       · rfl)
    | (simp only [wrap_u64, wrap_u32, wrap_u16, wrap_u8, Int.ofNat_eq_natCast]; omega)
theorem wrapF_eq (k : IntKind) (n : Int) : wrapF k n = k.wrap n := by
  cases n with
  | ofNat m => exact wrapN_eq k m
  | negSucc m =>
    cases k <;> simp only [wrapF]
    · split
      · rename_i h
        have h' := h
        simp only [Nat.blt_eq] at h'
        simp only [wrap_i64, Int.negSucc_eq]
        omega
      · rfl
    · simp only [wrap_u64, Int.ofNat_eq_natCast, Int.negSucc_eq]; omega
theorem vInt_eq (k : IntKind) (n : Int) : vInt k n = .int k n := fInt_eq _ _
theorem oI_some {k : IntKind} {x : Option Int} {v : Value} (h : oI k x = some v) : ∃ n, x = some n ∧ v = .int k n := by
  cases x with
  | none => simp [oI] at h
  | some n => simp only [oI, vInt_eq, Option.some.injEq] at h; exact ⟨n, rfl, h.symm⟩
theorem wrap_mod (k : IntKind) (n : Nat) : k.wrap ((n % 2 ^ k.bits : Nat) : Int) = k.wrap (n : Int) := by
  simp only [IntKind.wrap]
  have : (((n % 2 ^ k.bits : Nat) : Int) % (2 ^ k.bits : Int)) = ((n : Int) % (2 ^ k.bits : Int)) := by
    rw [Int.natCast_emod]; simp
  rw [this]
theorem ofInt_nat (w a : Nat) : (BitVec.ofInt w (.ofNat a)).toNat = a % 2 ^ w := by
  simp
theorem bitsF_eq (op : BinOp) (k : IntKind) (x y : Int) : bitsF op k x y = bitsI op k x y := by
  cases x with
  | negSucc a => rfl
  | ofNat a => cases y with
    | negSucc b => rfl
    | ofNat b =>
      cases op <;> simp only [bitsF, bitsI]
      · rw [wrapN_eq, BitVec.toNat_and, ofInt_nat, ofInt_nat, ← Nat.and_mod_two_pow, wrap_mod]; rfl
      · rw [wrapN_eq, BitVec.toNat_or, ofInt_nat, ofInt_nat, ← Nat.or_mod_two_pow, wrap_mod]; rfl
      · rw [wrapN_eq, BitVec.toNat_xor, ofInt_nat, ofInt_nat, ← Nat.xor_mod_two_pow, wrap_mod]; rfl
theorem bytesEq_eq : ∀ (a b : List UInt8), bytesEq a b = (a == b)
  | [], [] => rfl
  | [], _ :: _ => rfl
  | _ :: _, [] => rfl
  | x :: a, y :: b => by
    have ih := bytesEq_eq a b
    simp only [bytesEq]
    rw [Bool.eq_iff_iff, beq_iff_eq]
    cases h : Nat.beq x.toNat y.toNat with
    | true =>
      have := Nat.eq_of_beq_eq_true h
      have hxy : x = y := UInt8.toNat_inj.1 this
      subst hxy
      simp [ih]
    | false =>
      have := Nat.ne_of_beq_eq_false h
      simp
      intro e; subst e; exact absurd rfl this
theorem toList_eq (s : ByteArray) : s.toList = s.data.toList := Go.ByteArray.toList_eq s
end Go.Ev
namespace Go.Ev
open Go.RowKit

structure TabsOk (tb : Tabs) : Prop where
  types : ∀ t i, ti tb t = some i → mkTI tb.p t = some i
  funcs : ∀ f fn, tb.funcs.get f = some fn → tb.p.funcs[f]? = some fn

theorem mkTI_some {P : Program} {t : TypeId} {i : TI} (h : mkTI P t = some i) :
    P.info? t = some i.inf ∧ P.underlying t = some i.d ∧ i.agg = isAggD i.d ∧ i.zc = (match i.inf.zero with | some z => cellsOfV z | none => []) ∧ i.hasZ = hasZ0 P i.inf i.d ∧
    i.flds = (match i.d with | .struct fs => fs.toList.map fun f => (f.offset, P.cellsOf f.type, f.type, f.name == "_") | _ => []) ∧ i.guard = P.eqGuardType P.depth t ∧ i.held = P.stoodInHeld t := by
  unfold mkTI at h
  split at h
  · rename_i inf d h1 h2
    simp only [Option.some.injEq] at h
    subst h
    exact ⟨h1, h2, rfl, rfl, rfl, rfl, rfl, rfl⟩
  · simp at h

theorem flatV_self {E : Env} {v : Value} (h : flatV v = true) : VR E v v := by
  unfold flatV at h
  split at h <;> first | constructor | (simp at h)
theorem flatVs_self {E : Env} : ∀ {l : List Value}, l.all flatV = true → VRs E l l
  | [], _ => .nil
  | v :: l, h => by
    rw [List.all_cons, Bool.and_eq_true] at h
    exact .cons (flatV_self h.1) (flatVs_self h.2)
theorem cellsOfV_self {E : Env} {z : Value} (h : (cellsOfV z).all flatV = true) : VR E z z := by
  cases z with
  | agg cs => obtain ⟨cs⟩ := cs; exact .agg (flatVs_self (by simpa [cellsOfV] using h))
  | _ => exact flatV_self (by simpa [cellsOfV] using h)

section
variable {tb : Tabs} (ok : TabsOk tb)
include ok
theorem zeroV_some {t : TypeId} {i : TI} (h : ti tb t = some i) {z : Value} (hz : zeroV i = some z) (E : Env) : i.inf.zero = some z ∧ VR E z z := by
  unfold zeroV at hz
  split at hz
  · rename_i hh
    obtain ⟨_, _, _, _, h2, _⟩ := mkTI_some (ok.types t i h)
    unfold hasZ0 at h2
    rw [h2, hz] at hh
    simp only [Bool.and_eq_true] at hh
    exact ⟨hz, cellsOfV_self hh.1.1⟩
  · simp at hz
theorem TabsOk.info {t : TypeId} {i : TI} (h : ti tb t = some i) : tb.p.info? t = some i.inf := (mkTI_some (ok.types t i h)).1
theorem TabsOk.und {t : TypeId} {i : TI} (h : ti tb t = some i) : tb.p.underlying t = some i.d := (mkTI_some (ok.types t i h)).2.1
theorem TabsOk.agg {t : TypeId} {i : TI} (h : ti tb t = some i) : i.agg = isAggD i.d := (mkTI_some (ok.types t i h)).2.2.1
theorem TabsOk.zc {t : TypeId} {i : TI} (h : ti tb t = some i) (hz : i.hasZ = true) : ∃ z, i.inf.zero = some z ∧ i.zc = cellsOfV z ∧ (cellsOfV z).all flatV = true ∧ i.zc.length = i.inf.size ∧ ∀ fs, i.d = .struct fs → ∀ f ∈ fs.toList, (tb.p.info? f.type).isSome = true := by
  obtain ⟨_, _, _, h1, h2, _⟩ := mkTI_some (ok.types t i h)
  unfold hasZ0 at h2
  rw [h2] at hz
  cases hq : i.inf.zero with
  | none => rw [hq] at hz; simp at hz
  | some z =>
    rw [hq] at hz
    simp only [Bool.and_eq_true] at hz
    refine ⟨z, rfl, by rw [h1, hq], hz.1.1, by rw [h1, hq]; exact Nat.eq_of_beq_eq_true hz.1.2, fun fs hd => ?_⟩
    have := hz.2
    rw [hd] at this
    exact List.all_eq_true.1 this
theorem TabsOk.cellsOf {t : TypeId} {i : TI} (h : ti tb t = some i) : tb.p.cellsOf t = i.inf.size := by
  simp [Program.cellsOf, ok.info h]
variable {w : World}
theorem run_ty {t : TypeId} {i : TI} (h : ti tb t = some i) : (underlying t).run tb.p w = .ok i.d w := by
  simp [underlying, ok.und h]
theorem run_inf {t : TypeId} {i : TI} (h : ti tb t = some i) : (typeInfo t).run tb.p w = .ok i.inf w := by
  simp [typeInfo, ok.info h]
theorem run_size {t : TypeId} {i : TI} (h : ti tb t = some i) : (sizeOf t).run tb.p w = .ok i.inf.size w := by
  simp [sizeOf, run_inf ok h]
theorem run_zero {t : TypeId} {i : TI} (h : ti tb t = some i) {z : Value} (hz : i.inf.zero = some z) : (zeroValue t).run tb.p w = .ok z w := by
  simp [zeroValue, run_inf ok h, hz]
theorem run_isAgg {t : TypeId} {i : TI} (h : ti tb t = some i) : (isAgg t).run tb.p w = .ok i.agg w := by
  rw [ok.agg h]
  unfold isAgg
  simp only [Sem.run_bind, run_ty ok h, Result.andThen_ok]
  cases i.d <;> rfl
end
end Go.Ev
namespace Go.Ev
open Go.RowKit

section
variable {P : Program} {w : World}
theorem run_intOp {op : BinOp} {k : IntKind} {x y : Int} {v : Value} (t : TypeId) (h1 : op ≠ .shl) (h2 : op ≠ .shr) (h : intOp op k x y = some v) :
    (binOp op t (.int k x) (.int k y)).run P w = .ok v w := by
  cases op <;> simp only [intOp] at h <;> first
    | exact absurd rfl h1
    | exact absurd rfl h2
    | skip
  · simp only [Option.some.injEq, vInt_eq, wrapF_eq, addI_eq] at h; subst h; simp [binOp, Op.intArith]
  · simp only [Option.some.injEq, vInt_eq, wrapF_eq, subI_eq] at h; subst h; simp [binOp, Op.intArith]
  · simp only [Option.some.injEq, vInt_eq, wrapF_eq, mulI_eq] at h; subst h; simp [binOp, Op.intArith]
  · obtain ⟨r, hr, h⟩ := oB_some.1 h
    obtain ⟨h0, rfl⟩ := quoI_some hr
    simp only [Option.some.injEq, vInt_eq, wrapF_eq] at h; subst h; simp [binOp, Op.intDiv, h0]
  · obtain ⟨r, hr, rfl⟩ := oI_some h
    obtain ⟨h0, rfl⟩ := remI_some hr
    simp [binOp, Op.intDiv, h0]
  · obtain ⟨r, hr, rfl⟩ := oI_some h
    rw [bitsF_eq] at hr; simp only [bitsI, Option.some.injEq] at hr; subst hr; simp [binOp, Op.intBits]
  · obtain ⟨r, hr, rfl⟩ := oI_some h
    rw [bitsF_eq] at hr; simp only [bitsI, Option.some.injEq] at hr; subst hr; simp [binOp, Op.intBits]
  · obtain ⟨r, hr, rfl⟩ := oI_some h
    rw [bitsF_eq] at hr; simp only [bitsI, Option.some.injEq] at hr; subst hr; simp [binOp, Op.intBits]
  · obtain ⟨r, hr, rfl⟩ := oI_some h
    rw [bitsF_eq] at hr; simp only [bitsI, Option.some.injEq] at hr; subst hr; simp [binOp, Op.intBits]
  · simp only [Option.some.injEq, intEq_eq] at h; subst h; simp [binOp, Op.intCmp]
  · simp only [Option.some.injEq, intEq_eq] at h; subst h; simp [binOp, Op.intCmp, bne]
  · simp only [Option.some.injEq, intLt_eq] at h; subst h; simp [binOp, Op.intCmp]
  · simp only [Option.some.injEq, intLt_eq] at h; subst h; simp [binOp, Op.intCmp]; rw [Bool.eq_iff_iff]; simp
  · simp only [Option.some.injEq, intLt_eq] at h; subst h; simp [binOp, Op.intCmp]
  · simp only [Option.some.injEq, intLt_eq] at h; subst h; simp [binOp, Op.intCmp]; rw [Bool.eq_iff_iff]; simp
theorem run_shiftOp {op : BinOp} {k k' : IntKind} {x y : Int} {v : Value} (t : TypeId) (hop : op = .shl ∨ op = .shr) (h : shiftOp op k x y = some v) :
    (binOp op t (.int k x) (.int k' y)).run P w = .ok v w := by
  cases y with
  | negSucc y => simp [shiftOp] at h
  | ofNat y =>
    have hy : ¬ ((y : Int) < 0) := by omega
    rcases hop with rfl | rfl
    · cases x with
      | ofNat a =>
        simp only [shiftOp, Option.some.injEq, vInt_eq, wrapN_eq] at h; subst h
        simp only [binOp, Op.shift, Int.ofNat_eq_natCast, if_neg hy, Int.toNat_natCast]
        have : ((Nat.shiftLeft a (Nat.min y k.bits) : Nat) : Int) = (a : Int) * 2 ^ (min y k.bits) := by
          show ((a <<< (min y k.bits) : Nat) : Int) = _
          rw [Nat.shiftLeft_eq]; simp
        rw [this]; rfl
      | negSucc a =>
        simp only [shiftOp, Option.some.injEq, vInt_eq] at h; subst h
        simp only [binOp, Op.shift, Int.ofNat_eq_natCast, if_neg hy, Int.toNat_natCast]; rfl
    · cases x with
      | ofNat a =>
        simp only [shiftOp, Option.some.injEq, vInt_eq] at h; subst h
        simp only [binOp, Op.shift, Int.ofNat_eq_natCast, if_neg hy, Int.toNat_natCast]
        have : ((Nat.shiftRight a (Nat.min y k.bits) : Nat) : Int) = (a : Int).fdiv (2 ^ (min y k.bits)) := by
          show ((a >>> (min y k.bits) : Nat) : Int) = _
          rw [Nat.shiftRight_eq_div_pow, Int.fdiv_eq_ediv_of_nonneg _ (by exact_mod_cast Nat.zero_le _)]; simp
        rw [this]; rfl
      | negSucc a =>
        simp only [shiftOp, Option.some.injEq, vInt_eq] at h; subst h
        simp only [binOp, Op.shift, Int.ofNat_eq_natCast, if_neg hy, Int.toNat_natCast]; rfl
theorem run_strOp {op : BinOp} {a b : ByteArray} {v : Value} (t : TypeId) (h : strOp op a b = some v) :
    (binOp op t (.string a) (.string b)).run P w = .ok v w := by
  cases op <;> simp only [strOp, Option.some.injEq] at h <;> first
    | (subst h; simp only [binOp, Op.stringOp, toList_eq, ← bytesEq_eq]; done)
    | (subst h; simp only [binOp, Op.stringOp, toList_eq, bytesEq_eq]; rfl)
    | skip
  all_goals first | (simp at h; done) | skip
  have hs : (a.data.toList.length + b.data.toList.length : Int) ≤ 9223372036854775807 := by
    split at h
    · rename_i hb; have := Nat.le_of_ble_eq_true hb; omega
    · simp at h
  have h : (.string ⟨⟨a.data.toList ++ b.data.toList⟩⟩ : Value) = v := by
    split at h
    · simpa using h
    · simp at h
  subst h
  have h1 : ¬ (((a.size + b.size : Nat) : Int) > IntKind.i64.max) := by
    have e1 : a.size = a.data.toList.length := rfl
    have e2 : b.size = b.data.toList.length := rfl
    have : IntKind.i64.max = 9223372036854775807 := by decide
    rw [this, e1, e2]; simp only [Int.natCast_add]; omega
  simp only [binOp, Op.stringOp, if_neg h1]
  have : a ++ b = (⟨⟨a.data.toList ++ b.data.toList⟩⟩ : ByteArray) := by
    have := ByteArray.mk_append_mk a.data.toList b.data.toList
    simpa using this
  rw [this]; rfl
theorem run_unA {op : UnOp} {x : Value} {v : Value} (h : unA op x = some v) : (Op.unary op x).run P w = .ok v w := by
  unfold unA at h
  split at h
  · simp only [Option.some.injEq, vInt_eq, wrapF_eq, subI_eq] at h; subst h; simp [Op.unary, Op.intArith]
  · rename_i k n
    obtain ⟨r, hr, rfl⟩ := oI_some h
    simp only [bitsI, Option.some.injEq] at hr; subst hr
    simp [Op.unary, Op.intBits]
  · simp only [Option.some.injEq] at h; subst h; simp [Op.unary]
  · simp at h
end
end Go.Ev
namespace Go.Ev
open Go.RowKit

theorem add_none (b o n : Nat) : (⟨b, o, none⟩ : Addr).add n = ⟨b, o + n, none⟩ := by
  unfold Addr.add; split
  · rename_i h; subst h; rfl
  · rfl
theorem cellsFrom_zero (r : Row) (i : Nat) : cellsFrom r 0 i = some [] := rfl
theorem cellsFrom_succ (r : Row) (k i : Nat) : cellsFrom r (k + 1) i = oB (cellAt r i) fun v => oB (cellsFrom r k (i + 1)) fun l => some (v :: l) := rfl
theorem cellsFrom_some {r : Row} : ∀ {k i : Nat} {l : List Value}, cellsFrom r k i = some l → l.length = k ∧ ∀ j v, l[j]? = some v → cellAt r (i + j) = some v
  | 0, i, l, h => by
    rw [cellsFrom_zero] at h; obtain rfl := Option.some.inj h
    exact ⟨rfl, fun j v hv => by simp at hv⟩
  | k + 1, i, l, h => by
    rw [cellsFrom_succ] at h
    obtain ⟨v, hv, h⟩ := oB_some.1 h
    obtain ⟨l', hl, h⟩ := oB_some.1 h
    obtain rfl := Option.some.inj h
    obtain ⟨h1, h2⟩ := cellsFrom_some hl
    refine ⟨by simp [h1], fun j u hu => ?_⟩
    cases j with
    | zero => simp at hu; subst hu; exact hv
    | succ j => simp at hu; have := h2 j u hu; rw [show i + (j + 1) = i + 1 + j from by omega]; exact this

section
variable {tb : Tabs} {N : Nat} {w0 : World} {E : Env} {m : Mem} {w : World}
/-- the cells of a row, related -/
theorem MR.cells (H : MR tb.p N w0 E m w) {b : Nat} {i : Info} {r : Row} (hE : E b = some i) (h : rowOf m b = some r) {k o : Nat} {l : List Value} (hl : cellsFrom r k o = some l) :
    ∃ l', VRs E l l' ∧ l'.length = k ∧ ∀ j v, l'[j]? = some v → w.cell? ⟨i.blk, i.shift + o + j, none⟩ = some v := by
  obtain ⟨h1, h2⟩ := cellsFrom_some hl
  have hc : ∀ j v, l[j]? = some v → ∃ v', w.cell? ⟨i.blk, i.shift + o + j, none⟩ = some v' ∧ VR E v v' := by
    intro j v hv
    obtain ⟨v', h3, h4⟩ := H.cell hE h (h2 j v hv)
    exact ⟨v', by rw [show i.shift + o + j = i.shift + (o + j) from by omega]; exact h3, h4⟩
  refine ⟨(List.range k).map fun j => (w.cell? ⟨i.blk, i.shift + o + j, none⟩).getD undef, ?_, by simp, ?_⟩
  · refine VRs.of_get (by simp [h1]) fun j v v' hv hv' => ?_
    obtain ⟨u, h3, h4⟩ := hc j v hv
    rw [List.getElem?_map] at hv'
    have hjl : j < k := by
      have := (List.getElem?_eq_some_iff.1 hv).1; omega
    rw [List.getElem?_range hjl] at hv'
    simp [h3] at hv'
    subst hv'; exact h4
  · intro j v hv
    rw [List.getElem?_map] at hv
    by_cases hjl : j < k
    · rw [List.getElem?_range hjl] at hv
      obtain ⟨u, hu⟩ : ∃ u, l[j]? = some u := ⟨l[j]'(by omega), List.getElem?_eq_getElem (by omega)⟩
      obtain ⟨u', h3, h4⟩ := hc j u hu
      simp [h3] at hv
      rw [h3, hv]
    · rw [List.getElem?_eq_none (by simp; omega)] at hv; simp at hv
theorem run_cells (H : MR tb.p N w0 E m w) {b : Nat} {i : Info} {r : Row} (hE : E b = some i) (h : rowOf m b = some r) {k o : Nat} {l : List Value} (hl : cellsFrom r k o = some l) :
    ∃ l', VRs E l l' ∧ l'.length = k ∧ (loadCells ⟨i.blk, i.shift + o, none⟩ k).run tb.p w = .ok l'.toArray w := by
  obtain ⟨l', h1, h2, h3⟩ := H.cells hE h hl
  refine ⟨l', h1, h2, ?_⟩
  have := run_loadCells_list (P := tb.p) (w := w) ⟨i.blk, i.shift + o, none⟩ l' (fun j v hv => by rw [add_none]; exact h3 j v hv)
  rw [← h2]; exact this
theorem run_loadA (ok : TabsOk tb) (H : MR tb.p N w0 E m w) {t b o : Nat} {i : Info} {v : Value} (hE : E b = some i) (h : loadA tb t m b o = some v) :
    ∃ v', (loadVar t ⟨i.blk, i.shift + o, none⟩).run tb.p w = .ok v' w ∧ VR E v v' := by
  unfold loadA at h
  obtain ⟨j, hj, h⟩ := oB_some.1 h
  obtain ⟨r, hr, h⟩ := oB_some.1 h
  unfold loadVar
  simp only [Sem.run_bind, run_isAgg ok hj, Result.andThen_ok]
  cases ha : j.agg with
  | true =>
    rw [ha] at h; simp only at h
    obtain ⟨l, hl, h⟩ := oB_some.1 h
    obtain rfl := Option.some.inj h
    obtain ⟨l', h1, h2, h3⟩ := run_cells H hE hr hl
    refine ⟨.agg ⟨l'⟩, ?_, .agg h1⟩
    simp [run_size ok hj, h3]
  | false =>
    rw [ha] at h; simp only at h
    obtain ⟨v', h1, h2⟩ := H.cell hE hr h
    exact ⟨v', by simp [h1], h2⟩
theorem run_partA (ok : TabsOk tb) {t off : Nat} {cs cs' : List Value} {v : Value} (hcs : VRs E cs cs') (h : partA tb t cs off = some v) :
    ∃ v', (part t ⟨cs'⟩ off).run tb.p w = .ok v' w ∧ VR E v v' := by
  unfold partA at h
  obtain ⟨j, hj, h⟩ := oB_some.1 h
  unfold part
  simp only [Sem.run_bind, run_isAgg ok hj, Result.andThen_ok]
  cases ha : j.agg with
  | true =>
    rw [ha] at h; simp only [Option.some.injEq] at h; subst h
    refine ⟨.agg ⟨takeN cs' off j.inf.size⟩, ?_, .agg ((hcs.drop _).take _)⟩
    simp only [if_true, Sem.run_bind, run_size ok hj, Result.andThen_ok, Sem.run_pure]
    congr 2
    rw [show off + j.inf.size = off + j.inf.size from rfl]
    apply Array.ext'
    simp [takeN, List.extract_eq_take_drop]
  | false =>
    rw [ha] at h; simp only at h
    obtain ⟨v', h1, h2⟩ := hcs.get off v h
    refine ⟨v', ?_, h2⟩
    have : (⟨cs'⟩ : Array Value)[off]? = some v' := by simpa using h1
    simp [this]
theorem run_fieldA (ok : TabsOk tb) {t f : Nat} {x x' v : Value} (hx : VR E x x') (h : fieldA tb t x f = some v) :
    ∃ v', (Instr.field t x' f).run tb.p w = .ok v' w ∧ VR E v v' := by
  unfold fieldA at h
  obtain ⟨j, hj, h⟩ := oB_some.1 h
  split at h
  · rename_i cs
    cases hx with
    | agg hcs =>
      split at h
      · rename_i o s ft bl hf
        have hfl := (mkTI_some (ok.types t j hj)).2.2.2.2.2.1
        unfold Instr.field
        simp only [Sem.run_bind, run_ty ok hj, Result.andThen_ok]
        rw [hfl] at hf
        cases hd : j.d with
        | struct fs =>
          rw [hd] at hf
          simp only [List.getElem?_map] at hf
          obtain ⟨q, hq1, hq2⟩ := Option.map_eq_some_iff.1 hf
          simp only [Prod.mk.injEq] at hq2
          obtain ⟨rfl, rfl, rfl, rfl⟩ := hq2
          have hq : fs[f]? = some q := by simpa using hq1
          obtain ⟨v', h1, h2⟩ := run_partA (w := w) ok hcs h
          refine ⟨v', ?_, h2⟩
          simp [hq, asAgg, h1]
        | _ => rw [hd] at hf; simp at hf
      · simp at h
  · simp at h
theorem run_indexA (ok : TabsOk tb) {t : Nat} {x x' ix ix' v : Value} (hx : VR E x x') (hi : VR E ix ix') (h : indexA tb t x ix = some v) :
    ∃ v', (Instr.index t x' ix').run tb.p w = .ok v' w ∧ VR E v v' := by
  unfold indexA at h
  split at h
  · rename_i k q
    cases hi
    obtain ⟨j, hj, h⟩ := oB_some.1 h
    unfold Instr.index
    simp only [asIntOf, Sem.run_bind, Sem.run_pure, run_ty ok hj, Result.andThen_ok]
    cases hd : j.d with
    | string =>
      rw [hd] at h
      cases hx with
      | string s =>
        simp only at h
        split at h
        · rename_i b hb
          simp only [Option.some.injEq, byteV, fNat_eq] at h; subst h
          refine ⟨.int .u8 b.toNat, ?_, .int _ _⟩
          have hq : s[q]? = some b := by
            have : s.data[q]? = some b := by simpa using hb
            obtain ⟨h1, h2⟩ := Array.getElem?_eq_some_iff.1 this
            have h1' : q < s.size := h1
            rw [ByteArray.getElem?_lt' s q h1']
            congr 1
          simp [hq]
        · simp at h
      | _ => simp at h
    | array len elem =>
      rw [hd] at h
      cases hx with
      | agg hcs =>
        simp only at h
        split at h
        · rename_i hb
          have hlt : q < len := by simpa [Nat.blt_eq] using hb
          obtain ⟨e, he, h⟩ := oB_some.1 h
          obtain ⟨v', h1, h2⟩ := run_partA (w := w) ok hcs h
          refine ⟨v', ?_, h2⟩
          have hc : (0 : Int) ≤ (q : Int) ∧ (q : Int) < (len : Int) := by omega
          simp [hc, run_size ok he, h1, hlt]
        · simp at h
      | _ => simp at h
    | _ => rw [hd] at h; simp at h
  · simp at h
theorem run_fieldAddrA (ok : TabsOk tb) {t f : Nat} {x x' v : Value} (hx : VR E x x') (h : fieldAddrA tb t x f = some v) :
    ∃ v', (Instr.fieldAt t x' f).run tb.p w = .ok v' w ∧ VR E v v' := by
  unfold fieldAddrA at h
  obtain ⟨j, hj, h⟩ := oB_some.1 h
  split at h
  · rename_i a
    cases hx with
    | ptr hE =>
      split at h
      · rename_i o s q hf
        split at h
        · simp at h
        · rename_i s'
          simp only [Option.some.injEq] at h; subst h
          have hfl := (mkTI_some (ok.types t j hj)).2.2.2.2.2.1
          rw [hfl] at hf
          cases hd : j.d with
          | struct fs =>
            rw [hd] at hf
            simp only [List.getElem?_map] at hf
            obtain ⟨q, hq1, hq2⟩ := Option.map_eq_some_iff.1 hf
            simp only [Prod.mk.injEq] at hq2
            obtain ⟨rfl, h2, rfl⟩ := hq2
            have hq : fs[f]? = some q := by simpa using hq1
            refine ⟨_, ?_, .ptr hE⟩
            unfold Instr.fieldAt
            have hs : ∃ inf, tb.p.info? q.type = some inf ∧ inf.size = s' + 1 := by
              unfold Program.cellsOf at h2
              cases hi : tb.p.info? q.type with
              | none => simp [hi] at h2
              | some inf => simp [hi] at h2; exact ⟨inf, rfl, h2⟩
            obtain ⟨inf, hi1, hi2⟩ := hs
            simp [run_ty ok hj, hd, hq, Instr.sureAddr, fieldPlace, sizeOf, typeInfo, hi1, hi2, add_none, addA, Nat.add_assoc]
          | _ => rw [hd] at hf; simp at hf
      · simp at h
  · simp at h
theorem run_indexAddrA (ok : TabsOk tb) {t : Nat} {x x' ix ix' v : Value} (hx : VR E x x') (hi : VR E ix ix') (h : indexAddrA tb t x ix = some v) :
    ∃ v', (Instr.indexAt t x' ix').run tb.p w = .ok v' w ∧ VR E v v' := by
  unfold indexAddrA at h
  split at h
  · rename_i k q
    cases hi
    obtain ⟨j, hj, h⟩ := oB_some.1 h
    cases hd : j.d with
    | array len elem =>
      rw [hd] at h
      cases hx with
      | ptr hE =>
        simp only at h
        split at h
        · rename_i hb
          have hlt : q < len := by simpa [Nat.blt_eq] using hb
          obtain ⟨e, he, h⟩ := oB_some.1 h
          simp only [Option.some.injEq] at h; subst h
          refine ⟨_, ?_, .ptr hE⟩
          unfold Instr.indexAt
          simp [asIntOf, hd, Instr.sureAddr, hlt, run_size ok he, run_ty ok hj, add_none, addA, Nat.add_assoc]
        · simp at h
      | _ => simp at h
    | slice elem =>
      rw [hd] at h
      have key : ∀ (a : Addr) (i : Info) (len cap' : Nat), E a.block = some i → (match Nat.blt q len with | true => oB (ti tb elem) fun e => some (Value.pointer (some (addA a (q * e.inf.size)))) | false => none) = some v →
          ∃ v', (Instr.indexAt t (.slice (some ⟨i.blk, i.shift + a.off, none⟩) len cap') (.int k q)).run tb.p w = .ok v' w ∧ VR E v v' := by
        intro a i len cap' hE h
        split at h
        · rename_i hb
          have hlt : q < len := by simpa [Nat.blt_eq] using hb
          obtain ⟨e, he, h⟩ := oB_some.1 h
          simp only [Option.some.injEq] at h; subst h
          refine ⟨_, ?_, .ptr hE⟩
          unfold Instr.indexAt
          simp [asIntOf, run_ty ok hj, hd, hlt, run_size ok he, add_none, addA, Nat.add_assoc]
        · simp at h
      cases hx with
      | sl l c hE => simp only at h; exact key ⟨_, _, none⟩ _ _ _ hE h
      | slX l c hE => simp only at h; exact key ⟨_, _, some 0⟩ _ _ _ hE h
      | slD a b => simp only at h; rw [show Nat.blt q 0 = false from rfl] at h; simp at h
      | slE0 hE hx => simp only at h; rw [show Nat.blt q 0 = false from rfl] at h; simp at h
      | slE1 hE hx => simp only at h; rw [show Nat.blt q 0 = false from rfl] at h; simp at h
      | _ => simp at h
    | _ => rw [hd] at h; simp at h
  · simp at h
end
end Go.Ev
namespace Go.Ev
open Go.RowKit

inductive OVR (E : Env) : Option Value → Option Value → Prop where
  | none : OVR E none none
  | some {v v' : Value} (h : VR E v v') : OVR E (some v) (some v')

section
variable {tb : Tabs} {N : Nat} {w0 : World} {E : Env} {m : Mem} {w : World}
theorem run_bound {P : Program} {x x' : Value} {y y' n : Nat} (hx : VR E x x') (h : bound x y = some n) (hy : y ≤ y') (c : BoundsCode) : n ≤ y ∧ (Instr.sliceBound x' y' c).run P w = .ok n w := by
  unfold bound at h
  split at h
  · rename_i k q
    cases hx
    split at h
    · rename_i hb
      have hle := Nat.le_of_ble_eq_true hb
      simp only [Option.some.injEq] at h; subst h
      refine ⟨hle, ?_⟩
      have hc : (0 : Int) ≤ (q : Int) ∧ (q : Int) ≤ (y' : Int) := by omega
      have hq : q ≤ y' := by omega
      simp [Instr.sliceBound, asIntOf, hq]
    · simp at h
  · simp at h
theorem bounds3_le {len cap l h q : Nat} {lo hi mx : Option Value} (hb : bounds3 len cap lo hi mx = some (l, h, q)) : q ≤ cap := by
  unfold bounds3 at hb
  split at hb
  · simp at hb
  · obtain ⟨q', h1, hb⟩ := oB_some.1 hb
    obtain ⟨h2, _, hb⟩ := oB_some.1 hb
    obtain ⟨l2, _, hb⟩ := oB_some.1 hb
    have e : q' = q := by
      split at hb
      · simp only [Option.some.injEq, Prod.mk.injEq] at hb; exact hb.2.2
      · cases hb
    subst e
    unfold oBound at h1
    split at h1
    · unfold bound at h1
      split at h1
      · split at h1
        · rename_i hble
          simp only [Option.some.injEq] at h1
          rw [Nat.ble_eq] at hble; omega
        · cases h1
      · cases h1
    · simp only [Option.some.injEq] at h1; omega
theorem run_bounds3 {P : Program} {isS : Bool} {lo lo' hi hi' mx mx' : Option Value} (hlo : OVR E lo lo') (hhi : OVR E hi hi') (hmx : OVR E mx mx') {len cap cap' l h q : Nat} (hc : cap ≤ cap')
    (hb : bounds3 len cap lo hi mx = some (l, h, q)) : l ≤ h ∧ h ≤ q ∧ (mx = none → q = cap) ∧ (Instr.sliceBounds isS len cap' lo' hi' mx').run P w = .ok (l, h, if mx.isSome then q else cap') w := by
  have hb' : oB (oBound mx cap cap) (fun q => oB (oBound hi len q) fun h => oB (oBound lo 0 h) fun l => match Nat.ble l h && Nat.ble h q with | true => some (l, h, q) | false => none) = some (l, h, q) ∧ (mx.isSome = true → hi.isSome = true) := by
    unfold bounds3 at hb
    split at hb
    · simp at hb
    · rename_i h1
      refine ⟨hb, fun hm => ?_⟩
      cases hi with
      | some _ => rfl
      | none => cases mx with
        | none => simp at hm
        | some v => exact absurd rfl (h1 v rfl)
  obtain ⟨hb', hsome⟩ := hb'
  obtain ⟨q0, h1, hb'⟩ := oB_some.1 hb'
  obtain ⟨h0, h2, hb'⟩ := oB_some.1 hb'
  obtain ⟨l0, h3, hb'⟩ := oB_some.1 hb'
  split at hb'
  · rename_i hle
    simp only [Option.some.injEq, Prod.mk.injEq] at hb'
    obtain ⟨rfl, rfl, rfl⟩ := hb'
    rw [Bool.and_eq_true] at hle
    refine ⟨Nat.le_of_ble_eq_true hle.1, Nat.le_of_ble_eq_true hle.2, ?_, ?_⟩
    · intro e; subst e; simp only [oBound, Option.some.injEq] at h1; exact h1.symm
    unfold Instr.sliceBounds
    cases hmx with
    | none =>
      simp only [oBound, Option.some.injEq] at h1; subst h1
      cases hhi with
      | none =>
        simp only [oBound, Option.some.injEq] at h2; subst h2
        simp only [Sem.run_bind, Sem.run_pure, Result.andThen_ok, Option.isSome_none, Bool.false_eq_true, if_false]
        cases hlo with
        | none => simp only [oBound, Option.some.injEq] at h3; subst h3; simp
        | some hv' =>
          have hl := (run_bound (P := P) (w := w) hv' h3 (Nat.le_refl _) .sliceB).2
          simp [hl]
      | some hv =>
        have hh := (run_bound (P := P) (w := w) hv h2 hc (if isS then .sliceAcap else .sliceAlen)).2
        simp only [Sem.run_bind, Sem.run_pure, Result.andThen_ok, Option.isSome_none, Bool.false_eq_true, if_false]
        rw [hh]; simp only [Result.andThen_ok]
        cases hlo with
        | none => simp only [oBound, Option.some.injEq] at h3; subst h3; simp
        | some hv' =>
          have hl := (run_bound (P := P) (w := w) hv' h3 (Nat.le_refl _) .sliceB).2
          simp [hl]
    | some hv =>
      have hm := (run_bound (P := P) (w := w) hv h1 hc (if isS then .slice3Acap else .slice3Alen)).2
      cases hhi with
      | none => simp at hsome
      | some hu =>
        have hh := (run_bound (P := P) (w := w) hu h2 (Nat.le_refl _) .slice3B).2
        simp only [Sem.run_bind, Sem.run_pure, Result.andThen_ok, Option.isSome_some, if_true]
        rw [hm]; simp only [Result.andThen_ok]; rw [hh]; simp only [Result.andThen_ok]
        cases hlo with
        | none => simp only [oBound, Option.some.injEq] at h3; subst h3; simp
        | some hv' =>
          have hl := (run_bound (P := P) (w := w) hv' h3 (Nat.le_refl _) .slice3C).2
          simp [hl]
  · simp at hb'
theorem extract_eq (s : ByteArray) (l h : Nat) : s.extract l h = ⟨⟨(s.data.toList.drop l).take (h - l)⟩⟩ := by
  have := ByteArray.extract_mk s.data.toList l h
  simpa using this
theorem addIf_eq (c : Bool) (b o n : Nat) : addIf c ⟨b, o, none⟩ n = if c then ⟨b, o, none⟩ else ⟨b, o + n, none⟩ := by cases c <;> rfl
theorem beq_dec (a b : Nat) : Nat.beq a b = decide (a = b) := by
  cases h : Nat.beq a b with
  | true => simp [Nat.eq_of_beq_eq_true h]
  | false => simp [Nat.ne_of_beq_eq_false h]
theorem run_sliceA (ok : TabsOk tb) (H : MR tb.p N w0 E m w) {t : Nat} {x x' v : Value} {lo lo' hi hi' mx mx' : Option Value} (hx : VR E x x') (hlo : OVR E lo lo') (hhi : OVR E hi hi') (hmx : OVR E mx mx')
    (h : sliceA tb t m x lo hi mx = some v) : ∃ v', (Instr.sliceAt t x' lo' hi' mx').run tb.p w = .ok v' w ∧ VR E v v' := by
  unfold sliceA at h
  obtain ⟨j, hj, h⟩ := oB_some.1 h
  cases hd : j.d with
  | string =>
    rw [hd] at h
    cases hx with
    | string s =>
      simp only at h
      cases hmx with
      | some _ => simp at h
      | none =>
        simp only [slStr] at h
        obtain ⟨⟨l, h', q⟩, hb, h⟩ := oB_some.1 h
        simp only [Option.some.injEq] at h; subst h
        have hb' := (run_bounds3 (P := tb.p) (w := w) (isS := false) hlo hhi .none (Nat.le_refl _) hb).2.2.2
        refine ⟨_, ?_, .string _⟩
        have e : s.size = s.data.toList.length := rfl
        simp only [Instr.sliceAt, Sem.run_bind, run_ty ok hj, hd, Result.andThen_ok, Instr.slice, Option.isSome_none, Bool.false_eq_true, if_false, e, hb', Sem.run_pure, extract_eq]
    | _ => simp at h
  | slice elem =>
    rw [hd] at h
    cases hx with
    | slNil len cap =>
      simp only at h
      obtain ⟨⟨l, h', q⟩, hb, h⟩ := oB_some.1 h
      obtain ⟨e, he, h⟩ := oB_some.1 h
      simp only [Option.some.injEq] at h; subst h
      obtain ⟨_, _, hq, hb'⟩ := run_bounds3 (P := tb.p) (w := w) (isS := true) hlo hhi hmx (Nat.le_refl _) hb
      refine ⟨.slice none (h' - l) (q - l), ?_, .slNil _ _⟩
      have : (if mx.isSome then q else cap) = q := by
        cases mx with
        | none => simp [hq rfl]
        | some _ => rfl
      rw [this] at hb'
      simp only [Instr.sliceAt, Sem.run_bind, run_ty ok hj, hd, Result.andThen_ok, Instr.slice, hb', run_size ok he, Sem.run_pure]
      congr 2; split <;> rfl
    | @sl b o i len cap hE =>
      simp only at h
      obtain ⟨⟨l, h', q⟩, hb, h⟩ := oB_some.1 h
      obtain ⟨e, he, h⟩ := oB_some.1 h
      obtain ⟨r, hr, h⟩ := oB_some.1 h
      obtain ⟨hl1, hl2, hq, hb'⟩ := run_bounds3 (P := tb.p) (w := w) (isS := true) hlo hhi hmx (Nat.le_add_right cap i.extra) hb
      have hrun : (Instr.sliceAt t (.slice (some ⟨i.blk, i.shift + o, none⟩) len (cap + i.extra)) lo' hi' mx').run tb.p w =
          .ok (.slice (if (if mx.isSome then q else cap + i.extra) = l then some ⟨i.blk, i.shift + o, none⟩ else some ⟨i.blk, i.shift + o + l * e.inf.size, none⟩) (h' - l) ((if mx.isSome then q else cap + i.extra) - l)) w := by
        simp only [Instr.sliceAt, Sem.run_bind, run_ty ok hj, hd, Result.andThen_ok, Instr.slice, hb', run_size ok he, Sem.run_pure, Option.map_some, add_none]
      obtain ⟨cells, el, fr, hc1, hc2⟩ := H.row hE hr
      simp only [slExt] at h
      cases hx : r.ext with
      | false =>
        rw [hx] at h; simp only [Option.some.injEq] at h; subst h
        obtain ⟨hs0, hx0⟩ := hc2.exact' hx
        have hqq : (if mx.isSome then q else cap + i.extra) = q := by
          cases mx with
          | none => simp [hq rfl, hx0]
          | some _ => rfl
        rw [hqq] at hrun
        refine ⟨_, hrun, ?_⟩
        rw [addIf_eq, beq_dec]
        by_cases hql : q = l
        · simp only [hql, if_true, decide_true]
          have := VR.sl (E := E) (o := o) (h' - l) (l - l) hE
          rw [hx0, Nat.add_zero] at this; exact this
        · simp only [hql, if_false, decide_false, Bool.false_eq_true]
          have := VR.sl (E := E) (o := o + l * e.inf.size) (h' - l) (q - l) hE
          rw [hx0, Nat.add_zero, ← Nat.add_assoc] at this; exact this
      | true =>
        rw [hx] at h; simp only at h
        cases hmx with
        | some hv =>
          simp only [Option.some.injEq] at h; subst h
          simp only [Option.isSome_some, if_true] at hrun
          refine ⟨_, hrun, ?_⟩
          rw [addIf_eq, beq_dec]
          by_cases hql : q = l
          · simp only [hql, if_true, decide_true]; exact .slX _ _ hE
          · simp only [hql, if_false, decide_false, Bool.false_eq_true]
            have := VR.slX (E := E) (o := o + l * e.inf.size) (h' - l) (q - l) hE
            rw [← Nat.add_assoc] at this; exact this
        | none =>
          have hqc := hq rfl
          simp only [Option.isSome_none, Bool.false_eq_true, if_false, ← hqc] at hrun
          rw [beq_dec] at h
          rw [← hqc]
          by_cases hql : q = l
          · simp only [hql, decide_true] at h
            rw [hql] at hrun
            rw [hql]
            split at h
            · simp at h
            · rename_i k hk
              simp only [Option.some.injEq] at h; subst h
              refine ⟨_, hrun, ?_⟩
              have hh : h' - l = 0 := by omega
              by_cases hx0 : i.extra = 0
              · simp only [hx0, Nat.add_zero, if_true, hh, Nat.sub_self]; exact .slE0 hE hx0
              · have : ¬ (l + i.extra = l) := by omega
                simp only [if_neg this, hh]
                have e2 : l + i.extra - l = i.extra := by omega
                rw [e2, hk]
                exact .slE1 hE hx0
          · simp only [hql, decide_false, Option.some.injEq] at h; subst h
            have : ¬ (q + i.extra = l) := by omega
            simp only [if_neg this] at hrun
            refine ⟨_, hrun, ?_⟩
            have := VR.sl (E := E) (o := o + l * e.inf.size) (h' - l) (q - l) hE
            rw [← Nat.add_assoc] at this
            have e2 : q + i.extra - l = q - l + i.extra := by omega
            rw [e2]; exact this
    | @slX b o i len cap hE =>
      simp only at h
      obtain ⟨⟨l, h', q⟩, hb, h⟩ := oB_some.1 h
      obtain ⟨e, he, h⟩ := oB_some.1 h
      obtain ⟨r, hr, h⟩ := oB_some.1 h
      obtain ⟨hl1, hl2, hq, hb'⟩ := run_bounds3 (P := tb.p) (w := w) (isS := true) hlo hhi hmx (Nat.le_refl _) hb
      have hqq : (if mx.isSome then q else cap) = q := by
        cases mx with
        | none => simp [hq rfl]
        | some _ => rfl
      rw [hqq] at hb'
      have hrun : (Instr.sliceAt t (.slice (some ⟨i.blk, i.shift + o, none⟩) len cap) lo' hi' mx').run tb.p w =
          .ok (.slice (if q = l then some ⟨i.blk, i.shift + o, none⟩ else some ⟨i.blk, i.shift + o + l * e.inf.size, none⟩) (h' - l) (q - l)) w := by
        simp only [Instr.sliceAt, Sem.run_bind, run_ty ok hj, hd, Result.andThen_ok, Instr.slice, hb', run_size ok he, Sem.run_pure, Option.map_some, add_none]
      simp only [slExt] at h
      cases hx : r.ext with
      | false => rw [hx] at h; simp at h
      | true =>
        rw [hx] at h; simp only [Option.some.injEq] at h; subst h
        refine ⟨_, hrun, ?_⟩
        rw [beq_dec]
        by_cases hql : q = l
        · simp only [hql, if_true, decide_true, addIf]; exact .slX _ _ hE
        · simp only [hql, if_false, decide_false, addIf, addA]
          have := VR.slX (E := E) (o := o + l * e.inf.size) (h' - l) (q - l) hE
          rw [← Nat.add_assoc] at this; exact this
    | @slD b0 o0 s0 i0 b hE0 =>
      simp only at h
      obtain ⟨⟨l, h', q⟩, hb, h⟩ := oB_some.1 h
      obtain ⟨e, he, h⟩ := oB_some.1 h
      obtain ⟨r, hr, h⟩ := oB_some.1 h
      obtain ⟨hl1, hl2, hq, hb'⟩ := run_bounds3 (P := tb.p) (w := w) (isS := true) hlo hhi hmx (Nat.le_refl 0) hb
      have hq0 := bounds3_le hb
      obtain rfl : q = 0 := by omega
      obtain rfl : h' = 0 := by omega
      obtain rfl : l = 0 := by omega
      have hadd : ∀ (bb : Bool) (x : Addr) (n : Nat), x.block = b0 → (addIf bb x n).block = b0 := by
        intro bb x n hx; cases bb <;> exact hx
      have hA : ∃ A : Addr, v = .slice (some A) 0 0 ∧ A.block = b0 := by
        unfold slExt at h
        split at h
        · split at h
          · simp only [Option.some.injEq] at h; exact ⟨_, h.symm, by first | rfl | exact hadd _ _ _ rfl⟩
          · cases h
        · split at h
          · cases h
          · simp only [Option.some.injEq] at h; exact ⟨_, h.symm, by first | rfl | exact hadd _ _ _ rfl⟩
          · split at h
            · simp only [Option.some.injEq] at h; exact ⟨_, h.symm, by first | rfl | exact hadd _ _ _ rfl⟩
            · split at h
              · split at h
                · cases h
                · simp only [Option.some.injEq] at h; exact ⟨_, h.symm, by first | rfl | exact hadd _ _ _ rfl⟩
              · simp only [Option.some.injEq] at h; exact ⟨_, h.symm, by first | rfl | exact hadd _ _ _ rfl⟩
      obtain ⟨⟨b1, o1, s1⟩, rfl, hb1⟩ := hA
      simp only at hb1; subst hb1
      refine ⟨.slice (some b) 0 0, ?_, .slD _ hE0⟩
      have hb2 : (Instr.sliceBounds true 0 0 lo' hi' mx').run tb.p w = .ok (0, 0, 0) w := by
        rw [hb']; split <;> rfl
      simp only [Instr.sliceAt, Sem.run_bind, run_ty ok hj, hd, Result.andThen_ok, Instr.slice, hb2, run_size ok he, Sem.run_pure, Option.map_some]
      simp [add_none]
    | slE0 hE hx =>
      simp only at h
      obtain ⟨⟨l, h', q⟩, hb, h⟩ := oB_some.1 h
      obtain ⟨e, he, h⟩ := oB_some.1 h
      obtain ⟨r, hr, h⟩ := oB_some.1 h
      simp only [slExt] at h
      cases hx : r.ext <;> rw [hx] at h <;> simp at h
    | slE1 hE hx =>
      simp only at h
      obtain ⟨⟨l, h', q⟩, hb, h⟩ := oB_some.1 h
      obtain ⟨e, he, h⟩ := oB_some.1 h
      obtain ⟨r, hr, h⟩ := oB_some.1 h
      simp only [slExt] at h
      cases hx : r.ext <;> rw [hx] at h <;> simp at h
    | _ => simp at h
  | array n elem =>
    rw [hd] at h
    cases hx with
    | @ptr b o i hE =>
      simp only at h
      obtain ⟨⟨l, h', q⟩, hb, h⟩ := oB_some.1 h
      obtain ⟨e, he, h⟩ := oB_some.1 h
      obtain ⟨r, hr, h⟩ := oB_some.1 h
      obtain ⟨hl1, hl2, hq, hb'⟩ := run_bounds3 (P := tb.p) (w := w) (isS := false) hlo hhi hmx (Nat.le_refl _) hb
      have hqq : (if mx.isSome then q else n) = q := by
        cases mx with
        | none => simp [hq rfl]
        | some _ => rfl
      rw [hqq] at hb'
      have hrun : (Instr.sliceAt t (.pointer (some ⟨i.blk, i.shift + o, none⟩)) lo' hi' mx').run tb.p w =
          .ok (.slice (some (if q = l then ⟨i.blk, i.shift + o, none⟩ else ⟨i.blk, i.shift + o + l * e.inf.size, none⟩)) (h' - l) (q - l)) w := by
        simp only [Instr.sliceAt, Sem.run_bind, run_ty ok hj, hd, Result.andThen_ok, Instr.sureAddr, hb', run_size ok he, Sem.run_pure, add_none]
      obtain ⟨cells, el, fr, hc1, hc2⟩ := H.row hE hr
      cases hx : r.ext with
      | false =>
        rw [hx] at h; simp only [Option.some.injEq] at h; subst h
        obtain ⟨hs0, hx0⟩ := hc2.exact' hx
        refine ⟨_, hrun, ?_⟩
        rw [addIf_eq, beq_dec]
        by_cases hql : q = l
        · simp only [hql, if_true, decide_true]
          have := VR.sl (E := E) (o := o) (h' - l) (l - l) hE
          rw [hx0, Nat.add_zero] at this; exact this
        · simp only [hql, if_false, decide_false, Bool.false_eq_true]
          have := VR.sl (E := E) (o := o + l * e.inf.size) (h' - l) (q - l) hE
          rw [hx0, Nat.add_zero, ← Nat.add_assoc] at this; exact this
      | true =>
        rw [hx] at h; simp only [Option.some.injEq] at h; subst h
        refine ⟨_, hrun, ?_⟩
        rw [beq_dec]
        by_cases hql : q = l
        · simp only [hql, if_true, decide_true, addIf]; exact .slX _ _ hE
        · simp only [hql, if_false, decide_false, addIf, addA]
          have := VR.slX (E := E) (o := o + l * e.inf.size) (h' - l) (q - l) hE
          rw [← Nat.add_assoc] at this; exact this
    | _ => simp at h
  | _ => rw [hd] at h; simp at h
end
end Go.Ev
