/- The abstract machine: tries, memory, operations, steps. -/
import GoSem.Step
set_option linter.unusedSimpArgs false
set_option linter.unusedVariables false
namespace Go.Ev

inductive T (α : Type) where
  | lf
  | nd (l : T α) (v : Option α) (r : T α)

theorem beqF {a b : Nat} (h : ¬ a = b) : Nat.beq a b = false := by
  cases hb : Nat.beq a b with
  | false => rfl
  | true => exact absurd (Nat.eq_of_beq_eq_true hb) h
namespace T
variable {α : Type}
noncomputable def get (t : T α) : Nat → Option α :=
  T.rec (motive := fun _ => Nat → Option α) (fun _ => none)
    (fun _ v _ gl gr n => Nat.rec (motive := fun _ => Option α) v (fun n _ => Bool.rec (motive := fun _ => Option α) (gr (Nat.div n 2)) (gl (Nat.div n 2)) (Nat.beq (Nat.mod n 2) 0)) n) t
noncomputable def mkl (l : T α) (v : Option α) (r : T α) : T α :=
  T.rec (motive := fun _ => T α) (.nd .lf v r) (fun a b c _ _ => .nd (.nd a b c) v r) l
noncomputable def mkr (l : T α) (v : Option α) (r : T α) : T α :=
  T.rec (motive := fun _ => T α) (.nd l v .lf) (fun a b c _ _ => .nd l v (.nd a b c)) r
theorem mkl_eq (l : T α) (v : Option α) (r : T α) : mkl l v r = .nd l v r := by cases l <;> rfl
theorem mkr_eq (l : T α) (v : Option α) (r : T α) : mkr l v r = .nd l v r := by cases r <;> rfl
/-- a trie of one place -/
noncomputable def one (x : Option α) (f : Nat) : Nat → T α :=
  Nat.rec (motive := fun _ => Nat → T α) (fun _ => .lf)
    (fun _ ih n => Nat.rec (motive := fun _ => T α) (.nd .lf x .lf) (fun n _ => Bool.rec (motive := fun _ => T α) (mkr .lf none (ih (Nat.div n 2))) (mkl (ih (Nat.div n 2)) none .lf) (Nat.beq (Nat.mod n 2) 0)) n) f
noncomputable def put (t : T α) (x : Option α) : Nat → T α :=
  T.rec (motive := fun _ => Nat → T α) (fun n => one x (n + 1) n)
    (fun l v r pl pr n => Nat.rec (motive := fun _ => T α) (.nd l x r) (fun n _ => Bool.rec (motive := fun _ => T α) (mkr l v (pr (Nat.div n 2))) (mkl (pl (Nat.div n 2)) v r) (Nat.beq (Nat.mod n 2) 0)) n) t
noncomputable def set (t : T α) (n : Nat) (x : α) : T α := put t (some x) n

theorem get_lf (n : Nat) : get (.lf : T α) n = none := rfl
theorem get_zero (l : T α) (v : Option α) (r : T α) : get (.nd l v r) 0 = v := rfl
theorem get_succ (l : T α) (v : Option α) (r : T α) (n : Nat) : get (.nd l v r) (n + 1) = if n % 2 = 0 then get l (n / 2) else get r (n / 2) := by
  show Bool.rec (motive := fun _ => Option α) (get r (n / 2)) (get l (n / 2)) (Nat.beq (n % 2) 0) = _
  by_cases h : n % 2 = 0
  · rw [if_pos h, h]; rfl
  · rw [if_neg h, beqF h]
theorem one_zero (x : Option α) (f : Nat) : one x (f + 1) 0 = .nd .lf x .lf := rfl
theorem one_succ (x : Option α) (f n : Nat) : one x (f + 1) (n + 1) = if n % 2 = 0 then .nd (one x f (n / 2)) none .lf else .nd .lf none (one x f (n / 2)) := by
  show Bool.rec (motive := fun _ => T α) (mkr .lf none (one x f (n / 2))) (mkl (one x f (n / 2)) none .lf) (Nat.beq (n % 2) 0) = _
  by_cases h : n % 2 = 0
  · rw [if_pos h, h, ← mkl_eq]; rfl
  · rw [if_neg h, beqF h, ← mkr_eq]
theorem put_lf (x : Option α) (n : Nat) : put (.lf : T α) x n = one x (n + 1) n := rfl
theorem put_zero (l : T α) (v : Option α) (r : T α) (x : Option α) : put (.nd l v r) x 0 = .nd l x r := rfl
theorem put_succ (l : T α) (v : Option α) (r : T α) (x : Option α) (n : Nat) : put (.nd l v r) x (n + 1) = if n % 2 = 0 then .nd (put l x (n / 2)) v r else .nd l v (put r x (n / 2)) := by
  show Bool.rec (motive := fun _ => T α) (mkr l v (put r x (n / 2))) (mkl (put l x (n / 2)) v r) (Nat.beq (n % 2) 0) = _
  by_cases h : n % 2 = 0
  · rw [if_pos h, h, ← mkl_eq]; rfl
  · rw [if_neg h, beqF h, ← mkr_eq]

theorem get_one (x : Option α) : ∀ (f n k : Nat), n < f → get (one x f n) k = if k = n then x else none := by
  intro f
  induction f with
  | zero => intro n k h; omega
  | succ f ih =>
    intro n k h
    cases n with
    | zero =>
      rw [one_zero]
      cases k with
      | zero => simp [get_zero]
      | succ k => rw [get_succ]; simp [get_lf]
    | succ n =>
      rw [one_succ]
      cases k with
      | zero => split <;> simp [get_zero]
      | succ k =>
        by_cases hn : n % 2 = 0
        · rw [if_pos hn, get_succ]
          by_cases hk : k % 2 = 0
          · rw [if_pos hk, ih _ _ (by omega)]
            by_cases e : k = n
            · subst e; simp
            · rw [if_neg (by omega), if_neg (by omega)]
          · rw [if_neg hk, get_lf, if_neg (by intro e; have : k = n := by omega
                                              subst this; exact hk hn)]
        · rw [if_neg hn, get_succ]
          by_cases hk : k % 2 = 0
          · rw [if_pos hk, get_lf, if_neg (by intro e; have : k = n := by omega
                                              subst this; exact hn hk)]
          · rw [if_neg hk, ih _ _ (by omega)]
            by_cases e : k = n
            · subst e; simp
            · rw [if_neg (by omega), if_neg (by omega)]
theorem get_put (t : T α) (x : Option α) : ∀ (n k : Nat), get (put t x n) k = if k = n then x else get t k := by
  induction t with
  | lf => intro n k; rw [put_lf, get_one _ _ _ _ (by omega), get_lf]
  | nd l v r ihl ihr =>
    intro n k
    cases n with
    | zero =>
      rw [put_zero]
      cases k with
      | zero => simp [get_zero]
      | succ k => rw [get_succ, get_succ]; simp
    | succ n =>
      rw [put_succ]
      cases k with
      | zero => split <;> simp [get_zero]
      | succ k =>
        by_cases hn : n % 2 = 0
        · rw [if_pos hn, get_succ, get_succ]
          by_cases hk : k % 2 = 0
          · rw [if_pos hk, if_pos hk, ihl]
            by_cases e : k = n
            · subst e; simp
            · rw [if_neg (by omega), if_neg (by omega)]
          · rw [if_neg hk, if_neg hk, if_neg (by intro e; have : k = n := by omega
                                                 subst this; exact hk hn)]
        · rw [if_neg hn, get_succ, get_succ]
          by_cases hk : k % 2 = 0
          · rw [if_pos hk, if_pos hk, if_neg (by intro e; have : k = n := by omega
                                                 subst this; exact hn hk)]
          · rw [if_neg hk, if_neg hk, ihr]
            by_cases e : k = n
            · subst e; simp
            · rw [if_neg (by omega), if_neg (by omega)]
theorem get_set (t : T α) (n : Nat) (x : α) (k : Nat) : get (set t n x) k = if k = n then some x else get t k := get_put t (some x) n k

/-- a list laid from a place on -/
noncomputable def setL (l : List α) : Nat → T α → T α :=
  List.rec (motive := fun _ => Nat → T α → T α) (fun _ t => t) (fun x _ ih n t => T.casesOn (motive := fun _ => T α) (set t n x) (ih (n + 1) .lf) (fun a b c => ih (n + 1) (.nd a b c))) l
theorem setL_nil (n : Nat) (t : T α) : setL [] n t = t := rfl
theorem setL_cons (x : α) (l : List α) (n : Nat) (t : T α) : setL (x :: l) n t = setL l (n + 1) (set t n x) := by
  show T.casesOn (motive := fun _ => T α) (set t n x) (setL l (n + 1) .lf) (fun a b c => setL l (n + 1) (.nd a b c)) = _
  cases set t n x <;> rfl
theorem get_setL (l : List α) : ∀ (n : Nat) (t : T α) (k : Nat), get (setL l n t) k = if k < n then get t k else if k < n + l.length then l[k - n]? else get t k := by
  induction l with
  | nil => intro n t k; rw [setL_nil]; simp; intros; omega
  | cons x l ih =>
    intro n t k
    rw [setL_cons, ih, get_set]
    by_cases h1 : k < n
    · rw [if_pos (by omega), if_neg (by omega), if_pos h1]
    · rw [if_neg h1]
      by_cases h2 : k = n
      · subst h2
        rw [if_pos (by omega), if_pos rfl, if_pos (by simp)]; simp
      · rw [if_neg (by omega : ¬ k < n + 1)]
        by_cases h3 : k < n + 1 + l.length
        · rw [if_pos h3, if_pos (by simp; omega)]
          obtain ⟨j, hj⟩ : ∃ j, k - n = j + 1 := ⟨k - n - 1, by omega⟩
          rw [hj, show k - (n + 1) = j from by omega]; simp
        · rw [if_neg h3, if_neg h2, if_neg (by simp only [List.length_cons]; omega)]
noncomputable def ofList (l : List α) : T α := setL l 0 .lf
theorem get_ofList (l : List α) (k : Nat) : get (ofList l) k = l[k]? := by
  unfold ofList
  rw [get_setL]
  by_cases h : k < l.length
  · rw [if_neg (by omega), if_pos (by omega)]; simp
  · rw [if_neg (by omega), if_neg (by omega), get_lf, List.getElem?_eq_none (by omega)]
end T
end Go.Ev
namespace Go.Ev

def oB {α β : Type} (x : Option α) (f : α → Option β) : Option β :=
  match x with
  | some a => f a
  | none => none
theorem oB_some {α β : Type} {x : Option α} {f : α → Option β} {b : β} : oB x f = some b ↔ ∃ a, x = some a ∧ f a = some b := by
  cases x <;> simp [oB]

def fNat {α : Type} (n : Nat) (k : Nat → α) : α :=
  match n with
  | 0 => k 0
  | m + 1 => k (m + 1)
theorem fNat_eq {α : Type} (n : Nat) (k : Nat → α) : fNat n k = k n := by cases n <;> rfl
def fInt {α : Type} (n : Int) (k : Int → α) : α :=
  match n with
  | .ofNat n => fNat n fun n => k (.ofNat n)
  | .negSucc n => fNat n fun n => k (.negSucc n)
theorem fInt_eq {α : Type} (n : Int) (k : Int → α) : fInt n k = k n := by cases n <;> simp [fInt, fNat_eq]

/-! ### numbers -/
def kEq : IntKind → IntKind → Bool
  | .i8, .i8 => true | .i16, .i16 => true | .i32, .i32 => true | .i64, .i64 => true
  | .u8, .u8 => true | .u16, .u16 => true | .u32, .u32 => true | .u64, .u64 => true
  | _, _ => false
def intEq : Int → Int → Bool
  | .ofNat a, .ofNat b => Nat.beq a b
  | .negSucc a, .negSucc b => Nat.beq a b
  | _, _ => false
def intLt : Int → Int → Bool
  | .ofNat a, .ofNat b => Nat.blt a b
  | .negSucc _, .ofNat _ => true
  | .negSucc a, .negSucc b => Nat.blt b a
  | .ofNat _, .negSucc _ => false
def addI : Int → Int → Int
  | .ofNat a, .ofNat b => .ofNat (a + b)
  | x, y => x + y
def subI : Int → Int → Int
  | .ofNat a, .ofNat b => match Nat.ble b a with | true => .ofNat (a - b) | false => .negSucc (b - a - 1)
  | x, y => x - y
def mulI : Int → Int → Int
  | .ofNat a, .ofNat b => .ofNat (a * b)
  | x, y => x * y
def quoI : Int → Int → Option Int
  | .ofNat a, .ofNat (b + 1) => some (.ofNat (a / (b + 1)))
  | _, .ofNat 0 => none
  | x, y => some (x.tdiv y)
def remI : Int → Int → Option Int
  | .ofNat a, .ofNat (b + 1) => some (.ofNat (a % (b + 1)))
  | _, .ofNat 0 => none
  | x, y => some (x.tmod y)
def wrapN (k : IntKind) (m : Nat) : Int :=
  match k with
  | .i64 => match Nat.blt m 9223372036854775808 with | true => .ofNat m | false => IntKind.wrap .i64 (.ofNat m)
  | .i32 => match Nat.blt m 2147483648 with | true => .ofNat m | false => IntKind.wrap .i32 (.ofNat m)
  | .i16 => match Nat.blt m 32768 with | true => .ofNat m | false => IntKind.wrap .i16 (.ofNat m)
  | .i8 => match Nat.blt m 128 with | true => .ofNat m | false => IntKind.wrap .i8 (.ofNat m)
  | .u64 => .ofNat (m % 18446744073709551616)
  | .u32 => .ofNat (m % 4294967296)
  | .u16 => .ofNat (m % 65536)
  | .u8 => .ofNat (m % 256)
def wrapF (k : IntKind) (n : Int) : Int :=
  match n with
  | .ofNat m => wrapN k m
  | .negSucc m => match k with
    | .i64 => match Nat.blt m 9223372036854775808 with | true => .negSucc m | false => IntKind.wrap .i64 (.negSucc m)
    | .u64 => .ofNat (18446744073709551615 - m % 18446744073709551616)
    | k => IntKind.wrap k (.negSucc m)
def vInt (k : IntKind) (n : Int) : Value := fInt n fun n => .int k n
def bitsI (op : BinOp) (k : IntKind) (x y : Int) : Option Int :=
  match op with
  | .and => some (k.wrap (BitVec.ofInt k.bits x &&& BitVec.ofInt k.bits y).toNat)
  | .or => some (k.wrap (BitVec.ofInt k.bits x ||| BitVec.ofInt k.bits y).toNat)
  | .xor => some (k.wrap (BitVec.ofInt k.bits x ^^^ BitVec.ofInt k.bits y).toNat)
  | .andNot => some (k.wrap (BitVec.ofInt k.bits x &&& ~~~ BitVec.ofInt k.bits y).toNat)
  | _ => none
def bitsF (op : BinOp) (k : IntKind) (x y : Int) : Option Int :=
  match x, y with
  | .ofNat a, .ofNat b =>
    match op with
    | .and => some (wrapN k (Nat.land a b))
    | .or => some (wrapN k (Nat.lor a b))
    | .xor => some (wrapN k (Nat.xor a b))
    | op => bitsI op k (.ofNat a) (.ofNat b)
  | x, y => bitsI op k x y
def oI (k : IntKind) (x : Option Int) : Option Value := match x with | some n => some (vInt k n) | none => none
def intOp (op : BinOp) (k : IntKind) (x y : Int) : Option Value :=
  match op with
  | .add => some (vInt k (wrapF k (addI x y)))
  | .sub => some (vInt k (wrapF k (subI x y)))
  | .mul => some (vInt k (wrapF k (mulI x y)))
  | .quo => oB (quoI x y) fun r => some (vInt k (wrapF k r))
  | .rem => oI k (remI x y)
  | .eql => some (.bool (intEq x y))
  | .neq => some (.bool (!intEq x y))
  | .lss => some (.bool (intLt x y))
  | .leq => some (.bool (!intLt y x))
  | .gtr => some (.bool (intLt y x))
  | .geq => some (.bool (!intLt x y))
  | op => oI k (bitsF op k x y)
def shiftOp (op : BinOp) (k : IntKind) (x y : Int) : Option Value :=
  match y with
  | .negSucc _ => none
  | .ofNat y =>
    match op, x with
    | .shl, .ofNat a => some (vInt k (wrapN k (Nat.shiftLeft a (Nat.min y k.bits))))
    | .shr, .ofNat a => some (vInt k (.ofNat (Nat.shiftRight a (Nat.min y k.bits))))
    | .shl, x => some (vInt k (k.wrap (x * 2 ^ Nat.min y k.bits)))
    | .shr, x => some (vInt k (x.fdiv (2 ^ Nat.min y k.bits)))
    | _, _ => none
def bytesEq : List UInt8 → List UInt8 → Bool
  | [], [] => true
  | a :: x, b :: y => match Nat.beq a.toNat b.toNat with | true => bytesEq x y | false => false
  | _, _ => false
def strOp (op : BinOp) (a b : ByteArray) : Option Value :=
  match op with
  | .add => match Nat.ble (a.data.toList.length + b.data.toList.length) 9223372036854775807 with
    | true => some (.string ⟨⟨a.data.toList ++ b.data.toList⟩⟩)
    | false => none
  | .eql => some (.bool (bytesEq a.data.toList b.data.toList))
  | .neq => some (.bool (!bytesEq a.data.toList b.data.toList))
  | .lss => some (.bool (Op.bytesLess a.data.toList b.data.toList))
  | .leq => some (.bool (Op.bytesLess a.data.toList b.data.toList || bytesEq a.data.toList b.data.toList))
  | .gtr => some (.bool (!(Op.bytesLess a.data.toList b.data.toList || bytesEq a.data.toList b.data.toList)))
  | .geq => some (.bool (!Op.bytesLess a.data.toList b.data.toList))
  | _ => none

/-! ### types -/
structure TI where
  d : TypeDesc
  inf : TypeInfo
  agg : Bool
  zc : List Value          -- the zero value's cells; without one: none
  hasZ : Bool
  flds : List (Nat × Nat × TypeId × Bool)     -- a struct's fields: offset, size, type, named '_'
  guard : Bool
  held : Bool
def isAggD : TypeDesc → Bool
  | .struct _ => true
  | .array _ _ => true
  | _ => false
def cellsOfV : Value → List Value
  | .agg cs => cs.toList
  | v => [v]
/-- a value without an address -/
def flatV : Value → Bool
  | .bool _ => true
  | .int _ _ => true
  | .string _ => true
  | .pointer none => true
  | .slice none _ _ => true
  | .map none => true
  | .nilFunc => true
  | .nilIface => true
  | _ => false
/-- there is a zero value, flat, of the type's size; the types of a struct's fields are known -/
def hasZ0 (P : Program) (i : TypeInfo) (d : TypeDesc) : Bool :=
  match i.zero with
  | some z => (cellsOfV z).all flatV && Nat.beq (cellsOfV z).length i.size && (match d with | .struct fs => fs.toList.all fun f => (P.info? f.type).isSome | _ => true)
  | none => false
def mkTI (P : Program) (t : TypeId) : Option TI :=
  match P.info? t, P.underlying t with
  | some i, some d => some {
      d, inf := i, agg := isAggD d
      zc := match i.zero with | some z => cellsOfV z | none => []
      hasZ := hasZ0 P i d
      flds := match d with
        | .struct fs => fs.toList.map fun f => (f.offset, P.cellsOf f.type, f.type, f.name == "_")
        | _ => []
      guard := P.eqGuardType P.depth t
      held := P.stoodInHeld t }
  | _, _ => none
def zeroV (i : TI) : Option Value :=
  match i.hasZ with
  | true => i.inf.zero
  | false => none
/-! ### memory -/
inductive Fz where
  | none
  | str
  | rng (lo hi : Nat)
structure Row where
  ov : T Value
  n : Nat
  z : List Value
  elem : TypeId
  fz : Fz
  ext : Bool
inductive AObj where
  | row (r : Row)
  | glob (r : Row)
  | map (es : List MapEntry) (clock : Nat)
  | strIter (s : ByteArray) (pos : Nat) (rest : List UInt8)
  | mapIter (mp : Option Nat) (since : Nat) (seen : List Nat) (stepped : Nat)
  | loop (st : LoopState) (pe : Option Code) (fn : FuncId) (tmps : T Value) (nt : Nat) (ps : List Tmp) (a b : Code) (ds : Nat)
  | dfr (calls : Option (List Deferred))
  | dead
structure Mem where
  objs : T AObj
  next : Nat
structure Tabs where
  p : Program
  types : T (Option TI)
  funcs : T Func
  ov : T (List Value → Mem → Option (Value × Mem))
  g : Nat
noncomputable def mkTabs (P : Program) (g : Nat) (ov : T (List Value → Mem → Option (Value × Mem))) : Tabs :=
  { p := P, types := T.ofList ((List.range P.types.size).map (mkTI P)), funcs := T.ofList P.funcs.toList, ov, g }

section
variable (tb : Tabs)
noncomputable def ti (t : TypeId) : Option TI :=
  match tb.types.get t with
  | some x => x
  | none => none

noncomputable def putObj (m : Mem) (b : Nat) (o : AObj) : Mem := match m with | ⟨objs, next⟩ => ⟨objs.set b o, next⟩
noncomputable def newObjA (m : Mem) (o : AObj) : Mem := match m with | ⟨objs, next⟩ => ⟨objs.set next o, next + 1⟩
/-- to be read -/
noncomputable def rowOf (m : Mem) (b : Nat) : Option Row :=
  match m.objs.get b with
  | some (.row r) => some r
  | some (.glob r) => some r
  | _ => none
/-- to be written -/
noncomputable def rowW (m : Mem) (b : Nat) : Option Row :=
  match m.objs.get b with
  | some (.row r) => some r
  | _ => none
noncomputable def cellAt (r : Row) (i : Nat) : Option Value :=
  match r with
  | ⟨ov, n, z, _, _, _⟩ =>
    match Nat.blt i n with
    | true => match ov.get i with
      | some v => some v
      | none => z[i % z.length]?
    | false => none
noncomputable def cellsFrom (r : Row) (k : Nat) : Nat → Option (List Value) :=
  Nat.rec (motive := fun _ => Nat → Option (List Value)) (fun _ => some []) (fun _ ih i => oB (cellAt r i) fun v => oB (ih (i + 1)) fun l => some (v :: l)) k
noncomputable def loadA (t : TypeId) (m : Mem) (b o : Nat) : Option Value :=
  oB (ti tb t) fun i => oB (rowOf m b) fun r =>
    match i.agg with
    | true => oB (cellsFrom r i.inf.size o) fun l => some (.agg ⟨l⟩)
    | false => cellAt r o
/-- may these cells be written? -/
def fzOk (fz : Fz) (i k : Nat) : Bool :=
  match fz with
  | .none => true
  | .str => true
  | .rng lo hi => Nat.ble hi i || Nat.ble (i + k) lo
def oneC (v : Value) : Bool :=
  match v with
  | .agg _ => false
  | .tuple _ => false
  | _ => true
noncomputable def setCells (r : Row) (i : Nat) (l : List Value) : Option Row :=
  match r with
  | ⟨ov, n, z, elem, fz, ext⟩ =>
    match Nat.ble (i + l.length) n && l.all oneC with
    | true => match fzOk fz i l.length with
      | true => some ⟨T.setL l i ov, n, z, elem, fz, ext⟩
      | false => none
    | false => none
noncomputable def storeCellsA (m : Mem) (b i : Nat) (l : List Value) : Option Mem :=
  oB (rowW m b) fun r => oB (setCells r i l) fun r' => some (putObj m b (.row r'))
noncomputable def storeA (t : TypeId) (m : Mem) (b o : Nat) (v : Value) : Option Mem :=
  oB (ti tb t) fun i =>
    match Nat.beq (cellsOfV v).length i.inf.size with
    | true => storeCellsA m b o (cellsOfV v)
    | false => none
noncomputable def rowObj (elem : TypeId) (cells : List Value) (fz : Fz) (ext : Bool) : AObj := .row ⟨T.ofList cells, cells.length, [], elem, fz, ext⟩
def zeroObj (elem : TypeId) (n : Nat) (z : List Value) : AObj := .row ⟨.lf, n, z, elem, .none, false⟩

/-! ### aggregates -/
def takeN (l : List Value) (off n : Nat) : List Value := (l.drop off).take n
noncomputable def partA (t : TypeId) (cs : List Value) (off : Nat) : Option Value :=
  oB (ti tb t) fun i =>
    match i.agg with
    | true => some (.agg ⟨takeN cs off i.inf.size⟩)
    | false => cs[off]?
noncomputable def fillA (place : Nat → Option (Nat × Nat)) (n : Nat) : List (Nat × Value) → T Value → Option (T Value)
  | [], c => some c
  | (i, v) :: rest, c =>
    match place i with
    | some (off, sz) =>
      match Nat.beq (cellsOfV v).length sz && Nat.ble (off + (cellsOfV v).length) n with
      | true => fillA place n rest (T.setL (cellsOfV v) off c)
      | false => none
    | none => none
noncomputable def listOf (c : T Value) : List Value → Nat → List Value
  | [], _ => []
  | z :: zs, i => (match c.get i with | some v => v | none => z) :: listOf c zs (i + 1)
def placeS (flds : List (Nat × Nat × TypeId × Bool)) (i : Nat) : Option (Nat × Nat) :=
  match flds[i]? with
  | some (o, s, _) => some (o, s)
  | none => none
noncomputable def buildA (t : TypeId) (parts : List (Nat × Value)) : Option Value :=
  oB (ti tb t) fun i =>
    match i.hasZ, i.d with
    | true, .struct _ => oB (fillA (placeS i.flds) i.zc.length parts .lf) fun c => some (.agg ⟨listOf c i.zc 0⟩)
    | true, .array _ elem => oB (ti tb elem) fun e => oB (fillA (fun j => some (j * e.inf.size, e.inf.size)) i.zc.length parts .lf) fun c => some (.agg ⟨listOf c i.zc 0⟩)
    | _, _ => none

/-! ### equality, without choices -/
noncomputable def eqFields (eq : TypeId → Value → Value → Option Bool) (xs ys : List Value) : List (Nat × Nat × TypeId × Bool) → Option Bool
  | [] => some true
  | (o, _, t, blank) :: fs =>
    match blank with
    | true => eqFields eq xs ys fs
    | false =>
      oB (partA tb t xs o) fun a => oB (partA tb t ys o) fun b => oB (eq t a b) fun r =>
        match r with
        | true => eqFields eq xs ys fs
        | false => some false
noncomputable def eqElems (eq : TypeId → Value → Value → Option Bool) (elem : TypeId) (n : Nat) (xs ys : List Value) : Nat → Nat → Option Bool
  | 0, _ => some true
  | k + 1, i =>
    oB (partA tb elem xs (i * n)) fun a => oB (partA tb elem ys (i * n)) fun b => oB (eq elem a b) fun r =>
      match r with
      | true => eqElems eq elem n xs ys k (i + 1)
      | false => some false
/-- two addresses that are no strings' -/
noncomputable def ptrEq (m : Mem) (a b : Addr) : Option Bool :=
  match Nat.beq a.block b.block with
  | true => some (Nat.beq a.off b.off)
  | false =>
    match rowOf m a.block, rowOf m b.block with
    | some r, some q => match r.fz, q.fz with
      | .none, .none => some false
      | _, _ => none
    | _, _ => none
noncomputable def eqPtr (m : Mem) : Option Addr → Option Addr → Option Bool
  | none, none => some true
  | none, some _ => some false
  | some _, none => some false
  | some a, some b => ptrEq m a b
def eqBool : Value → Value → Option Bool
  | .bool a, .bool b => some (a == b)
  | _, _ => none
def eqInt : Value → Value → Option Bool
  | .int k a, .int k' b => match kEq k k' with | true => some (intEq a b) | false => none
  | _, _ => none
def eqStr : Value → Value → Option Bool
  | .string a, .string b => some (bytesEq a.data.toList b.data.toList)
  | _, _ => none
noncomputable def eqPt (m : Mem) (e : TypeId) : Value → Value → Option Bool
  | .pointer a, .pointer b => oB (ti tb e) fun ie => match ie.inf.size with | 0 => none | _ + 1 => eqPtr m a b
  | _, _ => none
noncomputable def eqIf (eq : TypeId → Value → Value → Option Bool) : Value → Value → Option Bool
  | .nilIface, .nilIface => some true
  | .nilIface, .iface _ _ => some false
  | .iface _ _, .nilIface => some false
  | .iface tx vx, .iface ty vy =>
    match Nat.beq tx ty with
    | false => some false
    | true => oB (ti tb tx) fun j => match j.inf.comparable with
      | true => eq tx vx vy
      | false => none
  | _, _ => none
noncomputable def eqSt (eq : TypeId → Value → Value → Option Bool) (i : TI) : Value → Value → Option Bool
  | .agg xs, .agg ys => match i.held with | true => none | false => eqFields tb eq xs.toList ys.toList i.flds
  | _, _ => none
noncomputable def eqAr (eq : TypeId → Value → Value → Option Bool) (len : Nat) (elem : TypeId) : Value → Value → Option Bool
  | .agg xs, .agg ys => oB (ti tb elem) fun e => eqElems tb eq elem e.inf.size xs.toList ys.toList len 0
  | _, _ => none
def eqSl : Value → Value → Option Bool
  | .slice none _ _, .slice none _ _ => some true
  | .slice none _ _, .slice (some _) _ _ => some false
  | .slice (some _) _ _, .slice none _ _ => some false
  | _, _ => none
def eqMp : Value → Value → Option Bool
  | .map none, .map none => some true
  | .map none, .map (some _) => some false
  | .map (some _), .map none => some false
  | _, _ => none
def eqFn : Value → Value → Option Bool
  | .nilFunc, .nilFunc => some true
  | .nilFunc, .func _ _ _ => some false
  | .func _ _ _, .nilFunc => some false
  | _, _ => none
noncomputable def eqA (m : Mem) : Nat → TypeId → Value → Value → Option Bool
  | 0, _, _, _ => none
  | d + 1, t, x, y =>
    oB (ti tb t) fun i =>
    match i.d with
    | .bool => eqBool x y
    | .int _ => eqInt x y
    | .string => eqStr x y
    | .pointer e => eqPt tb m e x y
    | .interface _ => eqIf tb (eqA m d) x y
    | .struct _ => eqSt tb (eqA m d) i x y
    | .array len elem => eqAr tb (eqA m d) len elem x y
    | .slice _ => eqSl x y
    | .map _ _ => eqMp x y
    | .func _ _ _ => eqFn x y
    | _ => none
def isConst : Operand → Bool
  | .const _ => true
  | _ => false
/-- what the model's own look ahead of == lets by -/
noncomputable def guardOk (t : TypeId) (x y : Operand) (a b : Value) : Bool :=
  match a, b with
  | .nilIface, .nilIface => isConst x || isConst y
  | .agg _, .agg _ => match ti tb t with | some i => !i.guard | none => false
  | _, _ => true
noncomputable def eqOp (m : Mem) (t : TypeId) (x y : Operand) (a b : Value) : Option Bool :=
  match guardOk tb t x y a b with
  | true => eqA tb m 64 t a b
  | false => none
noncomputable def binA (m : Mem) (op : BinOp) (t : TypeId) (x y : Operand) (a b : Value) : Option Value :=
  match a, b with
  | .int k n, .int k' n' =>
    match op with
    | .shl => shiftOp .shl k n n'
    | .shr => shiftOp .shr k n n'
    | op => match kEq k k' with | true => intOp op k n n' | false => none
  | .string s, .string s' => strOp op s s'
  | a, b => match op with
    | .eql => oB (eqOp tb m t x y a b) fun r => some (.bool r)
    | .neq => oB (eqOp tb m t x y a b) fun r => some (.bool (!r))
    | _ => none
def unA (op : UnOp) (x : Value) : Option Value :=
  match op, x with
  | .neg, .int k n => some (vInt k (wrapF k (subI 0 n)))
  | .xor, .int k n => oI k (bitsI .xor k (if k.signed then -1 else k.max) n)
  | .not, .bool b => some (.bool !b)
  | _, _ => none

/-! ### places -/
def bound (x : Value) (y : Nat) : Option Nat :=
  match x with
  | .int _ (.ofNat n) => match Nat.ble n y with | true => some n | false => none
  | _ => none
def oBound (x : Option Value) (dflt y : Nat) : Option Nat :=
  match x with
  | some v => bound v y
  | none => some dflt
def addA (a : Addr) (n : Nat) : Addr := ⟨a.block, a.off + n, none⟩
def addIf (b : Bool) (a : Addr) (n : Nat) : Addr := match b with | true => a | false => addA a n
def bounds3 (len cap : Nat) (lo hi mx : Option Value) : Option (Nat × Nat × Nat) :=
  match mx, hi with
  | some _, none => none
  | _, _ => oB (oBound mx cap cap) fun q => oB (oBound hi len q) fun h => oB (oBound lo 0 h) fun l =>
    match Nat.ble l h && Nat.ble h q with
    | true => some (l, h, q)
    | false => none
def slStr (s : ByteArray) (lo hi : Option Value) : Option Value :=
  oB (bounds3 s.data.toList.length s.data.toList.length lo hi none) fun (l, h, _) => some (.string ⟨⟨(s.data.toList.drop l).take (h - l)⟩⟩)
/-- a cut of what lies at 'a'; 'mv': how far its begin moves; '0' of the capacity: nothing moves -/
def slExt (ext : Bool) (a : Addr) (mx : Option Value) (l h q sz : Nat) : Option Value :=
  match ext with
  | false => match a.spot with
    | none => some (.slice (some (addIf (Nat.beq q l) a (l * sz))) (h - l) (q - l))
    | some _ => none
  | true => match a.spot with
    | some (_ + 1) => none
    | some 0 => some (.slice (some ⟨a.block, (addIf (Nat.beq q l) a (l * sz)).off, some 0⟩) (h - l) (q - l))
    | none => match mx with
      | some _ => some (.slice (some ⟨a.block, (addIf (Nat.beq q l) a (l * sz)).off, some 0⟩) (h - l) (q - l))
      | none => match Nat.beq q l with
        | true => match l * sz with
          | 0 => none
          | k + 1 => some (.slice (some ⟨a.block, a.off, some (k + 1)⟩) 0 0)
        | false => some (.slice (some (addA a (l * sz))) (h - l) (q - l))
noncomputable def sliceA (t : TypeId) (m : Mem) (x : Value) (lo hi mx : Option Value) : Option Value :=
  oB (ti tb t) fun i =>
  match i.d, x with
  | .string, .string s => match mx with
    | some _ => none
    | none => slStr s lo hi
  | .slice elem, .slice none len cap =>
    oB (bounds3 len cap lo hi mx) fun (l, h, q) => oB (ti tb elem) fun _ => some (.slice none (h - l) (q - l))
  | .slice elem, .slice (some a) len cap =>
    oB (bounds3 len cap lo hi mx) fun (l, h, q) =>
    oB (ti tb elem) fun e => oB (rowOf m a.block) fun r => slExt r.ext a mx l h q e.inf.size
  | .array n elem, .pointer (some a) =>
    oB (bounds3 n n lo hi mx) fun (l, h, q) =>
    oB (ti tb elem) fun e => oB (rowOf m a.block) fun r => match r.ext with
      | false => some (.slice (some (addIf (Nat.beq q l) a (l * e.inf.size))) (h - l) (q - l))
      | true => some (.slice (some ⟨a.block, (addIf (Nat.beq q l) a (l * e.inf.size)).off, some 0⟩) (h - l) (q - l))
  | _, _ => none
noncomputable def indexAddrA (t : TypeId) (x ix : Value) : Option Value :=
  match ix with
  | .int _ (.ofNat j) =>
    oB (ti tb t) fun i =>
    match i.d, x with
    | .array len elem, .pointer (some a) =>
      match Nat.blt j len with
      | true => oB (ti tb elem) fun e => some (.pointer (some (addA a (j * e.inf.size))))
      | false => none
    | .slice elem, .slice (some a) len _ =>
      match Nat.blt j len with
      | true => oB (ti tb elem) fun e => some (.pointer (some (addA a (j * e.inf.size))))
      | false => none
    | _, _ => none
  | _ => none
noncomputable def fieldAddrA (t : TypeId) (x : Value) (f : Nat) : Option Value :=
  oB (ti tb t) fun i =>
  match x with
  | .pointer (some a) => match i.flds[f]? with
    | some (o, s, _) => match s with
      | 0 => none
      | _ + 1 => some (.pointer (some (addA a o)))
    | none => none
  | _ => none
noncomputable def fieldA (t : TypeId) (x : Value) (f : Nat) : Option Value :=
  oB (ti tb t) fun i =>
  match x with
  | .agg cs => match i.flds[f]? with
    | some (o, _, ft, _) => partA tb ft cs.toList o
    | none => none
  | _ => none
def byteV (b : UInt8) : Value := fNat b.toNat fun n => .int .u8 (.ofNat n)
noncomputable def indexA (t : TypeId) (x ix : Value) : Option Value :=
  match ix with
  | .int _ (.ofNat j) =>
    oB (ti tb t) fun i =>
    match i.d, x with
    | .array len elem, .agg cs =>
      match Nat.blt j len with
      | true => oB (ti tb elem) fun e => partA tb elem cs.toList (j * e.inf.size)
      | false => none
    | .string, .string s => match s.data.toList[j]? with
      | some b => some (byteV b)
      | none => none
    | _, _ => none
  | _ => none

/-! ### strings and bytes -/
def bytesL : List Value → Option (List UInt8)
  | [] => some []
  | .int .u8 (.ofNat n) :: l => oB (bytesL l) fun r => some (UInt8.ofNat n :: r)
  | _ => none
def u8s : List UInt8 → List Value
  | [] => []
  | b :: l => byteV b :: u8s l
noncomputable def bytesAt (m : Mem) (b o n : Nat) : Option ByteArray :=
  oB (rowOf m b) fun r => oB (cellsFrom r n o) fun l => oB (bytesL l) fun bs => some ⟨⟨bs⟩⟩
noncomputable def lenA (t : TypeId) (m : Mem) (x : Value) : Option Value :=
  match x with
  | .slice _ n _ => oB (ti tb t) fun i => match i.d with | .slice _ => some (vInt .i64 (.ofNat n)) | _ => none
  | .string s => oB (ti tb t) fun i => match i.d with | .string => some (vInt .i64 (.ofNat s.data.toList.length)) | _ => none
  | .map none => oB (ti tb t) fun i => match i.d with | .map _ _ => some (.int .i64 (.ofNat 0)) | _ => none
  | .map (some r) => oB (ti tb t) fun i => match i.d with
    | .map _ _ => match m.objs.get r with | some (.map es _) => some (vInt .i64 (.ofNat es.length)) | _ => none
    | _ => none
  | .agg _ => oB (ti tb t) fun i => match i.d with | .array n _ => some (.int .i64 (.ofNat n)) | _ => none
  | .pointer _ => oB (ti tb t) fun i => match i.d with
    | .pointer arr => oB (ti tb arr) fun j => match j.d with | .array n _ => some (.int .i64 (.ofNat n)) | _ => none
    | _ => none
  | _ => none
noncomputable def capA (t : TypeId) (m : Mem) (x : Value) : Option Value :=
  match x with
  | .slice none _ c => oB (ti tb t) fun i => match i.d with | .slice _ => some (vInt .i64 (.ofNat c)) | _ => none
  | .slice (some a) _ c => oB (ti tb t) fun i => match i.d with
    | .slice _ => match a.spot with
      | some 0 => some (vInt .i64 (.ofNat c))
      | some (_ + 1) => none
      | none => oB (rowOf m a.block) fun r => match r.ext with
        | true => none
        | false => some (vInt .i64 (.ofNat c))
    | _ => none
  | _ => none
noncomputable def firstA (m : Mem) (k n : Nat) : Value → Option (List Value)
  | .slice (some a) _ _ => match k with
    | 0 => some []
    | k + 1 => oB (rowOf m a.block) fun r => cellsFrom r (k + 1) a.off
  | .slice none _ _ => some []
  | .string s => some (u8s (s.data.toList.take n))
  | _ => none
def lenOfA : Value → Option Nat
  | .slice _ n _ => some n
  | .string s => some s.data.toList.length
  | _ => none
def repl (z : List Value) : Nat → List Value
  | 0 => []
  | n + 1 => z ++ repl z n
/-- how much room: Go's own test -/
def roomOk (need cap bytes : Nat) : Bool := Nat.ble (Builtin.nextslicecap need cap * bytes) 281474976710656
/-- what is appended: n elements, their cells -/
noncomputable def appended (m : Mem) (xt elem : TypeId) (sz : Nat) (x : Value) : Option (Nat × List Value) :=
  oB (ti tb xt) fun j =>
  match j.d with
  | .int _ => match x with
    | .int _ (.ofNat n) => oB (ti tb elem) fun e => match e.hasZ, Nat.ble (n * e.inf.bytes) 281474976710656, Nat.blt n 9223372036854775808 with
      | true, true, true => some (n, repl e.zc n)
      | _, _, _ => none
    | _ => none
  | _ => oB (lenOfA x) fun n => oB (firstA m (n * sz) n x) fun l => some (n, l)
noncomputable def newRowV (m : Mem) (elem : TypeId) (cells : List Value) (n : Nat) : Option (Value × Mem) :=
  some (.slice (some ⟨m.next, 0, none⟩) n n, newObjA m (rowObj elem cells .none true))
noncomputable def growA (m : Mem) (elem : TypeId) (sz : Nat) (a : Addr) (sl sc n : Nat) (new : List Value) : Option (Value × Mem) :=
  oB (rowOf m a.block) fun r =>
  match r.ext with
  | false => oB (cellsFrom r (sl * sz) a.off) fun old => newRowV m elem (old ++ new) (sl + n)
  | true => match a.spot with
    | some 0 => oB (cellsFrom r (sl * sz) a.off) fun old => newRowV m elem (old ++ new) (sl + n)
    | some (k + 1) => match r.fz, rowW m a.block, Nat.beq (a.off + (k + 1)) r.n && Nat.beq r.elem elem && Nat.beq new.length (n * sz) && new.all oneC with
      | .none, some _, true => newRowV (putObj m a.block .dead) elem new n
      | _, _, _ => none
    | none => match r.fz, rowW m a.block, Nat.beq (a.off + sc * sz) r.n && Nat.beq r.elem elem && Nat.beq new.length (n * sz) && new.all oneC with
      | .none, some _, true => oB (cellsFrom r (sl * sz) a.off) fun old => newRowV (putObj m a.block .dead) elem (old ++ new) (sl + n)
      | _, _, _ => none
noncomputable def appendTo (m : Mem) (elem : TypeId) (sz : Nat) (s : Value) (n : Nat) (new : List Value) : Option (Value × Mem) :=
  match s with
  | .slice none sl sc =>
    match n with
    | 0 => match Nat.beq sl 0 with | true => some (.slice none 0 sc, m) | false => none
    | n + 1 => match Nat.beq sl 0 && Nat.beq sc 0 with | true => newRowV m elem new (n + 1) | false => none
  | .slice (some a) sl sc =>
    match Nat.ble (sl + n) sc with
    | true => match new with
      | [] => some (.slice (some a) (sl + n) sc, m)
      | v :: new => oB (storeCellsA m a.block (a.off + sl * sz) (v :: new)) fun m => some (.slice (some a) (sl + n) sc, m)
    | false => growA m elem sz a sl sc n new
  | _ => none
/-- far from any bound -/
def appendFits (s : Value) (n bytes : Nat) : Bool :=
  match s with
  | .slice _ sl _ => Nat.ble ((sl + n + 1000) * bytes) 17592186044416
  | _ => false
noncomputable def appendA (tys : List TypeId) (m : Mem) (s x : Value) : Option (Value × Mem) :=
  match tys with
  | st :: xt :: _ =>
    oB (ti tb st) fun i =>
    match i.d with
    | .slice elem =>
      oB (ti tb elem) fun e =>
      oB (appended tb m xt elem e.inf.size x) fun (n, new) =>
      match e.inf.size, e.inf.bytes, e.hasZ, appendFits s n e.inf.bytes with
      | _ + 1, _ + 1, true, true => appendTo m elem e.inf.size s n new
      | _, _, _, _ => none
    | _ => none
  | _ => none
noncomputable def copyA (tys : List TypeId) (m : Mem) (d s : Value) : Option (Value × Mem) :=
  match tys with
  | dt :: _ =>
    oB (ti tb dt) fun i =>
    match i.d, d with
    | .slice elem, .slice base dl _ =>
      oB (ti tb elem) fun e => oB (lenOfA s) fun sl =>
      oB (firstA m (Nat.min sl dl * e.inf.size) (Nat.min sl dl) s) fun cells =>
      match base, cells with
      | some a, v :: l => oB (storeCellsA m a.block a.off (v :: l)) fun m => some (vInt .i64 (.ofNat (Nat.min sl dl)), m)
      | _, _ => some (vInt .i64 (.ofNat (Nat.min sl dl)), m)
    | _, _ => none
  | _ => none

/-! ### maps -/
noncomputable def keyFind (m : Mem) (kt : TypeId) (k : Value) : List MapEntry → Nat → Option (Option (Nat × Value))
  | [], _ => some none
  | e :: es, i => oB (eqA tb m 64 kt k e.key) fun r =>
    match r with
    | true => some (some (i, e.val))
    | false => keyFind m kt k es (i + 1)
def setEntry (f : MapEntry → MapEntry) : List MapEntry → Nat → List MapEntry
  | [], _ => []
  | e :: es, 0 => f e :: es
  | e :: es, i + 1 => e :: setEntry f es i
/-- a key that holds nothing but numbers, texts and their like -/
def plainKey : Nat → Value → Bool
  | _, .int _ _ => true
  | _, .string _ => true
  | _, .bool _ => true
  | d + 1, .agg cs => cs.toList.all (plainKey d)
  | _, _ => false
noncomputable def keyOk (kt : TypeId) (k : Value) : Bool :=
  match ti tb kt, k with
  | some i, .int _ _ => match i.d with | .int _ => true | _ => false
  | some i, .string _ => match i.d with | .string => true | _ => false
  | some i, .agg cs => match i.d with
    | .struct _ => Nat.beq cs.toList.length i.inf.size && i.flds.all fun (o, s, t, _) => Nat.blt o cs.toList.length && Nat.beq s 1 && (match ti tb t, cs.toList[o]? with
      | some j, some (.int _ _) => (match j.d with | .int _ => true | _ => false)
      | some j, some (.string _) => (match j.d with | .string => true | _ => false)
      | _, _ => false)
    | _ => false
  | _, _ => false
noncomputable def mapOf (m : Mem) (r : Nat) : Option (List MapEntry × Nat) :=
  match m.objs.get r with
  | some (.map es c) => some (es, c)
  | _ => none
def sameK1 (x y : Value) : Bool :=
  match x, y with
  | .int k a, .int k' b => kEq k k' && intEq a b
  | .string a, .string b => bytesEq a.data.toList b.data.toList
  | _, _ => false
def sameKs : List Value → List Value → Bool
  | [], [] => true
  | x :: l, y :: k => match sameK1 x y with | true => sameKs l k | false => false
  | _, _ => false
/-- two keys, one and the same -/
def sameK (x y : Value) : Bool :=
  match x, y with
  | .agg a, .agg b => sameKs a.toList b.toList
  | x, y => sameK1 x y
def okTup (ok : Bool) (v : Value) (b : Bool) : Value := match ok with | true => .tuple #[v, .bool b] | false => v
noncomputable def lookupA (t : TypeId) (m : Mem) (x k : Value) (ok : Bool) : Option Value :=
  oB (ti tb t) fun i =>
  match i.d with
  | .map kt et =>
    match keyOk tb kt k with
    | false => none
    | true =>
    match x with
    | .map none => oB (ti tb et) fun j => oB (zeroV j) fun z => some (okTup ok z false)
    | .map (some r) => oB (mapOf m r) fun (es, _) => oB (keyFind tb m kt k es 0) fun q =>
      match q with
      | some (_, v) => some (okTup ok v true)
      | none => oB (ti tb et) fun j => oB (zeroV j) fun z => some (okTup ok z false)
    | _ => none
  | _ => none
noncomputable def mapUpdateA (t : TypeId) (m : Mem) (x k v : Value) : Option Mem :=
  oB (ti tb t) fun i =>
  match i.d, x with
  | .map kt _, .map (some r) => match keyOk tb kt k with
    | false => none
    | true => oB (mapOf m r) fun (es, c) => oB (keyFind tb m kt k es 0) fun q =>
      match q with
      | some (i, _) => oB (es[i]?) fun e => match sameK e.key k with
        | true => some (putObj m r (.map (setEntry (fun e => { e with key := k, val := v }) es i) c))
        | false => none
      | none => some (putObj m r (.map (es ++ [{ key := k, val := v, born := c }]) (c + 1)))
  | _, _ => none
noncomputable def mapEntryA (t : TypeId) (m : Mem) (x k : Value) : Option (Value × Mem) :=
  oB (ti tb t) fun i =>
  match i.d, x with
  | .map kt et, .map (some r) => match keyOk tb kt k with
    | false => none
    | true => oB (mapOf m r) fun (es, c) => oB (keyFind tb m kt k es 0) fun q =>
      match q with
      | some (i, v) => oB (es[i]?) fun e => match sameK e.key k with
        | true => some (.tuple #[v, vInt .i64 (.ofNat e.born)], putObj m r (.map (setEntry (fun e => { e with key := k }) es i) c))
        | false => none
      | none => oB (ti tb et) fun j => oB (zeroV j) fun z => some (.tuple #[z, vInt .i64 (.ofNat c)], putObj m r (.map (es ++ [{ key := k, val := z, born := c }]) (c + 1)))
  | _, _ => none
def bornIdx (s : Nat) : List MapEntry → Nat → Option Nat
  | [], _ => none
  | e :: es, i => match Nat.beq e.born s with | true => some i | false => bornIdx s es (i + 1)
noncomputable def entryStoreA (m : Mem) (x st v : Value) : Option Mem :=
  match x, st with
  | .map (some r), .int _ (.ofNat s) => oB (mapOf m r) fun (es, c) => oB (bornIdx s es 0) fun i => some (putObj m r (.map (setEntry (fun e => { e with val := v }) es i) c))
  | _, _ => none
def eraseAt : List MapEntry → Nat → List MapEntry
  | [], _ => []
  | _ :: es, 0 => es
  | e :: es, i + 1 => e :: eraseAt es i
noncomputable def deleteA (tys : List TypeId) (m : Mem) (x k : Value) : Option Mem :=
  match tys with
  | mt :: _ =>
    oB (ti tb mt) fun i =>
    match i.d, x with
    | .map kt _, .map (some r) => match keyOk tb kt k with
      | false => none
      | true => oB (mapOf m r) fun (es, c) => oB (keyFind tb m kt k es 0) fun q =>
        match q with
        | some (i, _) => some (putObj m r (.map (eraseAt es i) c))
        | none => some m
    | _, _ => none
  | _ => none
noncomputable def clearA (t : TypeId) (m : Mem) (x : Value) : Option Mem :=
  oB (ti tb t) fun i =>
  match x with
  | .map none => some m
  | .map (some r) => oB (mapOf m r) fun (_, c) => some (putObj m r (.map [] c))
  | .slice none _ _ => some m
  | .slice (some a) n _ => match n with
    | 0 => some m
    | n + 1 => match i.d with
      | .slice e => oB (ti tb e) fun j => match j.hasZ, j.zc with
        | true, z :: zs => storeCellsA m a.block a.off (repl (z :: zs) (n + 1))
        | _, _ => none
      | _ => none
  | _ => none
noncomputable def rangeA (t : TypeId) (m : Mem) (x : Value) : Option (Value × Mem) :=
  oB (ti tb t) fun i =>
  match i.d, x with
  | .string, .string s => some (.pointer (some ⟨m.next, 0, none⟩), newObjA m (.strIter s 0 s.data.toList))
  | .map _ _, .map none => some (.pointer (some ⟨m.next, 0, none⟩), newObjA m (.mapIter none 0 [] 0))
  | .map _ _, .map (some r) => oB (mapOf m r) fun (_, c) => some (.pointer (some ⟨m.next, 0, none⟩), newObjA m (.mapIter (some r) c [] c))
  | _, _ => none
def unseen (seen : List Nat) : List MapEntry → List MapEntry
  | [] => []
  | e :: es => match seen.any (Nat.beq e.born) with
    | true => unseen seen es
    | false => e :: unseen seen es
noncomputable def nextMap (m : Mem) (b : Nat) (r since : Nat) (seen : List Nat) (last : Nat) : Option (Value × Mem) :=
  oB (mapOf m r) fun (es, c) =>
    match es.all (fun e => Nat.blt e.born since) && Nat.beq last c && Nat.ble since last with
    | false => none
    | true =>
      match unseen seen es with
      | [] => some (.tuple #[.bool false], m)
      | [e] => some (.tuple #[.bool true, e.key, e.val], putObj m b (.mapIter (some r) since (seen ++ [e.born]) c))
      | _ => none
noncomputable def nextStr (m : Mem) (b : Nat) (s : ByteArray) (pos : Nat) (rest : List UInt8) : Option (Value × Mem) :=
  match rest with
  | c :: rest => match Nat.blt c.toNat 128 with
    | true => some (.tuple #[.bool true, vInt .i64 (.ofNat pos), vInt .i32 (.ofNat c.toNat)], putObj m b (.strIter s (pos + 1) rest))
    | false => none
  | [] => some (.tuple #[.bool false], m)
noncomputable def nextA (m : Mem) (it : Value) (isS : Bool) : Option (Value × Mem) :=
  match it with
  | .pointer (some ⟨b, 0, none⟩) =>
    match m.objs.get b with
    | some (.strIter s pos rest) => match isS with
      | true => nextStr m b s pos rest
      | false => none
    | some (.mapIter none _ _ _) => match isS with
      | false => some (.tuple #[.bool false], m)
      | true => none
    | some (.mapIter (some r) since seen last) => match isS with
      | true => none
      | false => nextMap m b r since seen last
    | _ => none
  | _ => none
noncomputable def entryA (m : Mem) (it : Value) : Option Value :=
  match it with
  | .pointer (some ⟨b, 0, none⟩) =>
    match m.objs.get b with
    | some (.mapIter (some r) _ seen stepped) =>
      match seen.getLast? with
      | some stamp => oB (mapOf m r) fun (es, c) =>
        match Nat.beq c stepped with
        | true => match es.find? (fun e => Nat.beq e.born stamp) with
          | some e => some (.tuple #[e.key, e.val])
          | none => none
        | false => none
      | none => none
    | _ => none
  | _ => none
def taFail (i : TI) (ok : Bool) : Option Value :=
  match ok with
  | true => oB (zeroV i) fun z => some (.tuple #[z, .bool false])
  | false => none
def taV (i : TI) (asserted : TypeId) (ok : Bool) (x : Value) : Option Value :=
  match x with
  | .nilIface => taFail i ok
  | .iface t v => match Nat.beq t asserted with
    | true => some (okTup ok v true)
    | false => taFail i ok
  | _ => none
noncomputable def typeAssertA (x : Value) (asserted : TypeId) (ok : Bool) : Option Value :=
  oB (ti tb asserted) fun i =>
  match i.d with
  | .interface _ => none
  | _ => taV i asserted ok x
end
end Go.Ev
namespace Go.Ev

/-- a list gone through -/
noncomputable def lrec {α β : Type} (nil : β) (cons : α → List α → β → β) (l : List α) : β :=
  List.rec (motive := fun _ => β) nil cons l
theorem lrec_nil {α β : Type} (nil : β) (cons : α → List α → β → β) : lrec nil cons [] = nil := rfl
theorem lrec_cons {α β : Type} (nil : β) (cons : α → List α → β → β) (x : α) (l : List α) : lrec nil cons (x :: l) = cons x l (lrec nil cons l) := rfl

section
variable (tb : Tabs)

noncomputable def ev (t : T Value) (x : Operand) : Value :=
  match x with
  | .tmp i => match t.get i with | some v => v | none => undef
  | .const v => v
  | .global g => .pointer (some ⟨g, 0, none⟩)
  | .func f => .func (.func f) #[] #[]
noncomputable def evs (t : T Value) : List Operand → List Value
  | [] => []
  | x :: l => ev t x :: evs t l
noncomputable def evP (t : T Value) : List (Nat × Operand) → List (Nat × Value)
  | [] => []
  | (i, x) :: l => (i, ev t x) :: evP t l
noncomputable def evO (t : T Value) : Option Operand → Option Value
  | none => none
  | some x => some (ev t x)

/-- what an operation comes to -/
inductive OR where
  | r (v : Value)                              -- reads alone
  | f (o : AObj) (mk : Nat → Value)            -- makes an object
  | e (v : Value) (m : Mem)                    -- writes
  | c                                          -- calls
  | bad
def oR (x : Option Value) : OR := match x with | some v => .r v | none => .bad
def oE (x : Option (Value × Mem)) : OR := match x with | some (v, m) => .e v m | none => .bad
def oM (x : Option Mem) : OR := match x with | some m => .e undef m | none => .bad
def ptr0 (b : Nat) : Value := .pointer (some ⟨b, 0, none⟩)

noncomputable def opAlloc (e : TypeId) : OR :=
  match ti tb e with
  | some i => match i.hasZ with | true => .f (zeroObj e i.zc.length i.zc) ptr0 | false => .bad
  | none => .bad
noncomputable def opBox (e : TypeId) (v : Value) : OR := .f (rowObj e (cellsOfV v) .none false) ptr0
noncomputable def opBuildSlice (t : TypeId) (len : Nat) (parts : List (Nat × Value)) : OR :=
  match ti tb t with
  | some i => match i.d with
    | .slice elem => match ti tb elem with
      | some e => match e.hasZ, Nat.ble (len * e.inf.size) 16777216 with
        | true, true => match fillA (fun j => some (j * e.inf.size, e.inf.size)) (len * e.inf.size) parts .lf with
          | some c => .f (.row ⟨c, len * e.inf.size, e.zc, elem, .none, false⟩) fun b => .slice (some ⟨b, 0, none⟩) len len
          | none => .bad
        | _, _ => .bad
      | none => .bad
    | _ => .bad
  | none => .bad
noncomputable def opMakeSlice (t : TypeId) (l c : Value) : OR :=
  match l, c with
  | .int _ (.ofNat l), .int _ (.ofNat c) => match ti tb t with
    | some i => match i.d with
      | .slice elem => match ti tb elem with
        | some e => match e.hasZ, Nat.ble l c && Nat.ble (e.inf.bytes * c) 281474976710656 && Nat.blt c 9223372036854775808 with
          | true, true => .f (zeroObj elem (c * e.inf.size) e.zc) fun b => .slice (some ⟨b, 0, none⟩) l c
          | _, _ => .bad
        | none => .bad
      | _ => .bad
    | none => .bad
  | _, _ => .bad
noncomputable def convPtr (m : Mem) (s d : TypeDesc) (a : Addr) : OR :=
  match s with
  | .pointer e => match d with
    | .unsafePointer => match ti tb e, rowOf m a.block with
      | some j, some r => match j.inf.size, Nat.blt a.off r.n with
        | _ + 1, true => .r (.pointer (some a))
        | _, _ => .bad
      | _, _ => .bad
    | _ => .bad
  | .unsafePointer => match d with
    | .pointer u => match ti tb u, rowOf m a.block with
      | some j, some r => match r.ext, j.inf.size, liesAt tb.p tb.p.depth r.elem (r.n / tb.p.cellsOf r.elem) a.off u 1 with
        | false, _ + 1, true => .r (.pointer (some a))
        | _, _, _ => .bad
      | _, _ => .bad
    | _ => .bad
  | _ => .bad
noncomputable def convStr (s d : TypeDesc) (b : ByteArray) : OR :=
  match s with
  | .string => match d with
    | .string => .r (.string b)
    | .slice e => match ti tb e with
      | some j => match j.d, Nat.beq j.inf.size 1 with
        | .int .u8, true => .f (rowObj e (u8s b.data.toList) .str true) fun r => .slice (some ⟨r, 0, none⟩) b.data.toList.length b.data.toList.length
        | _, _ => .bad
      | none => .bad
    | _ => .bad
  | _ => .bad
noncomputable def convNilSl (s d : TypeDesc) : OR :=
  match s with
  | .slice e => match d with
    | .string => match ti tb e with
      | some j => match j.d with | .int .u8 => .r (.string ⟨⟨[]⟩⟩) | _ => .bad
      | none => .bad
    | _ => .bad
  | _ => .bad
noncomputable def convSl (m : Mem) (same : Bool) (s d : TypeDesc) (x : Value) (a : Addr) (len : Nat) : OR :=
  match s with
  | .slice e => match d with
    | .string => match ti tb e with
      | some j => match j.d with
        | .int .u8 => match len with
          | 0 => .r (.string ⟨⟨[]⟩⟩)
          | len + 1 => match bytesAt m a.block a.off (len + 1) with | some b => .r (.string b) | none => .bad
        | _ => .bad
      | none => .bad
    | .slice e' => match same, ti tb e', len with
      | true, some j, _ + 1 => match j.d with
        | .int .u8 => match rowW m a.block with
          | some r => match r.fz with
            | .none => .e x (putObj m a.block (.row ⟨r.ov, r.n, r.z, r.elem, .str, r.ext⟩))
            | .str => .e x m
            | .rng _ _ => .bad
          | none => .bad
        | _ => .bad
      | _, _, _ => .bad
    | _ => .bad
  | _ => .bad
noncomputable def opConv (m : Mem) (src dst : TypeId) (x : Value) : OR :=
  match ti tb src, ti tb dst with
  | some s, some d =>
    match x with
    | .int _ n => match d.d with | .int k => .r (vInt k (wrapF k n)) | _ => .bad
    | .string b => convStr tb s.d d.d b
    | .slice none _ _ => convNilSl tb s.d d.d
    | .slice (some a) len _ => convSl tb m (Nat.beq src dst) s.d d.d x a len
    | .pointer (some a) => convPtr tb m s.d d.d a
    | _ => .bad
  | _, _ => .bad
noncomputable def opSAP (arr : TypeId) (x : Value) : OR :=
  match ti tb arr, x with
  | some i, .slice (some a) len _ => match i.d with
    | .array n _ => match Nat.ble n len && Nat.ble 1 len, a.spot with
      | true, none => .r (.pointer (some a))
      | true, some 0 => .r (.pointer (some ⟨a.block, a.off, none⟩))
      | _, _ => .bad
    | _ => .bad
  | _, _ => .bad
def maxI (k : IntKind) : Int → List Value → Option Value
  | x, [] => some (.int k x)
  | x, .int _ y :: l => match intLt x y with | true => maxI k y l | false => maxI k x l
  | _, _ => none
def minI (k : IntKind) : Int → List Value → Option Value
  | x, [] => some (.int k x)
  | x, .int _ y :: l => match intLt y x with | true => minI k y l | false => minI k x l
  | _, _ => none
noncomputable def opUnsafeString (m : Mem) (tys : List TypeId) (p : Option Addr) (n : Nat) : OR :=
  match n with
  | 0 => match tys with | _ :: _ => .r (.string ⟨⟨[]⟩⟩) | [] => .bad
  | n + 1 => match p, tys with
    | some a, t :: _ => match rowW m a.block, ti tb t with
      | some r, some i => match i.d, r.fz with
        | .pointer e, .none =>
          match Nat.beq e r.elem && Nat.beq (tb.p.cellsOf r.elem) 1 && Nat.ble (n + 1) 9223372036854775807, bytesAt m a.block a.off (n + 1) with
          | true, some b => .e (.string b) (putObj m a.block (.row ⟨r.ov, r.n, r.z, r.elem, .rng a.off (a.off + (n + 1)), r.ext⟩))
          | _, _ => .bad
        | _, _ => .bad
      | _, _ => .bad
    | _, _ => .bad
noncomputable def opBuiltin (m : Mem) (b : Builtin) (tys : List TypeId) (args : List Value) : OR :=
  match b with
  | .len => match args, tys with | [x], t :: _ => oR (lenA tb t m x) | _, _ => .bad
  | .cap => match args, tys with | [x], t :: _ => oR (capA tb t m x) | _, _ => .bad
  | .append => match args with | [s, x] => oE (appendA tb tys m s x) | _ => .bad
  | .copy => match args with | [d, s] => oE (copyA tb tys m d s) | _ => .bad
  | .delete => match args with | [x, k] => (match deleteA tb tys m x k with | some m => .e undef m | none => .bad) | _ => .bad
  | .clear => match args, tys with | [x], t :: _ => (match clearA tb t m x with | some m => .e undef m | none => .bad) | _, _ => .bad
  | .max => match args with | .int k x :: l => oR (maxI k x l) | _ => .bad
  | .min => match args with | .int k x :: l => oR (minI k x l) | _ => .bad
  | .unsafeSliceData => match args with
    | [.slice none _ _] => .r (.pointer none)
    | [.slice (some a) _ (_ + 1)] => match a.spot with
      | none => .r (.pointer (some a))
      | some 0 => .r (.pointer (some ⟨a.block, a.off, none⟩))
      | _ => .bad
    | _ => .bad
  | .unsafeString => match args with | [.pointer p, .int _ (.ofNat n)] => opUnsafeString tb m tys p n | _ => .bad
  | .recover => .c
  | .panic => .c
  | _ => .bad
def opNilCheck (v : Value) : OR :=
  match v with
  | .pointer none => .bad
  | .nilIface => .bad
  | .nilFunc => .bad
  | .func (.method _) _ _ => .bad
  | v => .r v
noncomputable def opMkIface (t : TypeId) (v : Value) : OR :=
  match ti tb t with
  | some i => match i.d with | .interface _ => .bad | _ => .r (.iface t v)
  | none => .bad
noncomputable def opLoad (t : TypeId) (m : Mem) (a : Value) : OR :=
  match a with
  | .pointer (some a) => oR (loadA tb t m a.block a.off)
  | _ => .bad
noncomputable def opStore (t : TypeId) (m : Mem) (a v : Value) : OR :=
  match a with
  | .pointer (some a) => oM (storeA tb t m a.block a.off v)
  | _ => .bad
def opPick (c a b : Value) : OR :=
  match c with
  | .bool true => .r a
  | .bool false => .r b
  | _ => .bad
def opExtract (x : Value) (i : Nat) : OR :=
  match x with
  | .tuple vs => oR vs.toList[i]?
  | _ => .bad
noncomputable def opMakeMap (r : Option Value) : OR :=
  match r with
  | none => .f (.map [] 0) fun b => .map (some b)
  | some _ => .bad
noncomputable def opCall (t : T Value) (m : Mem) (c : Call) : OR :=
  match c.callee with
  | .builtin b => opBuiltin tb m b c.argTypes.toList (evs t c.args.toList)
  | _ => .c

end
noncomputable def kMove (x : Operand) (tb : Tabs) (t : T Value) (m : Mem) : OR := .r (ev t x)
noncomputable def kAssign (x : Operand) (tb : Tabs) (t : T Value) (m : Mem) : OR := .e (ev t x) m
noncomputable def kPick (c a b : Operand) (tb : Tabs) (t : T Value) (m : Mem) : OR := opPick (ev t c) (ev t a) (ev t b)
noncomputable def kAlloc (e : TypeId) (tb : Tabs) (t : T Value) (m : Mem) : OR := opAlloc tb e
noncomputable def kBox (e : TypeId)(x : Operand) (tb : Tabs) (t : T Value) (m : Mem) : OR := opBox e (ev t x)
noncomputable def kBuild (ty : TypeId)(ps : Array (Nat × Operand)) (tb : Tabs) (t : T Value) (m : Mem) : OR := oR (buildA tb ty (evP t ps.toList))
noncomputable def kBuildSlice (ty : TypeId)(n : Nat)(ps : Array (Nat × Operand)) (tb : Tabs) (t : T Value) (m : Mem) : OR := opBuildSlice tb ty n (evP t ps.toList)
noncomputable def kLoad (ty : TypeId)(a : Operand) (tb : Tabs) (t : T Value) (m : Mem) : OR := opLoad tb ty m (ev t a)
noncomputable def kStore (ty : TypeId)(a x : Operand) (tb : Tabs) (t : T Value) (m : Mem) : OR := opStore tb ty m (ev t a) (ev t x)
noncomputable def kNilCheck (x : Operand) (tb : Tabs) (t : T Value) (m : Mem) : OR := opNilCheck (ev t x)
noncomputable def kBinOp (op : BinOp)(ty : TypeId)(x y : Operand) (tb : Tabs) (t : T Value) (m : Mem) : OR := oR (binA tb m op ty x y (ev t x) (ev t y))
noncomputable def kUnOp (op : UnOp)(x : Operand) (tb : Tabs) (t : T Value) (m : Mem) : OR := oR (unA op (ev t x))
noncomputable def kConvert (s d : TypeId)(x : Operand) (tb : Tabs) (t : T Value) (m : Mem) : OR := opConv tb m s d (ev t x)
noncomputable def kMakeInterface (ty : TypeId)(x : Operand) (tb : Tabs) (t : T Value) (m : Mem) : OR := opMkIface tb ty (ev t x)
noncomputable def kMakeFunc (fn : Fn)(first cap : Array Operand) (tb : Tabs) (t : T Value) (m : Mem) : OR :=
  match fn with
  | .yield _ => .bad
  | fn => .r (.func fn ⟨evs t first.toList⟩ ⟨evs t cap.toList⟩)
noncomputable def kMakeMap (r : Option Operand) (tb : Tabs) (t : T Value) (m : Mem) : OR := opMakeMap (evO t r)
noncomputable def kMakeSlice (ty : TypeId)(l c : Operand) (tb : Tabs) (t : T Value) (m : Mem) : OR := opMakeSlice tb ty (ev t l) (ev t c)
noncomputable def kSlice (ty : TypeId)(x : Operand)(lo hi mx : Option Operand) (tb : Tabs) (t : T Value) (m : Mem) : OR := oR (sliceA tb ty m (ev t x) (evO t lo) (evO t hi) (evO t mx))
noncomputable def kSliceToArrayPointer (arr : TypeId)(x : Operand) (tb : Tabs) (t : T Value) (m : Mem) : OR := opSAP tb arr (ev t x)
noncomputable def kFieldAddr (ty : TypeId)(x : Operand)(f : Nat) (tb : Tabs) (t : T Value) (m : Mem) : OR := oR (fieldAddrA tb ty (ev t x) f)
noncomputable def kField (ty : TypeId)(x : Operand)(f : Nat) (tb : Tabs) (t : T Value) (m : Mem) : OR := oR (fieldA tb ty (ev t x) f)
noncomputable def kIndexAddr (ty : TypeId)(x i : Operand) (tb : Tabs) (t : T Value) (m : Mem) : OR := oR (indexAddrA tb ty (ev t x) (ev t i))
noncomputable def kIndex (ty : TypeId)(x i : Operand) (tb : Tabs) (t : T Value) (m : Mem) : OR := oR (indexA tb ty (ev t x) (ev t i))
noncomputable def kLookup (ty : TypeId)(x k : Operand)(ok : Bool) (tb : Tabs) (t : T Value) (m : Mem) : OR := oR (lookupA tb ty m (ev t x) (ev t k) ok)
noncomputable def kMapUpdate (ty : TypeId)(a k x : Operand) (tb : Tabs) (t : T Value) (m : Mem) : OR := oM (mapUpdateA tb ty m (ev t a) (ev t k) (ev t x))
noncomputable def kInsert (ty : TypeId)(a k x : Operand) (tb : Tabs) (t : T Value) (m : Mem) : OR := oM (mapUpdateA tb ty m (ev t a) (ev t k) (ev t x))
noncomputable def kMapEntry (ty : TypeId)(a k : Operand) (tb : Tabs) (t : T Value) (m : Mem) : OR := oE (mapEntryA tb ty m (ev t a) (ev t k))
noncomputable def kEntryStore (a s x : Operand) (tb : Tabs) (t : T Value) (m : Mem) : OR := oM (entryStoreA m (ev t a) (ev t s) (ev t x))
noncomputable def kRange (ty : TypeId)(x : Operand) (tb : Tabs) (t : T Value) (m : Mem) : OR := oE (rangeA tb ty m (ev t x))
noncomputable def kNext (it : Operand)(s : Bool) (tb : Tabs) (t : T Value) (m : Mem) : OR := oE (nextA m (ev t it) s)
noncomputable def kEntry (it : Operand) (tb : Tabs) (t : T Value) (m : Mem) : OR := oR (entryA m (ev t it))
noncomputable def kTypeAssert (x : Operand)(asserted : TypeId)(ok : Bool) (tb : Tabs) (t : T Value) (m : Mem) : OR := oR (typeAssertA tb (ev t x) asserted ok)
noncomputable def kExtract (x : Operand)(i : Nat) (tb : Tabs) (t : T Value) (m : Mem) : OR := opExtract (ev t x) i
noncomputable def kCall (c : Call) (tb : Tabs) (t : T Value) (m : Mem) : OR := opCall tb t m c
def kC (_ : Tabs) (_ : T Value) (_ : Mem) : OR := .c
def kBad (_ : Tabs) (_ : T Value) (_ : Mem) : OR := .bad
/-- one operation -/
noncomputable def opA (o : Op) : Tabs → T Value → Mem → OR :=
  match o with
  | .move x => kMove x
  | .assign x => kAssign x
  | .pick c a b => kPick c a b
  | .alloc e => kAlloc e
  | .box e x => kBox e x
  | .build ty ps => kBuild ty ps
  | .buildSlice ty n ps => kBuildSlice ty n ps
  | .load ty a => kLoad ty a
  | .store ty a x => kStore ty a x
  | .nilCheck x => kNilCheck x
  | .binOp op ty x y _ => kBinOp op ty x y
  | .unOp op _ x => kUnOp op x
  | .convert s d x => kConvert s d x
  | .makeInterface ty x => kMakeInterface ty x
  | .makeFunc fn first cap => kMakeFunc fn first cap
  | .makeMap _ r => kMakeMap r
  | .makeSlice ty l c => kMakeSlice ty l c
  | .slice ty x lo hi mx => kSlice ty x lo hi mx
  | .sliceToArrayPointer arr x => kSliceToArrayPointer arr x
  | .fieldAddr ty x f => kFieldAddr ty x f
  | .field ty x f => kField ty x f
  | .indexAddr ty x i => kIndexAddr ty x i
  | .index ty x i => kIndex ty x i
  | .lookup ty x k ok => kLookup ty x k ok
  | .mapUpdate ty a k x => kMapUpdate ty a k x
  | .insert ty a k x => kInsert ty a k x
  | .mapEntry ty a k => kMapEntry ty a k
  | .entryStore _ a s x => kEntryStore a s x
  | .range ty x => kRange ty x
  | .next it s => kNext it s
  | .entry it => kEntry it
  | .typeAssert x _ asserted ok => kTypeAssert x asserted ok
  | .extract x i => kExtract x i
  | .call c => kCall c
  | .defer _ => kC
  | .panic _ => kC
  | _ => kBad

/-- an operand that needs no memory of its own -/
def operandOk (G : Nat) : Operand → Bool
  | .const v => (cellsOfV v).all flatV
  | .global g => Nat.blt g G
  | _ => true
def opOk (G : Nat) (o : Oper) : Bool := o.op.operands.toList.all (operandOk G)
/-- a place in a list -/
def rankIn (x : Nat) : List Nat → Nat → Nat
  | [], i => i
  | y :: l, i => match Nat.beq y x with | true => i | false => rankIn x l (i + 1)
def memN (x : Nat) : List Nat → Bool
  | [] => false
  | y :: l => match Nat.beq y x with | true => true | false => memN x l
/-- whatever can come behind what is listed, listed -/
def topoPass (md : Region.Mode) : List (Oper × Nat) → List Nat → List Nat
  | [], d => d
  | (o, j) :: l, d => match memN j d || !o.after.toList.all fun e => !Region.binds md e || memN e.on d with
    | true => topoPass md l d
    | false => topoPass md l (d ++ [j])
def topo (md : Region.Mode) (l : List (Oper × Nat)) : Nat → List Nat → List Nat
  | 0, d => d
  | n + 1, d => topo md l n (topoPass md l d)
def drawBy (md : Region.Mode) (l : List (Oper × Nat)) (n : Nat) (r : Nat → Nat) : Bool := l.all fun (o, j) => o.after.toList.all fun e => !Region.binds md e || (Nat.blt e.on n && Nat.blt (r e.on) (r j))
/-- the edges lead round nowhere -/
def drawMd (ops : Array Oper) (md : Region.Mode) : Bool :=
  match drawBy md ops.toList.zipIdx ops.toList.length (fun x => x) with
  | true => true
  | false => drawBy md ops.toList.zipIdx ops.toList.length (fun x => rankIn x (topo md ops.toList.zipIdx ops.toList.length []) 0)
def drawOk (ops : Array Oper) : Bool := drawMd ops .any && drawMd ops .text && drawMd ops .gc
/-- code that the machine can run -/
def codeOk (G : Nat) : Code → Bool
  | .region _ ops draw => ops.toList.all (opOk G) && (!draw || drawOk ops)
  | .seq a b => codeOk G a && codeOk G b
  | .cond c a b => operandOk G c && codeOk G a && codeOk G b
  | .block _ b => codeOk G b
  | .loop b => codeOk G b
  | .scope b => codeOk G b
  | .rangeFunc f _ a b => operandOk G f && codeOk G a && codeOk G b
  | _ => true

section
variable (tb : Tabs)
/-! ### frames -/
/-- what an operation came to ahead of a write -/
inductive HK where
  | r
  | f (b : Nat)
  | s
structure Hist where
  i : Nat
  o : Oper
  vs : List Value
  k : HK
  v : Value
inductive AItem where
  | code (c : Code)
  | inBlock (id : Nat)
  | inLoop (body : Code)
  | inScope (body : Code)
  | ops (ops : Array Oper) (l : List Oper)
  | dr (ops : Array Oper) (rem : List (Nat × Oper)) (hist : List Hist) (mask : Nat)
  | inRangeFunc (loop : Nat)
  | endRangeFunc (loop : Nat)
  | beginRound
structure AFrame where
  fn : FuncId
  tmps : T Value
  nt : Nat
  todo : List AItem
  defers : List Deferred
  mode : FrameMode
  kind : CallKind
  ro : Option Nat
structure AM where
  fr : AFrame
  callers : List AFrame
  mem : Mem

noncomputable def wantedA (t : T Value) (ops : Array Oper) (g : Option (Nat × Bool)) : Bool :=
  match g with
  | none => true
  | some (j, want) => match ops.toList[j]? with
    | some oj => match oj.dst with
      | some d => match t.get d with
        | some (.bool b) => match b, want with | true, true => true | false, false => true | _, _ => false
        | _ => false
      | none => false
    | none => false
/-- a slot is written; none: there is no such slot -/
noncomputable def putT (t : T Value) (nt : Nat) (d : Option Tmp) (v : Value) : Option (T Value) :=
  match d with
  | none => some t
  | some d => match Nat.blt d nt with
    | true => match t.set d v with
      | .lf => some .lf
      | .nd a b c => some (.nd a b c)
    | false => none

/-- the operations of a region that keeps its order: as far as the next call -/
inductive OpsR where
  | done (t : T Value) (m : Mem)
  | stop (o : Oper) (l : List Oper) (t : T Value) (m : Mem)
  | bad
noncomputable def opsPut (t : Option (T Value)) (m : Mem) (ih : T Value → Mem → OpsR) : OpsR :=
  match t with
  | some t => ih t m
  | none => .bad
noncomputable def opsK (r : OR) (o : Oper) (l : List Oper) (nt : Nat) (t : T Value) (m : Mem) (ih : T Value → Mem → OpsR) : OpsR :=
  match r with
  | .r v => opsPut (putT t nt o.dst v) m ih
  | .f ob mk => opsPut (putT t nt o.dst (mk m.next)) (newObjA m ob) ih
  | .e v m => opsPut (putT t nt o.dst v) m ih
  | .c => .stop o l t m
  | .bad => .bad
noncomputable def opsStep (ops : Array Oper) (nt : Nat) (o : Oper) (l : List Oper) (ih : T Value → Mem → OpsR) (t : T Value) (m : Mem) : OpsR :=
  match wantedA t ops o.guard with
  | false => opsPut (putT t nt o.dst undef) m ih
  | true => opsK (opA o.op tb t m) o l nt t m ih
noncomputable def opsA (ops : Array Oper) (nt : Nat) (l : List Oper) : T Value → Mem → OpsR :=
  lrec (β := T Value → Mem → OpsR) (fun t m => .done t m) (opsStep tb ops nt) l

/-! ### a region that draws its order -/
def blockedBy (bl : List Nat) : List Edge → Bool
  | [] => false
  | e :: es => match Region.binds .any e with
    | true => match bl.any (Nat.beq e.on) with
      | true => true
      | false => blockedBy bl es
    | false => blockedBy bl es
inductive DrR where
  | ok (t : T Value) (m : Mem) (rem : List (Nat × Oper)) (hist : List Hist) (mask : Nat)
  | bad
abbrev DrF := List Nat → List (Nat × Oper) → T Value → Mem → List Hist → Nat → DrR
def maskOp : List Operand → Nat → Nat
  | [], k => k
  | .tmp t :: l, k => maskOp l (Nat.lor k (Nat.shiftLeft 1 t))
  | _ :: l, k => maskOp l k
/-- the slots that an operation reads -/
def namesA (ops : Array Oper) (o : Oper) (k : Nat) : Nat :=
  match o.guard with
  | none => maskOp o.op.operands.toList k
  | some (j, _) => match ops.toList[j]? with
    | some oj => match oj.dst with
      | some d => maskOp o.op.operands.toList (Nat.lor k (Nat.shiftLeft 1 d))
      | none => maskOp o.op.operands.toList k
    | none => maskOp o.op.operands.toList k
/-- the slots that were named, one more operation done; none: it writes one of them -/
def maskA (ops : Array Oper) (o : Oper) (k : Nat) : Option Nat :=
  match o.dst with
  | none => some (namesA ops o k)
  | some d => match Nat.testBit (namesA ops o k) d with
    | true => none
    | false => some (Nat.lor (namesA ops o k) (Nat.shiftLeft 1 d))
def edgeFrom (i : Nat) : List Edge → Bool
  | [] => false
  | e :: l => match Nat.beq e.on i with
    | true => match Region.binds .any e with | true => true | false => edgeFrom i l
    | false => edgeFrom i l
/-- whatever it reads of what was done in this region was done ahead of it by the text -/
def depsOk (ops : Array Oper) (o : Oper) : List Hist → Bool
  | [] => true
  | h :: l => match h.o.dst with
    | none => depsOk ops o l
    | some d => match Nat.testBit (namesA ops o 0) d with
      | false => depsOk ops o l
      | true => match edgeFrom h.i o.after.toList with
        | true => depsOk ops o l
        | false => false
noncomputable def drPut (t : Option (T Value)) (mask : Option Nat) (bl : List Nat) (rem : List (Nat × Oper)) (m : Mem) (hist : List Hist) (ih : DrF) : DrR :=
  match t, mask with
  | some t, some mask => ih bl rem t m hist mask
  | _, _ => .bad
noncomputable def drK (ops : Array Oper) (r : OR) (x : Nat × Oper) (nt : Nat) (ih : DrF) (bl : List Nat) (rem : List (Nat × Oper)) (t : T Value) (m : Mem) (hist : List Hist) (mask : Nat) : DrR :=
  match r with
  | .r v => drPut (putT t nt x.2.dst v) (maskA ops x.2 mask) bl rem m (⟨x.1, x.2, evs t x.2.op.operands.toList, .r, v⟩ :: hist) ih
  | .f ob mk => drPut (putT t nt x.2.dst (mk m.next)) (maskA ops x.2 mask) bl rem (newObjA m ob) (⟨x.1, x.2, evs t x.2.op.operands.toList, .f m.next, mk m.next⟩ :: hist) ih
  | .e _ _ => ih (x.1 :: bl) (x :: rem) t m hist mask
  | .c => ih (x.1 :: bl) (x :: rem) t m hist mask
  | .bad => .bad
noncomputable def drStep (ops : Array Oper) (nt : Nat) (x : Nat × Oper) (_ : List (Nat × Oper)) (ih : DrF)
    (bl : List Nat) (rem : List (Nat × Oper)) (t : T Value) (m : Mem) (hist : List Hist) (mask : Nat) : DrR :=
  match blockedBy bl x.2.after.toList with
  | true => ih (x.1 :: bl) (x :: rem) t m hist mask
  | false => match depsOk ops x.2 hist with
    | false => .bad
    | true => match wantedA t ops x.2.guard with
    | false => drPut (putT t nt x.2.dst undef) (maskA ops x.2 mask) bl rem m (⟨x.1, x.2, [], .s, undef⟩ :: hist) ih
    | true => drK ops (opA x.2.op tb t m) x nt ih bl rem t m hist mask
/-- all that can be read or made ahead of the next write -/
noncomputable def drPass (ops : Array Oper) (nt : Nat) (l : List (Nat × Oper)) : DrF :=
  lrec (β := DrF) (fun _ rem t m hist mask => .ok t m rem.reverse hist mask) (drStep tb ops nt) l
/-- no other one of what is left can come first -/
def alone : List Nat → List (Nat × Oper) → Bool
  | _, [] => true
  | bl, (i, o) :: l => match blockedBy bl o.after.toList with
    | true => alone (i :: bl) l
    | false => false
/-- two values, one and the same -/
def vEq : Nat → Value → Value → Bool
  | 0, _, _ => false
  | _ + 1, .bool a, .bool b => a == b
  | _ + 1, .int k a, .int k' b => kEq k k' && intEq a b
  | _ + 1, .string a, .string b => bytesEq a.data.toList b.data.toList
  | _ + 1, .pointer none, .pointer none => true
  | _ + 1, .pointer (some a), .pointer (some b) => Nat.beq a.block b.block && Nat.beq a.off b.off && (match a.spot, b.spot with | none, none => true | some x, some y => Nat.beq x y | _, _ => false)
  | _ + 1, .slice none l c, .slice none l' c' => Nat.beq l l' && Nat.beq c c'
  | _ + 1, .slice (some a) l c, .slice (some b) l' c' => Nat.beq a.block b.block && Nat.beq a.off b.off && (match a.spot, b.spot with | none, none => true | some x, some y => Nat.beq x y | _, _ => false) && Nat.beq l l' && Nat.beq c c'
  | _ + 1, .map none, .map none => true
  | _ + 1, .map (some a), .map (some b) => Nat.beq a b
  | _ + 1, .nilFunc, .nilFunc => true
  | _ + 1, .nilIface, .nilIface => true
  | d + 1, .iface t v, .iface u w => Nat.beq t u && vEq d v w
  | d + 1, .agg a, .agg b => Nat.beq a.toList.length b.toList.length && (a.toList.zip b.toList).all fun (x, y) => vEq d x y
  | d + 1, .func (.func f) a c, .func (.func g) b e => Nat.beq f g && Nat.beq a.toList.length b.toList.length && Nat.beq c.toList.length e.toList.length && ((a.toList.zip b.toList).all fun (x, y) => vEq d x y) && (c.toList.zip e.toList).all fun (x, y) => vEq d x y
  | d + 1, .tuple a, .tuple b => Nat.beq a.toList.length b.toList.length && (a.toList.zip b.toList).all fun (x, y) => vEq d x y
  | _, _, _ => false
noncomputable def isPure : Op → Bool
  | .move _ => true
  | .pick _ _ _ => true
  | .build _ _ => true
  | .nilCheck _ => true
  | .unOp _ _ _ => true
  | .makeInterface _ _ => true
  | .makeFunc _ _ _ => true
  | .fieldAddr _ _ _ => true
  | .field _ _ _ => true
  | .indexAddr _ _ _ => true
  | .index _ _ _ => true
  | .extract _ _ => true
  | _ => false
def vEqL : List Value → List Value → Bool
  | [], [] => true
  | x :: l, y :: k => match vEq 100 x y with | true => vEqL l k | false => false
  | _, _ => false
noncomputable def checkH (ops : Array Oper) (t : T Value) (m : Mem) (h : Hist) : Bool :=
  match (match h.o.dst with | none => true | some d => vEq 100 (ev t (.tmp d)) h.v) with
  | false => false
  | true =>
  match h.k with
  | .s => !wantedA t ops h.o.guard
  | .f _ => wantedA t ops h.o.guard && vEqL (evs t h.o.op.operands.toList) h.vs
  | .r => match wantedA t ops h.o.guard && vEqL (evs t h.o.op.operands.toList) h.vs with
    | false => false
    | true => match isPure h.o.op with
      | true => true
      | false => match opA h.o.op tb t m with
        | .r w => vEq 100 h.v w
        | _ => false
/-- what was come to ahead of a write stands behind it too, unless the write comes behind it by the text -/
noncomputable def recheck (ops : Array Oper) (t : T Value) (m : Mem) (after : List Edge) : List Hist → Bool
  | [] => true
  | h :: l => match edgeFrom h.i after with
    | true => recheck ops t m after l
    | false => match checkH tb ops t m h with
      | true => recheck ops t m after l
      | false => false

/-! ### calls -/
inductive ANext where
  | enter (f : FuncId) (args : List Value)
  | round (l : Nat) (args : List Value)
  | value (v : Value)
  | over (v : Value) (m : Mem)
  | bad
def indexByte (c : Nat) : List UInt8 → Nat → Int
  | [], _ => -1
  | b :: l, i => match Nat.beq b.toNat c with | true => .ofNat i | false => indexByte c l (i + 1)
/-- functions without a body -/
def externA (name : String) (args : List Value) : ANext :=
  match name == "internal/bytealg.IndexByteString" with
  | true => match args with
    | [.string s, .int .u8 (.ofNat c)] => match Nat.blt c 256 with
      | true => .value (vInt .i64 (indexByte c s.data.toList 0))
      | false => .bad
    | _ => .bad
  | false => match name == "internal/abi.NoEscape" with
    | true => match args with | [x] => .value x | _ => .bad
    | false => .bad
noncomputable def callF (f : FuncId) (args : List Value) (m : Mem) : ANext :=
  match tb.ov.get f with
  | some g => match g args m with
    | some (v, m) => .over v m
    | none => .enter f args
  | none => match tb.funcs.get f with
    | some fn => match fn.body with
      | some _ => .enter f args
      | none => externA fn.name args
    | none => .bad
noncomputable def invokeA (fn : Fn) (captured args : List Value) (m : Mem) : ANext :=
  match fn with
  | .func f => callF tb f (args ++ captured) m
  | .yield l => .round l args
  | .via t path f ptr => match args, path.toList with
    | x :: rest, [] => match ptr with
      | true => match ti tb t with | some i => (match i.d with | .pointer _ => callF tb f (x :: rest) m | _ => .bad) | none => .bad
      | false => match ti tb t with | some i => (match i.d with | .pointer _ => .bad | _ => callF tb f (x :: rest) m) | none => .bad
    | _, _ => .bad
  | _ => .bad
noncomputable def callValue (f : Value) (args : List Value) (m : Mem) : ANext :=
  match f with
  | .func fn first captured => invokeA tb fn captured.toList (first.toList ++ args) m
  | _ => .bad
noncomputable def enterF (f : FuncId) (args : List Value) (kind : CallKind) : Option AFrame :=
  match tb.funcs.get f with
  | some fn => match fn.body with
    | some c => some ⟨f, T.ofList args, max fn.ntmps args.length, [.code c], [], .run, kind, none⟩
    | none => none
  | none => none
noncomputable def deferOf (t : T Value) (c : Call) (type : TypeId) : Option Deferred :=
  match c.callee with
  | .value f => match ev t f with
    | .func fn first captured => some { target := .fn fn captured, args := ⟨first.toList ++ evs t c.args.toList⟩ }
    | _ => none
  | _ => none

def exitToA (id : Nat) : List AItem → Option (List AItem)
  | [] => none
  | i :: k => match i with
    | .inBlock id' => match Nat.beq id' id with | true => some k | false => exitToA id k
    | _ => exitToA id k
def gotoInA (l : Nat) : List AItem → Option (List AItem)
  | [] => none
  | i :: k => match i with
    | .inScope body => match findLabel body l with | some rest => some (.code rest :: .inScope body :: k) | none => gotoInA l k
    | _ => gotoInA l k
noncomputable def resA (t : T Value) (m : Mem) : List ResultVar → Option (List Value)
  | [] => some []
  | r :: l => match r with
    | .tmp i => oB (resA t m l) fun vs => some ((match t.get i with | some v => v | none => undef) :: vs)
    | .cell a ty => match t.get a with
      | some (.pointer (some a)) => oB (loadA tb ty m a.block a.off) fun v => oB (resA t m l) fun vs => some (v :: vs)
      | _ => none
noncomputable def resultsA (fn : Func) (t : T Value) (m : Mem) : Option Value :=
  match resA tb t m fn.results.toList with
  | some [v] => some v
  | some vs => some (.tuple ⟨vs⟩)
  | none => none

def setMode (fr : AFrame) (mode : FrameMode) : AFrame :=
  match fr with
  | ⟨fn, tmps, nt, todo, defers, _, kind, ro⟩ => ⟨fn, tmps, nt, todo, defers, mode, kind, ro⟩
def am (fr : Option AFrame) (cs : List AFrame) (m : Mem) : Option AM :=
  match fr with
  | some fr => some ⟨fr, cs, m⟩
  | none => none
/-- a call, or what is like one, is done with -/
noncomputable def finishA (fr : AFrame) (v : Value) (m : Mem) : Option AFrame :=
  match fr with
  | ⟨fn, tmps, nt, todo, defers, mode, kind, ro⟩ =>
  match mode with
  | .run => match todo with
    | [] => none
    | i :: k => match i with
      | .ops ops l => match l with
        | o :: l => match putT tmps nt o.dst v with
          | some tmps => some ⟨fn, tmps, nt, .ops ops l :: k, defers, .run, kind, ro⟩
          | none => none
        | [] => none
      | .dr ops rem hist mask => match rem with
        | (_, o) :: rem => match putT tmps nt o.dst v with
          | some tmps => match recheck tb ops tmps m o.after.toList hist with
            | true => some ⟨fn, tmps, nt, .dr ops rem hist mask :: k, defers, .run, kind, ro⟩
            | false => none
          | none => none
        | [] => none
      | .inRangeFunc l => some ⟨fn, tmps, nt, .endRangeFunc l :: k, defers, .run, kind, ro⟩
      | .beginRound => some ⟨fn, tmps, nt, k, defers, .run, kind, ro⟩
      | _ => none
  | _ => none
def isDr : List AItem → Bool
  | .dr _ _ _ _ :: _ => true
  | _ => false
def raiseA (fr : AFrame) (vs : List PanicEntry) : AFrame :=
  match fr.mode with
  | .panicking chain => setMode fr (.panicking (vs ++ chain))
  | _ => setMode fr (.panicking vs)
noncomputable def foldPut (nt : Nat) : List Tmp → List Value → T Value → Option (T Value)
  | [], [], t => some t
  | p :: ps, v :: vs, t => oB (putT t nt (some p) v) fun t => foldPut nt ps vs t
  | _, _, _ => none
noncomputable def roundA (l : Nat) (args : List Value) (fr : AFrame) (cs : List AFrame) (m : Mem) : Option AM :=
  match m.objs.get l with
  | some (.loop _ _ fn tmps nt ps a b _) =>
    match codeOk tb.g a && codeOk tb.g b && (tb.funcs.get fn).isSome with
    | false => none
    | true => match foldPut nt ps args tmps with
      | some t => some ⟨⟨fn, t, nt, [.code a, .beginRound, .code b], [], .run, .normal, some l⟩, fr :: cs, m⟩
      | none => none
  | _ => none
noncomputable def goA (n : ANext) (fr : AFrame) (cs : List AFrame) (m : Mem) : Option AM :=
  match n with
  | .enter f args => match enterF tb f args .normal with
    | some g => some ⟨g, fr :: cs, m⟩
    | none => none
  | .round l args => roundA tb l args fr cs m
  | .value v => am (finishA tb fr v m) cs m
  | .over v m => am (finishA tb fr v m) cs m
  | .bad => none
noncomputable def recoverA (fr : AFrame) (cs : List AFrame) (m : Mem) : Option AM :=
  match fr.ro with
  | some _ => none
  | none => match fr.kind with
    | .normal => am (finishA tb fr .nilIface m) cs m
    | .deferred => match cs with
      | c :: rest => match c.mode with
        | .panicking (p :: older) => match p.recovered, p.goexit with
          | false, false => am (finishA tb fr p.v m) (setMode c (.panicking ({ v := p.v, recovered := true } :: older)) :: rest) m
          | _, _ => am (finishA tb fr .nilIface m) cs m
        | _ => am (finishA tb fr .nilIface m) cs m
      | [] => none
    | _ => none
def addDefer (fr : AFrame) (d : Deferred) : AFrame :=
  match fr with
  | ⟨fn, tmps, nt, todo, defers, mode, kind, ro⟩ => ⟨fn, tmps, nt, todo, d :: defers, mode, kind, ro⟩
noncomputable def deferA (d : Deferred) (fr : AFrame) (cs : List AFrame) (m : Mem) : Option AM :=
  match fr.ro with
  | none => am (finishA tb (addDefer fr d) undef m) cs m
  | some l => match m.objs.get l with
    | some (.loop _ _ _ _ _ _ _ _ ds) => match m.objs.get ds with
      | some (.dfr (some calls)) => am (finishA tb fr undef (putObj m ds (.dfr (some (d :: calls))))) cs (putObj m ds (.dfr (some (d :: calls))))
      | _ => none
    | _ => none
/-- the operation at the head is a call or its like -/
noncomputable def doCall (o : Oper) (fr : AFrame) (cs : List AFrame) (m : Mem) : Option AM :=
  match o.op with
  | .call c => match c.callee with
    | .value f => goA tb (callValue tb (ev fr.tmps f) (evs fr.tmps c.args.toList) m) fr cs m
    | .builtin b => match b with
      | .recover => recoverA tb fr cs m
      | .panic => match evs fr.tmps c.args.toList with
        | [.iface t v] => some ⟨raiseA fr [{ v := .iface t v, recovered := false }], cs, m⟩
        | _ => none
      | _ => none
    | .invoke _ _ => none
  | .defer c => match deferOf fr.tmps c o.type with
    | some d => deferA tb d fr cs m
    | none => none
  | .panic x => match ev fr.tmps x with
    | .iface t v => some ⟨raiseA fr [{ v := .iface t v, recovered := false }], cs, m⟩
    | _ => none
  | _ => none

noncomputable def leaveA (fr : AFrame) (cs : List AFrame) (m : Mem) (jump : Option Code) : Option AM :=
  match fr.ro with
  | none => match jump with
    | none => some ⟨setMode fr .returning, cs, m⟩
    | some c => match c with
      | .ret => some ⟨setMode fr .returning, cs, m⟩
      | _ => none
  | some l => match m.objs.get l with
    | some (.loop _ _ fn tmps nt ps a b ds) =>
      match fr.kind with
      | .normal => match cs with
       | c :: rest => match jump with
        | none => am (finishA tb c (.bool true) (putObj m l (.loop .ready none fn tmps nt ps a b ds))) rest (putObj m l (.loop .ready none fn tmps nt ps a b ds))
        | some j => am (finishA tb c (.bool false) (putObj m l (.loop .done (some j) fn tmps nt ps a b ds))) rest (putObj m l (.loop .done (some j) fn tmps nt ps a b ds))
       | [] => none
      | _ => none
    | _ => none
noncomputable def returnA (fn : FuncId) (tmps : T Value) (kind : CallKind) (cs : List AFrame) (m : Mem) : Option AM :=
  match cs with
  | [] => none
  | c :: rest =>
    match tb.funcs.get fn with
    | none => none
    | some fn => match resultsA tb fn tmps m with
      | none => none
      | some v => match kind with
        | .normal => am (finishA tb c v m) rest m
        | .deferred =>
          match c.mode with
          | .panicking (p :: older) => match p.recovered with
            | true => match older with
              | [] => match isDr c.todo with
                | true => none
                | false => some ⟨setMode c .returning, rest, m⟩
              | _ => none
            | false => some ⟨c, rest, m⟩
          | .panicking [] => none
          | .returning => some ⟨c, rest, m⟩
          | .run => none
        | _ => none
noncomputable def unwindA (fr : AFrame) (cs : List AFrame) (m : Mem) : Option AM :=
  match fr with
  | ⟨fn, tmps, nt, todo, defers, mode, kind, ro⟩ =>
  match defers with
  | d :: ds => match d.target with
    | .collected b => match m.objs.get b with
      | some (.dfr (some calls)) => some ⟨⟨fn, tmps, nt, todo, calls ++ ds, mode, kind, ro⟩, cs, putObj m b (.dfr none)⟩
      | _ => none
    | .fn fv cap => match invokeA tb fv cap.toList d.args.toList m with
      | .enter f args => match enterF tb f args .deferred with
        | some g => some ⟨g, ⟨fn, tmps, nt, todo, ds, mode, kind, ro⟩ :: cs, m⟩
        | none => none
      | _ => none
    | _ => none
  | [] =>
    match mode with
    | .run => none
    | .panicking chain => match cs with
      | c :: rest => some ⟨raiseA c chain, rest, m⟩
      | [] => none
    | .returning => returnA tb fn tmps kind cs m

def frm (fn : FuncId) (tmps : T Value) (nt : Nat) (k : List AItem) (ds : List Deferred) (kind : CallKind) (ro : Option Nat) : AFrame := ⟨fn, tmps, nt, k, ds, .run, kind, ro⟩
def mkA (fn : FuncId) (tmps : T Value) (nt : Nat) (ds : List Deferred) (kind : CallKind) (ro : Option Nat) (cs : List AFrame) (m : Mem) (k : List AItem) : Option AM :=
  some ⟨⟨fn, tmps, nt, k, ds, .run, kind, ro⟩, cs, m⟩
def condA (v : Value) (a b : Code) (k : List AItem) (mk : List AItem → Option AM) : Option AM :=
  match v with
  | .bool true => mk (.code a :: k)
  | .bool false => mk (.code b :: k)
  | _ => none
def jumpA (k : Option (List AItem)) (mk : List AItem → Option AM) (leave : Option AM) : Option AM :=
  match k with
  | some k => mk k
  | none => leave
noncomputable def regionA (ops : Array Oper) (draw : Bool) (k : List AItem) (mk : List AItem → Option AM) : Option AM :=
  match draw with
  | false => mk (.ops ops ops.toList :: k)
  | true => mk (.dr ops ((List.range ops.toList.length).zip ops.toList) [] 0 :: k)
noncomputable def rangeFuncA (f : Value) (ps : List Tmp) (a b : Code) (k : List AItem) (fn : FuncId) (tmps : T Value) (nt : Nat) (ds : List Deferred) (kind : CallKind) (ro : Option Nat) (cs : List AFrame) (m : Mem) : Option AM :=
  match ro with
  | none =>
    goA tb (callValue tb f [.func (.yield (m.next + 1)) #[] #[]] (newObjA (newObjA m (.dfr (some []))) (.loop .ready none fn tmps nt ps a b m.next))) (frm fn tmps nt (.inRangeFunc (m.next + 1) :: k) ({ target := .collected m.next, args := #[] } :: ds) kind ro) cs
      (newObjA (newObjA m (.dfr (some []))) (.loop .ready none fn tmps nt ps a b m.next))
  | some l => match m.objs.get l with
    | some (.loop _ _ _ _ _ _ _ _ db) =>
      goA tb (callValue tb f [.func (.yield m.next) #[] #[]] (newObjA m (.loop .ready none fn tmps nt ps a b db))) (frm fn tmps nt (.inRangeFunc m.next :: k) ds kind ro) cs (newObjA m (.loop .ready none fn tmps nt ps a b db))
    | _ => none
noncomputable def codeA (c : Code) (k : List AItem) (fn : FuncId) (tmps : T Value) (nt : Nat) (ds : List Deferred) (kind : CallKind) (ro : Option Nat) (cs : List AFrame) (m : Mem) : Option AM :=
  match c with
  | .skip => mkA fn tmps nt ds kind ro cs m k
  | .label _ => mkA fn tmps nt ds kind ro cs m k
  | .seq a b => mkA fn tmps nt ds kind ro cs m (.code a :: .code b :: k)
  | .cond c a b => condA (ev tmps c) a b k (mkA fn tmps nt ds kind ro cs m)
  | .block id b => mkA fn tmps nt ds kind ro cs m (.code b :: .inBlock id :: k)
  | .loop b => mkA fn tmps nt ds kind ro cs m (.code b :: .inLoop b :: k)
  | .scope b => mkA fn tmps nt ds kind ro cs m (.code b :: .inScope b :: k)
  | .exit id => jumpA (exitToA id k) (mkA fn tmps nt ds kind ro cs m) (leaveA tb (frm fn tmps nt k ds kind ro) cs m (some (.exit id)))
  | .goto l => jumpA (gotoInA l k) (mkA fn tmps nt ds kind ro cs m) (leaveA tb (frm fn tmps nt k ds kind ro) cs m (some (.goto l)))
  | .ret => leaveA tb (frm fn tmps nt k ds kind ro) cs m (some .ret)
  | .refuse _ => none
  | .region _ ops draw => regionA ops draw k (mkA fn tmps nt ds kind ro cs m)
  | .rangeFunc f ps a b => rangeFuncA tb (ev tmps f) ps.toList a b k fn tmps nt ds kind ro cs m
noncomputable def opsItem (ops : Array Oper) (l : List Oper) (k : List AItem) (fn : FuncId) (tmps : T Value) (nt : Nat) (ds : List Deferred) (kind : CallKind) (ro : Option Nat) (cs : List AFrame) (m : Mem) : Option AM :=
  match opsA tb ops nt l tmps m with
  | .done t m => mkA fn t nt ds kind ro cs m k
  | .stop o l t m => doCall tb o (frm fn t nt (.ops ops (o :: l) :: k) ds kind ro) cs m
  | .bad => none
/-- what is left of a region that draws its order: its first one is a write or a call -/
noncomputable def drWrite (ops : Array Oper) (rem : List (Nat × Oper)) (hist : List Hist) (mask : Nat) (k : List AItem) (fn : FuncId) (t : T Value) (nt : Nat) (ds : List Deferred) (kind : CallKind) (ro : Option Nat) (cs : List AFrame) (m : Mem) : Option AM :=
  match rem with
  | [] => mkA fn t nt ds kind ro cs m k
  | (i, o) :: l => match alone [i] l && depsOk ops o hist && wantedA t ops o.guard with
    | false => none
    | true => match opA o.op tb t m with
      | .e v m => am (finishA tb (frm fn t nt (.dr ops ((i, o) :: l) hist mask :: k) ds kind ro) v m) cs m
      | .c => doCall tb o (frm fn t nt (.dr ops ((i, o) :: l) hist mask :: k) ds kind ro) cs m
      | _ => none
noncomputable def drItem (ops : Array Oper) (rem : List (Nat × Oper)) (hist : List Hist) (mask : Nat) (k : List AItem) (fn : FuncId) (tmps : T Value) (nt : Nat) (ds : List Deferred) (kind : CallKind) (ro : Option Nat) (cs : List AFrame) (m : Mem) : Option AM :=
  match drPass tb ops nt rem [] [] tmps m hist mask with
  | .ok t m rem hist mask => drWrite tb ops rem hist mask k fn t nt ds kind ro cs m
  | .bad => none
noncomputable def beginA (l : Nat) (k : List AItem) (fn : FuncId) (tmps : T Value) (nt : Nat) (ds : List Deferred) (kind : CallKind) (cs : List AFrame) (m : Mem) : Option AM :=
  match m.objs.get l with
  | some (.loop .ready pe f t n ps a b d) => mkA fn tmps nt ds kind (some l) cs (putObj m l (.loop .busy pe f t n ps a b d)) k
  | _ => none
noncomputable def endA (l : Nat) (k : List AItem) (fn : FuncId) (tmps : T Value) (nt : Nat) (ds : List Deferred) (kind : CallKind) (ro : Option Nat) (cs : List AFrame) (m : Mem) : Option AM :=
  match m.objs.get l with
  | some (.loop st pe f t n ps a b d) => match st with
    | .busy => none
    | _ => match pe with
      | some c => match codeOk tb.g c with
        | true => mkA fn tmps nt ds kind ro cs (putObj m l (.loop .exhausted (some c) f t n ps a b d)) (.code c :: k)
        | false => none
      | none => mkA fn tmps nt ds kind ro cs (putObj m l (.loop .exhausted none f t n ps a b d)) k
  | _ => none
noncomputable def itemA (i : AItem) (k : List AItem) (fn : FuncId) (tmps : T Value) (nt : Nat) (ds : List Deferred) (kind : CallKind) (ro : Option Nat) (cs : List AFrame) (m : Mem) : Option AM :=
  match i with
  | .code c => codeA tb c k fn tmps nt ds kind ro cs m
  | .inBlock _ => mkA fn tmps nt ds kind ro cs m k
  | .inScope _ => mkA fn tmps nt ds kind ro cs m k
  | .inLoop b => mkA fn tmps nt ds kind ro cs m (.code b :: .inLoop b :: k)
  | .ops ops l => opsItem tb ops l k fn tmps nt ds kind ro cs m
  | .dr ops rem hist mask => drItem tb ops rem hist mask k fn tmps nt ds kind ro cs m
  | .inRangeFunc _ => none
  | .beginRound => match ro with | some l => beginA l k fn tmps nt ds kind cs m | none => none
  | .endRangeFunc l => endA tb l k fn tmps nt ds kind ro cs m
noncomputable def runFrame (todo : List AItem) (fn : FuncId) (tmps : T Value) (nt : Nat) (ds : List Deferred) (kind : CallKind) (ro : Option Nat) (cs : List AFrame) (m : Mem) : Option AM :=
  match todo with
  | [] => leaveA tb (frm fn tmps nt [] ds kind ro) cs m none
  | i :: k => itemA tb i k fn tmps nt ds kind ro cs m
noncomputable def stepFr (fr : AFrame) (cs : List AFrame) (m : Mem) : Option AM :=
  match fr with
  | ⟨fn, tmps, nt, todo, ds, mode, kind, ro⟩ =>
    match mode with
    | .run => runFrame tb todo fn tmps nt ds kind ro cs m
    | mode => unwindA tb ⟨fn, tmps, nt, todo, ds, mode, kind, ro⟩ cs m
noncomputable def stepA (am : AM) : Option AM :=
  match am with
  | ⟨fr, cs, m⟩ => stepFr tb fr cs m
def doneA (am : AM) : Bool :=
  match am with
  | ⟨fr, cs, _⟩ => match cs with
    | [] => match fr with
      | ⟨_, _, _, _, ds, mode, _, _⟩ => match ds, mode with
        | [], .returning => true
        | _, _ => false
    | _ => false
noncomputable def runA (n : Nat) : AM → Option AM :=
  Nat.rec (motive := fun _ => AM → Option AM) (fun am => some am)
    (fun _ ih am => match doneA am with
      | true => some am
      | false => match stepA tb am with
        | some am => ih am
        | none => none) n
end
end Go.Ev
