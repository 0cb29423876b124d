/- Operations met by the model: slices, conversions. -/
import Derived.Test.YtgmkbdmgifdfeaaGreatDoorEv2
import Derived.Great.FillDense
import Derived.Laws.Tables
import Derived.Laws.IdiomCopy
set_option linter.unusedSimpArgs false
set_option linter.unusedVariables false
namespace Go.Ev
open Go.RowKit

section
variable {tb : Tabs} {N : Nat} {w0 : World} {E : Env} {m : Mem} {w : World}
theorem run_loadBytesN {P : Program} {w : World} : ∀ (l : List Nat) (a : Addr) (acc : ByteArray), (∀ (j x : Nat), l[j]? = some x → w.cell? (a.add j) = some (.int .u8 (x : Int))) →
    (loadBytes a acc l.length).run P w = .ok ⟨⟨acc.data.toList ++ l.map UInt8.ofNat⟩⟩ w
  | [], a, acc, _ => by simp [loadBytes]
  | x :: l, a, acc, h => by
    have h0 : w.cell? a = some (.int .u8 (x : Int)) := by
      have := h 0 x rfl
      simpa [Addr.add] using this
    have ih := run_loadBytesN (P := P) l (a.add 1) (acc.push (UInt8.ofNat x)) (fun j y hy => by
      have := h (j + 1) y (by simpa using hy)
      have e : (a.add 1).add j = a.add (j + 1) := by
        unfold Addr.add
        by_cases hj : j = 0
        · subst hj; simp
        · simp [hj]; omega
      rw [e]; exact this)
    have hx : ((x : Int).toNat).toUInt8 = UInt8.ofNat x := by simp
    simp only [List.length_cons, loadBytes, Sem.run_bind, run_load, h0, Result.andThen, hx]
    rw [ih]
    congr 1
    simp [ByteArray.push]
theorem liesAt_row {P : Program} {e : TypeId} (hc : P.cellsOf e = 1) (count off n : Nat) (hn : off + n ≤ count) : liesAt P P.depth e count off e n = true := by
  have hd : P.depth = (2 * (P.types.size + Made.depth) + 1) + 1 := rfl
  rw [hd]
  simp only [liesAt, Bool.or_eq_true]
  left
  rw [hd]
  simp [rowAt, hc, hn, sameLayout, Nat.mod_one]
theorem run_opUnsafeString (ok : TabsOk tb) (H : MR tb.p N w0 E m w) {tys : List TypeId} {p : Option Addr} {p' : Value} {n : Nat} {k : IntKind} (hp : VR E (.pointer p) p') (ty : TypeId) :
    OpRes tb N w0 E m w (opUnsafeString tb m tys p n) (Builtin.unsafeString_ ⟨tys⟩ ty #[p', .int k (.ofNat n)]) := by
  have hmax : IntKind.i64.max = 9223372036854775807 := rfl
  unfold opUnsafeString
  cases n with
  | zero =>
    simp only
    cases tys with
    | nil => exact trivial
    | cons t tys =>
      refine ⟨.string .empty, ?_, .string _⟩
      cases hp with
      | ptrNil =>
        have hdef : Builtin.unsafeString_ ⟨t :: tys⟩ ty #[.pointer none, .int k (.ofNat 0)] =
            (do
              let n ← asInt (.int k (.ofNat 0))
              if n < 0 then runtimePanic (.error "unsafe.String: len out of range")
              if n > IntKind.i64.max then unsupported (.unsafePointer "String: a length above the largest int")
              if n = 0 then pure (.string .empty)
              else runtimePanic (.error "unsafe.String: ptr is nil and len is not zero")) := rfl
        rw [hdef]
        simp [asInt, asIntOf, hmax]
      | @ptr b o i hE =>
        have hdef : ∀ a, Builtin.unsafeString_ ⟨t :: tys⟩ ty #[.pointer (some a), .int k (.ofNat 0)] =
            (do
              let n ← asInt (.int k (.ofNat 0))
              if n < 0 then runtimePanic (.error "unsafe.String: len out of range")
              if n > IntKind.i64.max then unsupported (.unsafePointer "String: a length above the largest int")
              if n = 0 then pure (.string .empty)
              else if ← variablesAt a (← elemOf t) n.toNat then do
                let s ← loadBytes a .empty n.toNat
                freeze a n.toNat
                pure (.string s)
              else unsupported (.unsafePointer "String: not so many bytes at ptr")) := fun a => rfl
        rw [hdef]
        simp [asInt, asIntOf, hmax]
  | succ n =>
    simp only
    split <;> first | exact trivial | skip
    rename_i a t tys'
    obtain ⟨b, o, sp⟩ := a
    cases hp with
    | @ptr _ _ i hE =>
    simp only
    split <;> first | exact trivial | skip
    rename_i r j hr hj
    split <;> first | exact trivial | skip
    rename_i e hjd hfz
    split <;> first | exact trivial | skip
    rename_i s hc hb
    simp only [Bool.and_eq_true] at hc
    obtain ⟨⟨h1, h2⟩, h3⟩ := hc
    have h1 := Nat.eq_of_beq_eq_true h1
    have h2 := Nat.eq_of_beq_eq_true h2
    have h3 := Nat.le_of_ble_eq_true h3
    obtain ⟨_, ns, hs, hlen, hcell⟩ := run_bytesAt H hE hb 0
    obtain ⟨cells, el, fr, g1, g2⟩ := H.row hE (rowOf_of_rowW hr)
    have hsh : w.shape? i.blk = some (el, cells.size) := by simp [World.shape?, g1]
    have hload := run_loadBytesN (P := tb.p) (w := w) ns ⟨i.blk, i.shift + o, none⟩ .empty (fun j x hx => by rw [add_none]; exact hcell j x hx)
    rw [hlen] at hload
    have hle : i.shift + o + (n + 1) ≤ cells.size := by
      have hlast := hcell n (ns[n]'(by omega)) (List.getElem?_eq_getElem (by omega))
      simp only [World.cell?, g1] at hlast
      have := (Array.getElem?_eq_some_iff.1 (by simpa using hlast)).1
      omega
    have hel : el = e := by rw [g2.elem, h1]
    subst hel
    have hc1 : tb.p.cellsOf el = 1 := by rw [g2.elem]; exact h2
    have hlies := liesAt_row (P := tb.p) hc1 (cells.size / tb.p.cellsOf el) (i.shift + o) (n + 1) (by rw [hc1]; simpa using hle)
    have hdef : Builtin.unsafeString_ ⟨t :: tys'⟩ ty #[.pointer (some ⟨i.blk, i.shift + o, none⟩), .int k (.ofNat (n + 1))] =
        (do
          let n ← asInt (.int k (.ofNat (n + 1)))
          if n < 0 then runtimePanic (.error "unsafe.String: len out of range")
          if n > IntKind.i64.max then unsupported (.unsafePointer "String: a length above the largest int")
          if n = 0 then pure (.string .empty)
          else if ← variablesAt ⟨i.blk, i.shift + o, none⟩ (← elemOf t) n.toNat then do
            let s ← loadBytes ⟨i.blk, i.shift + o, none⟩ .empty n.toNat
            freeze ⟨i.blk, i.shift + o, none⟩ n.toNat
            pure (.string s)
          else unsupported (.unsafePointer "String: not so many bytes at ptr")) := rfl
    have hneg : ¬ ((n : Int) + 1 < 0) := by omega
    have h63 : ¬ ((9223372036854775807 : Int) < (n : Int) + 1) := by omega
    have hz : ¬ ((n : Int) + 1 = 0) := by omega
    have htn : ((n : Int) + 1).toNat = n + 1 := by omega
    have hrun : (Builtin.unsafeString_ ⟨t :: tys'⟩ ty #[.pointer (some ⟨i.blk, i.shift + o, none⟩), .int k (.ofNat (n + 1))]).run tb.p w = .ok (.string s) (w.freeze ⟨i.blk, i.shift + o, none⟩ (n + 1)) := by
      rw [hdef]
      simp [asInt, asIntOf, hmax, hneg, h63, hz, htn, variablesAt, hsh, elemOf, run_ty ok hj, hjd, hlies, hload, hs]
    obtain ⟨q1, q2, q3, q4, q5, q6⟩ := freeze_eq g1 (o := i.shift + o) (n := n + 1) (by simp)
    have hf := g2.fz; rw [hfz] at hf
    have hf : fr.1 = fr.2 := hf
    refine ⟨_, _, E, hrun, .string _, H.mark (fz := .rng o (o + (n + 1))) hE hr g1 g2 q1 q2 q3 q4 q5 q6 ?_, MExt.put _ hE⟩
    rw [if_pos hf]
    show _ = _
    congr 1
    omega
theorem run_opSAP (ok : TabsOk tb) {arr : TypeId} {x x' : Value} (hx : VR E x x') : OpRes tb N w0 E m w (opSAP tb arr x) (Instr.arrayAt arr x') := by
  unfold opSAP
  split <;> first | exact trivial | skip
  rename_i i a len c hi
  obtain ⟨b, o, sp⟩ := a
  split <;> first | exact trivial | skip
  rename_i n el hd
  split <;> first | exact trivial | skip
  · rename_i hn hsp
    simp only at hsp; subst hsp
    simp only [Bool.and_eq_true, Nat.ble_eq] at hn
    obtain ⟨hn, hn1⟩ := hn
    cases hx with
    | slD _ _ => omega
    | sl l c h =>
      refine ⟨_, ?_, .ptr h⟩
      have : ¬ (len < n) := by omega
      simp [Instr.arrayAt, run_ty ok hi, hd, this]
  · rename_i hn hsp
    simp only at hsp; subst hsp
    simp only [Bool.and_eq_true, Nat.ble_eq] at hn
    obtain ⟨hn, hn1⟩ := hn
    cases hx with
    | slD _ _ => omega
    | slX l c h =>
      refine ⟨_, ?_, .ptr h⟩
      have : ¬ (len < n) := by omega
      simp [Instr.arrayAt, run_ty ok hi, hd, this]
/-! ### makers -/
theorem rowR_zero {sz : Nat} {E : Env} {blk : Nat} {elem : TypeId} {z : List Value} (hz : z.all flatV = true) {n : Nat} {cells : Array Value} (hc : cells.size = n) (hg : ∀ j, j < n → ∀ v, z[j % z.length]? = some v → cells[j]? = some v) :
    RowR sz E ⟨.lf, n, z, elem, .none, false⟩ ⟨blk, 0, 0⟩ cells elem (0, 0) := by
  refine ⟨rfl, ?_, by simp [hc], fun _ => ⟨rfl, rfl⟩, rfl⟩
  intro j v hv
  simp only [cellAt, T.get_lf] at hv
  split at hv
  · rename_i hj
    have hj : j < n := by simpa [Nat.blt_eq] using hj
    refine ⟨v, by simpa using hg j hj v hv, ?_⟩
    have hm := List.mem_of_getElem? hv
    exact flatV_self (List.all_eq_true.1 hz v hm)
  · simp at hv
theorem run_opAlloc (ok : TabsOk tb) {e : TypeId} : OpRes tb N w0 E m w (opAlloc tb e) (Instr.alloc e true undef) := by
  unfold opAlloc
  cases hj : ti tb e with
  | none => exact trivial
  | some i =>
    simp only
    cases hz : i.hasZ with
    | false => exact trivial
    | true =>
      obtain ⟨z, h1, h2, h3, h4, _⟩ := ok.zc hj hz
      intro b hb
      refine ⟨.pointer (some ⟨w.heap.size, 0, none⟩), { w with heap := w.heap.push (.cells z.cells e) }, _, 0, 0, ?_, rfl, rfl, rfl, rfl, ?_, ?_, rfl⟩
      · simp [Instr.alloc, run_zero ok hj h1, newVar, newRow, undef]
      · have hzc : z.cells.toList = i.zc := by rw [h2]; cases z <;> rfl
        refine .row (rowR_zero (by rw [h2]; exact h3) (by rw [← hzc]; simp) ?_)
        intro j hj v hv
        rw [Nat.mod_eq_of_lt hj, ← hzc] at hv
        simpa using hv
      · exact .ptr (i := ⟨w.heap.size, 0, 0⟩) Env.add_at
theorem run_opBox {e : TypeId} {v v' : Value} (hv : VR E v v') : OpRes tb N w0 E m w (opBox e v) (Instr.box e v') := by
  intro b hb
  refine ⟨.pointer (some ⟨w.heap.size, 0, none⟩), { w with heap := w.heap.push (.cells v'.cells e) }, _, 0, 0, ?_, rfl, rfl, rfl, rfl, ?_, ?_, rfl⟩
  · simp [Instr.box, newVar, newRow]
  · have := rowObj_new (P := tb.p) (blk := w.heap.size) (ex := 0) (elem := e) (rest := []) (fz := .none) (ext := false) (fr := (0, 0)) (cells_freshE (i := ⟨w.heap.size, 0, 0⟩) hb hv.cells) (by simp) (by simp) rfl
    simpa using this
  · exact .ptr (i := ⟨w.heap.size, 0, 0⟩) Env.add_at
theorem run_opMakeMap {t : TypeId} {r r' : Option Value} (hr : OVR E r r') : OpRes tb N w0 E m w (opMakeMap r) (Instr.makeMap t r') := by
  cases hr with
  | some h => exact trivial
  | none =>
    intro b hb
    exact ⟨.map (some w.heap.size), { w with heap := w.heap.push (.map #[] 0) }, _, 0, 0, by simp [Instr.makeMap], rfl, rfl, rfl, rfl, .map .nil, .map (i := ⟨w.heap.size, 0, 0⟩) Env.add_at, rfl⟩
theorem bang_get {z : Array Value} {j n : Nat} (h : z.size ≠ 0) {v : Value} (hv : z.toList[j % z.toList.length]? = some v) (hj : j < n) : ((Array.range n).map (z[· % z.size]!))[j]? = some v := by
  have hz : j % z.size < z.size := Nat.mod_lt _ (by omega)
  simp [hj, hz] at hv ⊢
  exact hv
theorem run_opMakeSlice (ok : TabsOk tb) {t : TypeId} {l l' c c' : Value} (hl : VR E l l') (hc : VR E c c') : OpRes tb N w0 E m w (opMakeSlice tb t l c) (Instr.makeSlice t l' c') := by
  unfold opMakeSlice
  split <;> first | exact trivial | skip
  rename_i k1 l k2 c
  cases hl; cases hc
  cases hi : ti tb t with
  | none => exact trivial
  | some i =>
  simp only
  split <;> first | exact trivial | skip
  rename_i elem hd
  cases hj : ti tb elem with
  | none => exact trivial
  | some e =>
  simp only
  split <;> first | exact trivial | skip
  rename_i hz hb
  simp only [Bool.and_eq_true, Nat.blt_eq] at hb
  obtain ⟨⟨h1, h2⟩, h3⟩ := hb
  have h1 := Nat.le_of_ble_eq_true h1
  have h2 := Nat.le_of_ble_eq_true h2
  obtain ⟨z, g1, g2, g3, g4, _⟩ := ok.zc hj hz
  have hzc : z.cells.toList = e.zc := by rw [g2]; cases z <;> rfl
  have hw : ∀ n : Nat, n < 9223372036854775808 → IntKind.i64.wrap (n : Int) = (n : Int) := by
    intro n hn
    rw [wrap_i64]; split <;> omega
  have hwc := hw c h3
  have hwl := hw l (by omega)
  have hbc : ¬ (281474976710656 < e.inf.bytes * c) := by omega
  have hbc' : ¬ ((281474976710656 : Int) < (e.inf.bytes : Int) * (c : Int)) := by
    have : ((e.inf.bytes * c : Nat) : Int) = (e.inf.bytes : Int) * (c : Int) := by push_cast; rfl
    rw [← this]; omega
  have hlc : ¬ ((c : Int) < (l : Int)) := by omega
  have hcn : ¬ ((c : Int) < 0) := by omega
  have hln : ¬ ((l : Int) < 0) := by omega
  intro b hb
  have key : ∃ cells : Array Value, cells.size = c * e.inf.size ∧ (∀ j, j < c * e.inf.size → ∀ v, e.zc[j % e.zc.length]? = some v → cells[j]? = some v) ∧
      (Instr.makeSlice t (.int k1 (.ofNat l)) (.int k2 (.ofNat c))).run tb.p w = .ok (.slice (some ⟨w.heap.size, 0, none⟩) l c) { w with heap := w.heap.push (.cells cells elem) } := by
    by_cases hn : c * e.inf.size = 0
    · refine ⟨#[], by simp [hn], by rw [hn]; intro j hj; omega, ?_⟩
      have h0 : c = 0 ∨ e.inf.size = 0 := Nat.mul_eq_zero.1 hn
      simp [Instr.makeSlice, run_ty ok hi, hd, asInt, asIntOf, run_inf ok hj, hwc, hwl, hbc', hlc, hcn, hln, run_size ok hj, h0, newRow, hn]
      have h00 : Array.map (fun (_ : Nat) => (default : Value)) (Array.range 0) = #[] := Array.eq_empty_of_size_eq_zero (by simp)
      rw [h00]
    · have h0 : ¬ (c = 0 ∨ e.inf.size = 0) := fun h => hn (Nat.mul_eq_zero.2 h)
      refine ⟨(Array.range (c * e.inf.size)).map (z.cells[· % z.cells.size]!), by simp, ?_, ?_⟩
      · intro j hj v hv
        refine bang_get ?_ (by rw [hzc]; exact hv) hj
        have : z.cells.size = e.inf.size := by rw [← g4, ← hzc]; simp
        rw [this]; intro h; exact h0 (.inr h)
      · simp [Instr.makeSlice, run_ty ok hi, hd, asInt, asIntOf, run_inf ok hj, hwc, hwl, hbc', hlc, hcn, hln, run_size ok hj, h0, newRow, run_zero ok hj g1]
        intro h; exact absurd h hn
  obtain ⟨cells, q1, q2, q3⟩ := key
  refine ⟨_, _, _, 0, 0, q3, rfl, rfl, rfl, rfl, .row (rowR_zero (by rw [g2]; exact g3) q1 q2), ?_, rfl⟩
  have := VR.sl (E := E.add b ⟨w.heap.size, 0, 0⟩) (b := b) (o := 0) l c Env.add_at
  simpa using this
end
end Go.Ev
namespace Go.Ev
open Go.RowKit

inductive PartsR (E : Env) : List (Nat × Value) → List (Nat × Value) → Prop where
  | nil : PartsR E [] []
  | cons {i : Nat} {v v' : Value} {l l' : List (Nat × Value)} (h : VR E v v') (t : PartsR E l l') : PartsR E ((i, v) :: l) ((i, v') :: l')
noncomputable def ovl (c : T Value) (d : Nat → Option Value) (j : Nat) : Option Value :=
  match c.get j with
  | some v => some v
  | none => d j
/-- what is filled so far -/
structure FillR (E : Env) (c : T Value) (d : Nat → Option Value) (n : Nat) (cells : Array Value) : Prop where
  size : cells.size = n
  get : ∀ j v, j < n → ovl c d j = some v → ∃ v', cells[j]? = some v' ∧ VR E v v'
  out : ∀ j, n ≤ j → c.get j = none
theorem fill_rel {E : Env} {d : Nat → Option Value} {n : Nat} {place place' : Nat → Option (Nat × Nat)} (hpl : ∀ i p, place i = some p → place' i = some p) : ∀ {ps ps' : List (Nat × Value)}, PartsR E ps ps' → ∀ {c c1 : T Value} {cells : Array Value},
    fillA place n ps c = some c1 → FillR E c d n cells → ∃ cells1, Instr.fill place' cells ps' = some cells1 ∧ FillR E c1 d n cells1 := by
  intro ps ps' h
  induction h with
  | nil => intro c c1 cells hf hr; simp only [fillA, Option.some.injEq] at hf; subst hf; exact ⟨cells, rfl, hr⟩
  | @cons i v v' l l' hv _ ih =>
    intro c c1 cells hf hr
    simp only [fillA] at hf
    split at hf <;> first | (simp at hf; done) | skip
    rename_i off sz hp
    split at hf <;> first | (simp at hf; done) | skip
    rename_i hc
    rw [Bool.and_eq_true] at hc
    have h1 := Nat.eq_of_beq_eq_true hc.1
    have h2 := Nat.le_of_ble_eq_true hc.2
    have hcl := hv.cells
    have hlen : v'.cells.size = (cellsOfV v).length := by rw [hcl.length]; simp
    obtain ⟨s1, s2⟩ := Go.Great.foldl_set off v'.cells.toList 0 cells
    have hs : v'.cells.zipIdx.foldl (fun cs (x : Value × Nat) => cs.setIfInBounds (off + x.2) x.1) cells = (v'.cells.toList.zipIdx 0).foldl (fun cs (x : Value × Nat) => cs.setIfInBounds (off + x.2) x.1) cells := by
      rw [← Array.foldl_toList]; simp
    obtain ⟨cells1, g1, g2⟩ := ih hf (cells := (v'.cells.toList.zipIdx 0).foldl (fun cs (x : Value × Nat) => cs.setIfInBounds (off + x.2) x.1) cells) ⟨by rw [s1]; exact hr.size, by
      intro j u hj hu
      rw [s2 j]
      simp only [ovl, T.get_setL] at hu
      have hlen' : v'.cells.toList.length = (cellsOfV v).length := by simpa using hlen
      by_cases ha : j < off
      · rw [if_neg (by omega)]
        rw [if_pos ha] at hu
        exact hr.get j u hj hu
      · rw [if_neg ha] at hu
        by_cases hb : j < off + (cellsOfV v).length
        · rw [if_pos (by rw [hlen', hr.size]; omega)]
          rw [if_pos hb] at hu
          rw [List.getElem?_eq_getElem (by omega)] at hu
          simp only [Option.some.injEq] at hu
          obtain ⟨u', h3, h4⟩ := hcl.get (j - off) u (by rw [List.getElem?_eq_getElem (by omega)]; simp [hu])
          exact ⟨u', by simpa using h3, h4⟩
        · rw [if_neg (by rw [hlen']; omega)]
          rw [if_neg hb] at hu
          exact hr.get j u hj hu, by
      intro j hj
      rw [T.get_setL]
      rw [if_neg (by omega), if_neg (by omega)]
      exact hr.out j hj⟩
    refine ⟨cells1, ?_, g2⟩
    unfold Instr.fill
    rw [hpl i _ hp]
    simp only
    rw [if_neg (by rw [hlen, hr.size]; simp; omega), hs]
    exact g1
theorem listOf_get (c : T Value) : ∀ (z : List Value) (i j : Nat), (listOf c z i)[j]? = (z[j]?).map fun v => (c.get (i + j)).getD v
  | [], i, j => by simp [listOf]
  | v :: z, i, 0 => by
    simp only [listOf, List.getElem?_cons_zero, Option.map_some, Nat.add_zero]
    cases c.get i <;> rfl
  | v :: z, i, j + 1 => by
    simp only [listOf, List.getElem?_cons_succ, listOf_get c z (i + 1) j]
    rw [show i + 1 + j = i + (j + 1) from by omega]
theorem listOf_length (c : T Value) : ∀ (z : List Value) (i : Nat), (listOf c z i).length = z.length
  | [], i => rfl
  | v :: z, i => by simp [listOf, listOf_length c z]
theorem FillR.list {E : Env} {c : T Value} {z : List Value} {cells : Array Value} (h : FillR E c (z[·]?) z.length cells) : VRs E (listOf c z 0) cells.toList := by
  refine VRs.of_get (by rw [listOf_length]; simpa using h.size.symm) ?_
  intro j v v' hv hv'
  rw [listOf_get] at hv
  have hj : j < z.length := by
    by_cases e : j < z.length
    · exact e
    · rw [List.getElem?_eq_none (by omega)] at hv; simp at hv
  obtain ⟨u, h1, h2⟩ := h.get j v hj (by
    unfold ovl
    rw [List.getElem?_eq_getElem hj] at hv
    simp only [List.getElem?_eq_getElem hj]
    simp only [Option.map_some, Nat.zero_add] at hv
    cases hc : c.get j with
    | none => rw [hc] at hv; exact hv
    | some y => rw [hc] at hv; exact hv)
  have : cells[j]? = some v' := by simpa using hv'
  rw [this] at h1
  obtain rfl := Option.some.inj h1
  exact h2
section
variable {tb : Tabs} {N : Nat} {w0 : World} {E : Env} {m : Mem} {w : World}
theorem fillR_zero {z : Value} (hz : (cellsOfV z).all flatV = true) : FillR E .lf ((cellsOfV z)[·]?) (cellsOfV z).length z.cells := by
  have hzc : z.cells.toList = cellsOfV z := by cases z <;> rfl
  refine ⟨by rw [← hzc]; simp, ?_, fun j _ => T.get_lf j⟩
  intro j v hj hv
  simp only [ovl, T.get_lf] at hv
  refine ⟨v, ?_, flatV_self (List.all_eq_true.1 hz v (List.mem_of_getElem? hv))⟩
  rw [← hzc] at hv; simpa using hv
theorem run_buildA (ok : TabsOk tb) {t : TypeId} {ps ps' : List (Nat × Value)} (hp : PartsR E ps ps') {v : Value} (h : buildA tb t ps = some v) : RdOk tb E w v (Instr.build t ⟨ps'⟩) := by
  unfold buildA at h
  obtain ⟨i, hi, h1⟩ := oB_some.1 h
  clear h
  split at h1 <;> first | (simp at h1; done) | skip
  · rename_i fs hz hd
    obtain ⟨c, hc, h2⟩ := oB_some.1 h1
    simp only [Option.some.injEq] at h2; subst h2
    obtain ⟨z, g1, g2, g3, g4, g5⟩ := ok.zc hi hz
    have hfl := (mkTI_some (ok.types t i hi)).2.2.2.2.2.1
    have hpl : fs.toList.mapM (fun f => (tb.p.info? f.type).map fun i => (f.offset, i.size)) = some (fs.toList.map fun f => (f.offset, tb.p.cellsOf f.type)) := by
      have hall := g5 fs hd
      generalize fs.toList = l at hall ⊢
      induction l with
      | nil => rfl
      | cons f l ih =>
        have h0 := hall f (by simp)
        obtain ⟨q, hq⟩ := Option.isSome_iff_exists.1 h0
        rw [List.mapM_cons, ih (fun f hf => hall f (by simp [hf]))]
        simp [hq, Program.cellsOf]
    have hrp := run_places (P := tb.p) w _ _ hpl
    rw [g2] at hc
    obtain ⟨cells1, h3, h4⟩ := fill_rel (E := E) (d := ((cellsOfV z)[·]?)) (place' := ((fs.toList.map fun f => (f.offset, tb.p.cellsOf f.type)).toArray[·]?)) (by
      intro j p hp
      unfold placeS at hp
      rw [hfl, hd] at hp
      simp only at hp
      rw [List.getElem?_map] at hp
      cases hj : fs.toList[j]? with
      | none => rw [hj] at hp; simp at hp
      | some f =>
        rw [hj] at hp; simp at hp; subst hp
        have hj' : fs[j]? = some f := by simpa using hj
        simp [hj']) hp hc (fillR_zero g3)
    refine ⟨.agg cells1, ?_, .agg (by rw [g2]; exact h4.list)⟩
    simp [Instr.build, run_zero ok hi g1, run_ty ok hi, hd, Array.mapM_eq_mapM_toList, hrp]
    simp at h3
    simp [h3]
  · rename_i n elem hz hd
    obtain ⟨e, he, h1b⟩ := oB_some.1 h1
    obtain ⟨c, hc, h2⟩ := oB_some.1 h1b
    simp only [Option.some.injEq] at h2; subst h2
    obtain ⟨z, g1, g2, g3, g4, g5⟩ := ok.zc hi hz
    rw [g2] at hc
    obtain ⟨cells1, h3, h4⟩ := fill_rel (E := E) (d := ((cellsOfV z)[·]?)) (place' := fun j => some (j * e.inf.size, e.inf.size)) (fun _ _ h => h) hp hc (fillR_zero g3)
    refine ⟨.agg cells1, ?_, .agg (by rw [g2]; exact h4.list)⟩
    simp [Instr.build, run_zero ok hi g1, run_ty ok hi, hd, run_size ok he, h3]
theorem run_opBuildSlice (ok : TabsOk tb) {t : TypeId} {len : Nat} {ps ps' : List (Nat × Value)} (hp : PartsR E ps ps') : OpRes tb N w0 E m w (opBuildSlice tb t len ps) (Instr.buildSlice t len ⟨ps'⟩) := by
  unfold opBuildSlice
  cases hi : ti tb t with
  | none => exact trivial
  | some i =>
  simp only
  split <;> first | exact trivial | skip
  rename_i elem hd
  cases hj : ti tb elem with
  | none => exact trivial
  | some e =>
  simp only
  split <;> first | exact trivial | skip
  rename_i hz hle
  cases hc : fillA (fun j => some (j * e.inf.size, e.inf.size)) (len * e.inf.size) ps .lf with
  | none => exact trivial
  | some c =>
  have hle := Nat.le_of_ble_eq_true hle
  obtain ⟨z, g1, g2, g3, g4, g5⟩ := ok.zc hj hz
  have hzc : z.cells.toList = e.zc := by rw [g2]; cases z <;> rfl
  have key : ∃ cells0 : Array Value, (∀ E', FillR E' .lf (fun j => e.zc[j % e.zc.length]?) (len * e.inf.size) cells0) ∧ ∀ cells1, Instr.fill (fun i => some (i * e.inf.size, e.inf.size)) cells0 ps' = some cells1 →
      (Instr.buildSlice t len ⟨ps'⟩).run tb.p w = .ok (.slice (some ⟨w.heap.size, 0, none⟩) len len) { w with heap := w.heap.push (.cells cells1 elem) } := by
    by_cases hn : len * e.inf.size = 0
    · refine ⟨#[], fun E' => ⟨by simp [hn], fun j v hj => by omega, fun j _ => T.get_lf j⟩, fun cells1 hf => ?_⟩
      have h00 : ∀ f : Nat → Value, Array.map f (Array.range 0) = #[] := fun f => Array.eq_empty_of_size_eq_zero (by simp)
      have h0 : len = 0 ∨ e.inf.size = 0 := Nat.mul_eq_zero.1 hn
      simp [Instr.buildSlice, run_ty ok hi, hd, run_size ok hj, h0, newRow, hn, h00, hf]
    · have h0 : ¬ (len = 0 ∨ e.inf.size = 0) := fun h => hn (Nat.mul_eq_zero.2 h)
      have hle' : ¬ (16777216 < len * e.inf.size) := by omega
      refine ⟨(Array.range (len * e.inf.size)).map (z.cells[· % z.cells.size]!), fun E' => ⟨by simp, ?_, fun j _ => T.get_lf j⟩, fun cells1 hf => ?_⟩
      · intro j v hj hv
        simp only [ovl, T.get_lf] at hv
        refine ⟨v, bang_get ?_ (by rw [hzc]; exact hv) hj, flatV_self (List.all_eq_true.1 g3 v (by rw [← g2]; exact List.mem_of_getElem? hv))⟩
        have : z.cells.size = e.inf.size := by rw [← g4, ← hzc]; simp
        rw [this]; intro h; exact h0 (.inr h)
      · simp [Instr.buildSlice, run_ty ok hi, hd, run_size ok hj, h0, newRow, hle', run_zero ok hj g1, hn, hf]
  obtain ⟨cells0, q1, q2⟩ := key
  intro b hb
  obtain ⟨cells1, h3, h4⟩ := fill_rel (E := E) (place' := fun j => some (j * e.inf.size, e.inf.size)) (fun _ _ h => h) hp hc (q1 E)
  refine ⟨_, _, _, 0, 0, q2 cells1 h3, rfl, rfl, rfl, rfl, .row ⟨rfl, ?_, by simp [h4.size], fun _ => ⟨rfl, rfl⟩, rfl⟩, ?_, rfl⟩
  · intro j v hv
    have hj := cellAt_lt hv
    simp only at hj
    obtain ⟨v', h5, h6⟩ := h4.get j v hj (by
      simp only [cellAt, Nat.blt_eq, hj] at hv
      unfold ovl
      split at hv <;> first | (simp at hv; done) | skip
      exact hv)
    exact ⟨v', by simpa using h5, h6.mono (Env.add_le hb)⟩
  · have := VR.sl (E := E.add b ⟨w.heap.size, 0, 0⟩) (b := b) (o := 0) len len Env.add_at
    simpa using this
end
end Go.Ev
namespace Go.Ev
open Go.RowKit

/-- one block turned, nothing else -/
structure OneR (w w' : World) (g : Nat) (o : Obj) : Prop where
  at_ : w'.heap[g]? = some o
  other : ∀ k, k ≠ g → w'.heap[k]? = w.heap[k]?
  size : w'.heap.size = w.heap.size
  os : w'.os = w.os
  tape : w'.tape = w.tape
  output : w'.output = w.output
theorem OneR.trans {a b c : World} {g : Nat} {o q : Obj} (h : OneR a b g o) (k : OneR b c g q) : OneR a c g q :=
  ⟨k.at_, fun x hx => (k.other x hx).trans (h.other x hx), k.size.trans h.size, k.os.trans h.os, k.tape.trans h.tape, k.output.trans h.output⟩
theorem run_storeList {P : Program} : ∀ (l : List Value) (g o i : Nat) (w : World) (cells : Array Value) (el : TypeId) (fr : Nat × Nat), w.heap[g]? = some (.cells cells el fr) → o + i + l.length ≤ cells.size → (∀ v ∈ l, v.oneCell' = true) →
    (∀ j, j < l.length → ¬ (fr.1 ≤ o + i + j ∧ o + i + j < fr.2)) →
    ∃ cells' w', (storeCells ⟨g, o, none⟩ l i).run P w = .ok () w' ∧ OneR w w' g (.cells cells' el fr) ∧ cells'.size = cells.size ∧ ∀ k, cells'[k]? = if o + i ≤ k ∧ k < o + i + l.length then l[k - (o + i)]? else cells[k]?
  | [], g, o, i, w, cells, el, fr, hg, _, _, _ => by
    refine ⟨cells, w, rfl, ⟨hg, fun _ _ => rfl, rfl, rfl, rfl, rfl⟩, rfl, fun k => ?_⟩
    rw [if_neg (by simp)]
  | v :: l, g, o, i, w, cells, el, fr, hg, hlen, h1, hf => by
    simp only [List.length_cons] at hlen
    have hlt : o + i < cells.size := by omega
    have hcell : w.cell? ⟨g, o + i, none⟩ = some cells[o + i] := by simp [World.cell?, hg, hlt]
    have hz : w.frozen? ⟨g, o + i, none⟩ = false := by
      have := hf 0 (by simp)
      obtain ⟨lo, hi⟩ := fr
      simp only [World.frozen?, hg]
      simp only [Nat.add_zero] at this
      simpa using this
    have hst : (store ((⟨g, o, none⟩ : Addr).add i) v).run P w = .ok () (w.setCell ⟨g, o + i, none⟩ v) := by
      rw [add_none, run_store P w _ v _ (h1 v (by simp)), hcell]
      rw [hz]; rfl
    have hone : OneR w (w.setCell ⟨g, o + i, none⟩ v) g (.cells (cells.setIfInBounds (o + i) v) el fr) := by
      refine ⟨?_, ?_, by simp [World.setCell], rfl, rfl, rfl⟩
      · simp [World.setCell, Array.getElem?_modify, hg]
      · intro k hk
        simp only [World.setCell, Array.getElem?_modify]
        rw [if_neg (fun e => hk e.symm)]
    obtain ⟨cells', w', g1, g2, g3, g4⟩ := run_storeList (P := P) l g o (i + 1) (w.setCell ⟨g, o + i, none⟩ v) (cells.setIfInBounds (o + i) v) el fr hone.at_ (by simp; omega) (fun x hx => h1 x (by simp [hx])) (fun j hj => by
      have := hf (j + 1) (by simp; omega)
      rwa [show o + i + (j + 1) = o + (i + 1) + j from by omega] at this)
    refine ⟨cells', w', ?_, hone.trans g2, by rw [g3]; simp, fun k => ?_⟩
    · simp only [storeCells, Sem.run_bind, hst, Result.andThen_ok, g1]
    · rw [g4 k]
      simp only [List.length_cons]
      by_cases e : k = o + i
      · subst e
        rw [if_neg (by omega), if_pos (by omega)]
        rw [Array.getElem?_setIfInBounds, if_pos rfl, if_pos hlt]
        simp
      · by_cases hin : o + (i + 1) ≤ k ∧ k < o + (i + 1) + l.length
        · rw [if_pos hin, if_pos (by omega)]
          rw [show k - (o + i) = (k - (o + (i + 1))) + 1 from by omega, List.getElem?_cons_succ]
        · rw [if_neg hin, if_neg (by omega)]
          rw [Array.getElem?_setIfInBounds, if_neg (fun h => e h.symm)]
theorem oneC_rel {E : Env} {v v' : Value} (h : VR E v v') (ho : oneC v = true) : v'.oneCell' = true := by
  cases h <;> first | rfl | (simp [oneC] at ho)
theorem VRs.all_one {E : Env} : ∀ {l l' : List Value}, VRs E l l' → l.all oneC = true → ∀ v ∈ l', v.oneCell' = true
  | _, _, .nil, _ => by simp
  | _, _, .cons h t, ho => by
    rw [List.all_cons, Bool.and_eq_true] at ho
    intro v hv
    rcases List.mem_cons.1 hv with rfl | hv
    · exact oneC_rel h ho.1
    · exact VRs.all_one t ho.2 v hv
theorem cellAt_of {r : Row} {j : Nat} (hj : j < r.n) : cellAt r j = match r.ov.get j with | some v => some v | none => r.z[j % r.z.length]? := by
  obtain ⟨ov, n, z, e, f, x⟩ := r
  have hj : j < n := hj
  simp only [cellAt]
  rw [show Nat.blt j n = true from by simpa [Nat.blt_eq] using hj]
  rfl
section
variable {tb : Tabs} {N : Nat} {w0 : World} {E : Env} {m : Mem} {w : World}
theorem setCells_some {r r1 : Row} {o : Nat} {l : List Value} (h : setCells r o l = some r1) : r1 = ⟨T.setL l o r.ov, r.n, r.z, r.elem, r.fz, r.ext⟩ ∧ o + l.length ≤ r.n ∧ l.all oneC = true ∧ fzOk r.fz o l.length = true := by
  obtain ⟨ov, n, z, elem, fz, ext⟩ := r
  simp only [setCells] at h
  split at h <;> first | (simp at h; done) | skip
  rename_i hb
  rw [Bool.and_eq_true] at hb
  split at h <;> first | (simp at h; done) | skip
  rename_i hf
  simp only [Option.some.injEq] at h
  exact ⟨h.symm, Nat.le_of_ble_eq_true hb.1, hb.2, hf⟩
/-- cells are written: whatever is written of the model's -/
theorem run_storeCellsA (H : MR tb.p N w0 E m w) {b o : Nat} {i : Info} (hE : E b = some i) {l l' : List Value} (hl : VRs E l l') {m' : Mem} (h : storeCellsA m b o l = some m') :
    ∃ w', (storeCells ⟨i.blk, i.shift + o, none⟩ l').run tb.p w = .ok () w' ∧ MR tb.p N w0 E m' w' ∧ MExt m.next E m E m' := by
  unfold storeCellsA at h
  obtain ⟨r, hr, h1⟩ := oB_some.1 h
  obtain ⟨r1, hr1, h2⟩ := oB_some.1 h1
  simp only [Option.some.injEq] at h2; subst h2
  obtain ⟨rfl, hle, hone, hfz⟩ := setCells_some hr1
  obtain ⟨cells, el, fr, g1, g2⟩ := H.row hE (rowOf_of_rowW hr)
  have hlen := hl.length
  obtain ⟨cells', w', q1, q2, q3, q4⟩ := run_storeList (P := tb.p) l' i.blk (i.shift + o) 0 w cells el fr g1 (by rw [g2.size, ← hlen]; omega) (hl.all_one hone) (by
    intro j hj
    have hf := g2.fz
    rw [← hlen] at hj
    unfold fzOk at hfz
    cases hz : r.fz with
    | none => rw [hz] at hf; have hf : fr.1 = fr.2 := hf; omega
    | str =>
      rw [hz] at hf; have hf : fr.1 = fr.2 ∨ cells.size ≤ fr.1 := hf
      have := g2.size
      omega
    | rng lo hi =>
      rw [hz] at hf hfz
      have hf : fr = (i.shift + lo, i.shift + hi) := hf
      subst hf
      simp only [Bool.or_eq_true] at hfz
      rcases hfz with hfz | hfz
      · have := Nat.le_of_ble_eq_true hfz; simp only; omega
      · have := Nat.le_of_ble_eq_true hfz; simp only; omega)
  refine ⟨w', q1, ?_, MExt.put _ hE⟩
  refine H.put hE (rowW_some hr) rfl (.inl rfl) q2.size q2.other q2.os q2.tape q2.output fun _ => ⟨_, q2.at_, .row ⟨g2.elem, ?_, by rw [q3]; exact g2.size, g2.exact', by rw [q3]; exact g2.fz⟩⟩
  intro j v hv
  have hj := cellAt_lt hv
  simp only at hj
  rw [q4]
  rw [cellAt_of (r := ⟨T.setL l o r.ov, r.n, r.z, r.elem, r.fz, r.ext⟩) hj] at hv
  simp only [T.get_setL] at hv
  by_cases ha : j < o
  · rw [if_pos ha] at hv
    rw [if_neg (by omega)]
    exact g2.cell j v (by rw [cellAt_of hj]; exact hv)
  · rw [if_neg ha] at hv
    by_cases hb : j < o + l.length
    · rw [if_pos hb, List.getElem?_eq_getElem (by omega)] at hv
      simp only [Option.some.injEq] at hv
      obtain ⟨v', h3, h4⟩ := hl.get (j - o) v (by rw [List.getElem?_eq_getElem (by omega)]; simp [hv])
      rw [if_pos (by omega)]
      exact ⟨v', by rw [show i.shift + j - (i.shift + o + 0) = j - o from by omega]; exact h3, h4⟩
    · rw [if_neg hb] at hv
      rw [if_neg (by omega)]
      exact g2.cell j v (by rw [cellAt_of hj]; exact hv)
/-- what writes, and yields nothing -/
def WuOk (tb : Tabs) (N : Nat) (w0 : World) (E : Env) (m : Mem) (w : World) (m' : Mem) (s : Sem Unit) : Prop :=
  ∃ w' E', s.run tb.p w = .ok () w' ∧ MR tb.p N w0 E' m' w' ∧ MExt m.next E m E' m'
theorem run_storeA (ok : TabsOk tb) (H : MR tb.p N w0 E m w) {t b o : Nat} {i : Info} (hE : E b = some i) {v v' : Value} (hv : VR E v v') {m' : Mem} (h : storeA tb t m b o v = some m') : WuOk tb N w0 E m w m' (storeVar t ⟨i.blk, i.shift + o, none⟩ v') := by
  unfold storeA at h
  obtain ⟨j, hj, h1⟩ := oB_some.1 h
  split at h1 <;> first | (simp at h1; done) | skip
  rename_i hb
  have hb := Nat.eq_of_beq_eq_true hb
  obtain ⟨w', q1, q2, q3⟩ := run_storeCellsA H hE hv.cells h1
  refine ⟨w', E, ?_, q2, q3⟩
  have hlen : v'.cells.size = j.inf.size := by rw [← hb, hv.cells.length]; simp
  simp [storeVar, run_size ok hj, hlen, q1]
/-- the same of what yields nothing -/
def OpResU (tb : Tabs) (N : Nat) (w0 : World) (E : Env) (m : Mem) (w : World) (r : OR) (s : Sem Unit) : Prop :=
  match r with
  | .r _ => False
  | .f _ _ => False
  | .e v m' => v = undef ∧ WuOk tb N w0 E m w m' s
  | .c => True
  | .bad => True
theorem OpResU.of {x : Option Mem} {s : Sem Unit} (h : ∀ m', x = some m' → WuOk tb N w0 E m w m' s) : OpResU tb N w0 E m w (oM x) s := by
  cases x with
  | none => exact trivial
  | some m' => exact ⟨rfl, h m' rfl⟩
theorem run_opStore (ok : TabsOk tb) (H : MR tb.p N w0 E m w) {t : TypeId} {a a' v v' : Value} (ha : VR E a a') (hv : VR E v v') : OpResU tb N w0 E m w (opStore tb t m a v) (Instr.storeAt t a' v') := by
  unfold opStore
  cases ha with
  | @ptr b o i hE =>
    refine OpResU.of fun m' h => ?_
    obtain ⟨w', E', q1, q2, q3⟩ := run_storeA ok H hE hv h
    exact ⟨w', E', by simpa [Instr.storeAt, Instr.sureAddr] using q1, q2, q3⟩
  | _ => exact trivial
/-- elements, read -/
theorem run_firstA (H : MR tb.p N w0 E m w) {sz n k : Nat} (hk : k = n * sz) {x x' : Value} (hx : VR E x x') (hn : ∀ a l c, x = .slice a l c → n ≤ l) {l : List Value} (h : firstA m k n x = some l) : ∃ l', VRs E l l' ∧ ∀ w', w'.heap = w.heap → (Builtin.firstCells sz n x').run tb.p w' = .ok ⟨l'⟩ w' := by
  unfold firstA at h
  split at h
  · rename_i a len c
    have hx' : (∃ i o' c', E a.block = some i ∧ x' = .slice (some ⟨i.blk, o', none⟩) len c' ∧ (len ≠ 0 → o' = i.shift + a.off)) ∨ (len = 0 ∧ ∃ a', x' = .slice (some a') 0 0) := by
      cases hx with
      | sl l c h => exact .inl ⟨_, _, _, ‹E _ = some _›, rfl, fun _ => rfl⟩
      | slX l c h => exact .inl ⟨_, _, _, ‹E _ = some _›, rfl, fun _ => rfl⟩
      | slE0 h hx => exact .inl ⟨_, _, _, ‹E _ = some _›, rfl, fun h => absurd rfl h⟩
      | slE1 h hx => exact .inl ⟨_, _, _, ‹E _ = some _›, rfl, fun h => absurd rfl h⟩
      | slD a b => exact .inr ⟨rfl, _, rfl⟩
    rcases hx' with ⟨i, o', c', hE, rfl, ho⟩ | ⟨rfl, a', rfl⟩
    case inr =>
      split at h
      · rename_i hk
        simp only [Option.some.injEq] at h; subst h
        exact ⟨[], .nil, fun w' _ => by simp [Builtin.firstCells, ← hk, loadCells, loadCellsFrom]⟩
      · exfalso
        rename_i k hk
        have := hn _ _ _ rfl
        have : n = 0 := by omega
        subst this; simp at hk
    split at h
    · simp only [Option.some.injEq] at h; subst h
      exact ⟨[], .nil, fun w' _ => by simp [Builtin.firstCells, ← hk, loadCells, loadCellsFrom]⟩
    · rename_i k
      obtain ⟨r, hr, h1⟩ := oB_some.1 h
      have hl0 : len ≠ 0 := by
        have := hn _ _ _ rfl
        intro e; subst e
        have : n = 0 := by omega
        subst this; simp at hk
      obtain rfl := ho hl0
      obtain ⟨l', q1, q2, q3⟩ := H.cells hE hr h1
      refine ⟨l', q1, fun w' hw' => ?_⟩
      simp only [Builtin.firstCells, ← hk]
      have := run_loadCells_list (P := tb.p) (w := w') ⟨i.blk, i.shift + a.off, none⟩ l' (fun j v hv => by
        rw [add_none]
        have := q3 j v hv
        unfold World.cell? at this ⊢
        rw [hw']; exact this)
      rw [q2] at this; exact this
  · simp only [Option.some.injEq] at h; subst h
    cases hx
    exact ⟨[], .nil, fun _ _ => rfl⟩
  · rename_i s
    simp only [Option.some.injEq] at h; subst h
    cases hx
    refine ⟨u8s (s.data.toList.take n), u8s_self _, fun w' _ => ?_⟩
    simp only [Builtin.firstCells, Sem.run_pure]
    congr 1
    apply Array.ext'
    simp [u8s_eq]
  · simp at h
end
end Go.Ev
namespace Go.Ev
open Go.RowKit

theorem VR.slice_inv {E : Env} {p : Option Addr} {l c : Nat} {x' : Value} (h : VR E (.slice p l c) x') :
    (p = none ∧ x' = .slice none l c) ∨ (∃ a i o' c', p = some a ∧ E a.block = some i ∧ x' = .slice (some ⟨i.blk, o', none⟩) l c' ∧ (l ≠ 0 → o' = i.shift + a.off)) ∨ (∃ a a', p = some a ∧ l = 0 ∧ x' = .slice (some a') 0 0) := by
  cases h with
  | slNil => exact .inl ⟨rfl, rfl⟩
  | sl l c h => exact .inr (.inl ⟨_, _, _, _, rfl, h, rfl, fun _ => rfl⟩)
  | slX l c h => exact .inr (.inl ⟨_, _, _, _, rfl, h, rfl, fun _ => rfl⟩)
  | slE0 h hx => exact .inr (.inl ⟨_, _, _, _, rfl, h, rfl, fun h => absurd rfl h⟩)
  | slE1 h hx => exact .inr (.inl ⟨_, _, _, _, rfl, h, rfl, fun h => absurd rfl h⟩)
  | slD a b => exact .inr (.inr ⟨_, _, rfl, rfl, rfl⟩)
theorem repl_get (z : List Value) : ∀ (n j : Nat), (repl z n)[j]? = if j < n * z.length then z[j % z.length]? else none
  | 0, j => by simp [repl]
  | n + 1, j => by
    have e : (n + 1) * z.length = n * z.length + z.length := by rw [Nat.add_mul, Nat.one_mul]
    rw [e]
    simp only [repl]
    by_cases h : j < z.length
    · rw [List.getElem?_append_left h, if_pos (by omega), Nat.mod_eq_of_lt h]
    · rw [List.getElem?_append_right (by omega), repl_get z n]
      by_cases h2 : j < n * z.length + z.length
      · rw [if_pos (by omega), if_pos h2, ← Nat.mod_eq_sub_mod (by omega)]
      · rw [if_neg (by omega), if_neg h2]
theorem repl_length (z : List Value) : ∀ n, (repl z n).length = n * z.length
  | 0 => by simp [repl]
  | n + 1 => by simp [repl, repl_length z n, Nat.add_mul]; omega
theorem zeroCells_eq (z : Array Value) (n : Nat) : (Builtin.zeroCells z n).toList = repl z.toList n := by
  apply List.ext_getElem?
  intro j
  rw [repl_get]
  simp only [Builtin.zeroCells, Array.toList_map, Array.toList_range, List.getElem?_map, Array.length_toList]
  by_cases h : j < n * z.size
  · rw [if_pos h, List.getElem?_range h]
    have hz : j % z.size < z.size := Nat.mod_lt _ (by
      rcases Nat.eq_zero_or_pos z.size with h0 | h0
      · rw [h0] at h; omega
      · exact h0)
    simp [hz]
  · rw [if_neg h, List.getElem?_eq_none (by simp; omega)]
    rfl
section
variable {tb : Tabs} {N : Nat} {w0 : World} {E : Env} {m : Mem} {w : World}
theorem run_lenOf {P : Program} {x x' : Value} (hx : VR E x x') {n : Nat} (h : lenOfA x = some n) : (Builtin.lenOf x').run P w = .ok n w ∧ ∀ a l c, x = .slice a l c → n = l := by
  unfold lenOfA at h
  split at h
  · simp only [Option.some.injEq] at h; subst h
    rcases hx.slice_inv with ⟨_, rfl⟩ | ⟨a, i, o', c', _, _, rfl, _⟩ | ⟨a, a', _, rfl, rfl⟩
    · exact ⟨rfl, fun a l c e => by cases e; rfl⟩
    · exact ⟨rfl, fun a l c e => by cases e; rfl⟩
    · exact ⟨rfl, fun a l c e => by cases e; rfl⟩
  · simp only [Option.some.injEq] at h; subst h
    cases hx
    exact ⟨rfl, fun a l c e => by cases e⟩
  · simp at h
theorem run_copyA (ok : TabsOk tb) (H : MR tb.p N w0 E m w) {tys : List TypeId} {d d' s s' v : Value} {m' : Mem} (hd : VR E d d') (hs : VR E s s') (h : copyA tb tys m d s = some (v, m')) (ty : TypeId) :
    WrOk tb N w0 E m w v m' (Builtin.copy_ ⟨tys⟩ ty #[d', s']) := by
  unfold copyA at h
  split at h <;> first | (simp at h; done) | skip
  rename_i dt tys'
  obtain ⟨i, hi, h1⟩ := oB_some.1 h
  split at h1 <;> first | (simp at h1; done) | skip
  rename_i elem base dl dc hid
  obtain ⟨e, he, h2⟩ := oB_some.1 h1
  obtain ⟨sl, hsl, h3⟩ := oB_some.1 h2
  obtain ⟨cells, hc, h4⟩ := oB_some.1 h3
  obtain ⟨q1, q2⟩ := run_lenOf (P := tb.p) (w := w) hs hsl
  obtain ⟨cells', r1, r2⟩ := run_firstA H (sz := e.inf.size) (n := Nat.min sl dl) rfl hs (fun a l c ex => by have := q2 a l c ex; have := Nat.min_le_left sl dl; simp only [Nat.min_def] at this ⊢; split <;> omega) hc
  have r2 := r2 w rfl
  have hdef : ∀ x y, Builtin.copy_ ⟨dt :: tys'⟩ ty #[x, y] = (do
      let .slice elem ← underlying dt | stuck "copy: slice type expected"
      let .slice base dLen _ := x | stuck "copy: slice expected"
      let n := Nat.min (← Builtin.lenOf y) dLen
      let cells ← Builtin.firstCells (← sizeOf elem) n y
      if let some a := base then storeCells a cells.toList
      pure (goInt n)) := fun x y => rfl
  have hv : ∀ n : Nat, VR E (vInt .i64 (.ofNat n)) (goInt n) := fun n => by rw [vInt_eq]; exact .int _ _
  rcases hd.slice_inv with ⟨rfl, rfl⟩ | ⟨a, j, o', c', rfl, hE, rfl, ho⟩ | ⟨a, a', rfl, rfl, rfl⟩
  · simp only [Option.some.injEq, Prod.mk.injEq] at h4
    obtain ⟨rfl, rfl⟩ := h4
    refine ⟨_, w, E, ?_, hv _, H, .refl _ _ _⟩
    rw [hdef]
    simp [run_ty ok hi, hid, q1, run_size ok he, r2]
  · cases cells with
    | nil =>
      cases r1
      simp only [Option.some.injEq, Prod.mk.injEq] at h4
      obtain ⟨rfl, rfl⟩ := h4
      refine ⟨_, w, E, ?_, hv _, H, .refl _ _ _⟩
      rw [hdef]
      simp [run_ty ok hi, hid, q1, run_size ok he, r2, storeCells]
    | cons c1 cs =>
      obtain ⟨m1, hm1, h5⟩ := oB_some.1 h4
      simp only [Option.some.injEq, Prod.mk.injEq] at h5
      obtain ⟨rfl, rfl⟩ := h5
      have hl0 : dl ≠ 0 := by
        intro e0; subst e0
        simp only [Nat.min_def] at hc
        rw [show (if sl ≤ 0 then sl else 0) = 0 from by split <;> omega, Nat.zero_mul] at hc
        unfold firstA at hc
        split at hc <;> simp at hc
        simp [u8s] at hc
      obtain rfl := ho hl0
      obtain ⟨w', p1, p2, p3⟩ := run_storeCellsA H hE r1 hm1
      refine ⟨_, w', E, ?_, hv _, p2, p3⟩
      rw [hdef]
      simp [run_ty ok hi, hid, q1, run_size ok he, r2, p1]
  · cases cells with
    | nil =>
      cases r1
      simp only [Option.some.injEq, Prod.mk.injEq] at h4
      obtain ⟨rfl, rfl⟩ := h4
      refine ⟨_, w, E, ?_, hv _, H, .refl _ _ _⟩
      have e0 : Nat.min sl 0 = 0 := by simp only [Nat.min_def]; split <;> omega
      rw [e0] at r2 ⊢
      rw [hdef]
      simp [run_ty ok hi, hid, q1, run_size ok he, e0, r2, storeCells]
    | cons c1 cs =>
      exfalso
      simp only [Nat.min_def] at hc
      rw [show (if sl ≤ 0 then sl else 0) = 0 from by split <;> omega, Nat.zero_mul] at hc
      unfold firstA at hc
      split at hc <;> simp at hc
      simp [u8s] at hc
theorem MR.putMap (H : MR tb.p N w0 E m w) {r : Nat} {i : Info} (hE : E r = some i) {es : List MapEntry} {c : Nat} (hm : mapOf m r = some (es, c)) {es2 es2' : List MapEntry} {c2 : Nat} (h2 : EntR E es2 es2') :
    (setObj i.blk (.map ⟨es2'⟩ c2)).run tb.p w = .ok () { w with heap := w.heap.setIfInBounds i.blk (.map ⟨es2'⟩ c2) } ∧ MR tb.p N w0 E (putObj m r (.map es2 c2)) { w with heap := w.heap.setIfInBounds i.blk (.map ⟨es2'⟩ c2) } := by
  obtain ⟨es', hh, _⟩ := H.map hE hm
  have hlt : i.blk < w.heap.size := (Array.getElem?_eq_some_iff.1 hh).1
  refine ⟨by simp [setObj, Sem.run, hh], ?_⟩
  refine H.put hE (mapOf_some hm) rfl (.inl rfl) (by simp) ?_ rfl rfl rfl fun _ => ⟨_, by simp [hlt], .map h2⟩
  intro k hk
  simp only [Array.getElem?_setIfInBounds]
  rw [if_neg (fun e => hk e.symm)]
theorem run_clearA (ok : TabsOk tb) (H : MR tb.p N w0 E m w) {t : TypeId} {tys : List TypeId} {x x' : Value} {m' : Mem} (hx : VR E x x') (h : clearA tb t m x = some m') (ty : TypeId) :
    WrOk tb N w0 E m w undef m' (Builtin.clear_ ⟨t :: tys⟩ ty #[x']) := by
  have hdef : ∀ x, Builtin.clear_ ⟨t :: tys⟩ ty #[x] = (do
      match ← underlying t, x with
      | _, .map none | _, .slice none _ _ | _, .slice _ 0 _ => pure ()
      | _, .map (some r) =>
        let .map _ clock ← getObj r | stuck "clear: map expected"
        setObj r (.map #[] clock)
      | .slice elem, .slice (some a) n _ =>
        storeCells a (Builtin.zeroCells (← zeroValue elem).cells n).toList
      | _, _ => stuck "clear: map or slice expected"
      pure (.tuple #[])) := fun x => rfl
  unfold clearA at h
  obtain ⟨i, hi, h1⟩ := oB_some.1 h
  rw [hdef]
  cases hx with
  | mapNil =>
    simp only [Option.some.injEq] at h1; subst h1
    exact ⟨undef, w, E, by simp [run_ty ok hi, undef], .undef E, H, .refl _ _ _⟩
  | @map r j hE =>
    obtain ⟨⟨es, c⟩, hm, h2⟩ := oB_some.1 h1
    simp only [Option.some.injEq] at h2; subst h2
    obtain ⟨es', hh, _⟩ := H.map hE hm
    obtain ⟨p1, p2⟩ := H.putMap hE hm (es2 := []) (es2' := []) (c2 := c) .nil
    exact ⟨undef, _, E, by simp [run_ty ok hi, undef, run_getMap hh, p1], .undef E, p2, .put _ hE⟩
  | slNil l c =>
    simp only [Option.some.injEq] at h1; subst h1
    exact ⟨undef, w, E, by simp [run_ty ok hi, undef], .undef E, H, .refl _ _ _⟩
  | slD _ _ =>
    simp only [Option.some.injEq] at h1; subst h1
    exact ⟨undef, w, E, by simp [run_ty ok hi, undef], .undef E, H, .refl _ _ _⟩
  | slE0 h hx =>
    simp only [Option.some.injEq] at h1; subst h1
    exact ⟨undef, w, E, by simp [run_ty ok hi, undef], .undef E, H, .refl _ _ _⟩
  | slE1 h hx =>
    simp only [Option.some.injEq] at h1; subst h1
    exact ⟨undef, w, E, by simp [run_ty ok hi, undef], .undef E, H, .refl _ _ _⟩
  | sl l c hE =>
    cases l with
    | zero =>
      simp only [Option.some.injEq] at h1; subst h1
      exact ⟨undef, w, E, by simp [run_ty ok hi, undef], .undef E, H, .refl _ _ _⟩
    | succ l =>
      simp only at h1
      split at h1 <;> first | (simp at h1; done) | skip
      rename_i el hd
      obtain ⟨j, hj, h2⟩ := oB_some.1 h1
      split at h2 <;> first | (simp at h2; done) | skip
      rename_i z1 zs hz hzc
      obtain ⟨z, g1, g2, g3, g4, _⟩ := ok.zc hj hz
      have hzc' : z.cells.toList = j.zc := by rw [g2]; cases z <;> rfl
      have hrel : VRs E (repl (z1 :: zs) (l + 1)) (Builtin.zeroCells z.cells (l + 1)).toList := by
        rw [zeroCells_eq, hzc', hzc]
        exact VRs.repl (flatVs_self (by rw [← hzc, g2]; exact g3)) _
      obtain ⟨w', p1, p2, p3⟩ := run_storeCellsA H hE hrel h2
      exact ⟨undef, w', E, by simp [run_ty ok hi, undef, hd, run_zero ok hj g1, p1], .undef E, p2, p3⟩
  | slX l c hE =>
    cases l with
    | zero =>
      simp only [Option.some.injEq] at h1; subst h1
      exact ⟨undef, w, E, by simp [run_ty ok hi, undef], .undef E, H, .refl _ _ _⟩
    | succ l =>
      simp only at h1
      split at h1 <;> first | (simp at h1; done) | skip
      rename_i el hd
      obtain ⟨j, hj, h2⟩ := oB_some.1 h1
      split at h2 <;> first | (simp at h2; done) | skip
      rename_i z1 zs hz hzc
      obtain ⟨z, g1, g2, g3, g4, _⟩ := ok.zc hj hz
      have hzc' : z.cells.toList = j.zc := by rw [g2]; cases z <;> rfl
      have hrel : VRs E (repl (z1 :: zs) (l + 1)) (Builtin.zeroCells z.cells (l + 1)).toList := by
        rw [zeroCells_eq, hzc', hzc]
        exact VRs.repl (flatVs_self (by rw [← hzc, g2]; exact g3)) _
      obtain ⟨w', p1, p2, p3⟩ := run_storeCellsA H hE hrel h2
      exact ⟨undef, w', E, by simp [run_ty ok hi, undef, hd, run_zero ok hj g1, p1], .undef E, p2, p3⟩
  | _ => simp at h1
end
end Go.Ev
namespace Go.Ev
open Go.RowKit

theorem growBy_le (need : Nat) : ∀ (r c : Nat), c ≤ need → Builtin.growBy need r c ≤ 2 * need + 192
  | 0, c, h => by simp only [Builtin.growBy]; omega
  | r + 1, c, h => by
    simp only [Builtin.growBy]
    by_cases h0 : c = need
    · rw [if_pos (by omega)]; omega
    rw [if_neg (by omega)]
    by_cases h2 : c + (c + 768) / 4 ≤ need
    · exact growBy_le need r _ h2
    · cases r with
      | zero => simp only [Builtin.growBy]; omega
      | succ r => simp only [Builtin.growBy]; rw [if_pos (by omega)]; omega
theorem nextslicecap_le {need old : Nat} (h : old < need) : Builtin.nextslicecap need old ≤ 2 * need + 192 := by
  unfold Builtin.nextslicecap
  split
  · omega
  · split
    · omega
    · exact growBy_le need 4 old (by omega)
section
variable {tb : Tabs} {N : Nat} {w0 : World} {E : Env} {m : Mem} {w : World}
/-- what is appended: n elements, their cells -/
inductive CntOk (P : Program) (w : World) (xt elem : TypeId) (size : Nat) (x : Value) (n : Nat) (new : List Value) : Prop where
  | z (kd k : IntKind) (h3 : ∀ w, (underlying xt).run P w = .ok (.int kd) w) (hx : x = .int k (n : Int)) (hw : IntKind.i64.wrap (n : Int) = (n : Int)) {inf : TypeInfo} (hi : ∀ w, (typeInfo elem).run P w = .ok inf w)
      (hb : ¬ ((281474976710656 : Int) < (n : Int) * (inf.bytes : Int))) {zv : Value} (hz : ∀ w, (zeroValue elem).run P w = .ok zv w) (h0 : n * size = 0 → new = []) (hn : new = (Builtin.zeroCells zv.cells n).toList)
  | o (d : TypeDesc) (hd : ∀ k, d ≠ .int k) (h3 : ∀ w, (underlying xt).run P w = .ok d w) (hl : ∀ w, (Builtin.lenOf x).run P w = .ok n w) (hf : (Builtin.firstCells size n x).run P w = .ok ⟨new⟩ w) (hf' : (Builtin.firstCells size n x).run P w.drew = .ok ⟨new⟩ w.drew)
set_option maxHeartbeats 4000000 in
theorem append_fits {P : Program} {w w' : World} {st xt elem : TypeId} {tys : List TypeId} {ty : TypeId} {base : Option Addr} {sLen sCap size : Nat} {x : Value} {n : Nat} {new : List Value}
    (h1 : ∀ w, (underlying st).run P w = .ok (.slice elem) w) (h2 : ∀ w, (sizeOf elem).run P w = .ok size w) (hc : CntOk P w xt elem size x n new) (hle : sLen + n ≤ sCap)
    (hs : match base with | some a => (storeCells (a.add (sLen * size)) new).run P w = .ok () w' | none => w' = w) :
    (Builtin.append_ ⟨st :: xt :: tys⟩ ty #[.slice base sLen sCap, x]).run P w = .ok (.slice base (sLen + n) sCap) w' := by
  cases hc with
  | z kd k h3 hx hw hi hb hz h0 hn =>
    subst hx
    have hneg : ¬ ((n : Int) < 0) := by omega
    by_cases hn0 : n * size = 0
    · have hnew := h0 hn0
      rw [hnew] at hs
      have h00 : n = 0 ∨ size = 0 := Nat.mul_eq_zero.1 hn0
      cases base with
      | none => subst hs; simp [Builtin.append_, h1, h2, h3, asInt, asIntOf, hw, hneg, hi, hb, hle, hn0, h00]
      | some a => simp [Builtin.append_, h1, h2, h3, asInt, asIntOf, hw, hneg, hi, hb, hle, hn0, h00, hs]
    · have h00 : ¬ (n = 0 ∨ size = 0) := fun h => hn0 (Nat.mul_eq_zero.2 h)
      rw [hn] at hs
      cases base with
      | none =>
        subst hs
        simp [Builtin.append_, h1, h2, h3, asInt, asIntOf, hw, hneg, hi, hb, hle, h00, hz]
        try (intro h; exact absurd h hn0)
      | some a =>
        simp only at hs
        simp [Builtin.append_, h1, h2, h3, asInt, asIntOf, hw, hneg, hi, hb, hle, h00, hz, hs]
        intro h; exact absurd h hn0
  | o d hd h3 hl hf hf' =>
    cases base with
    | none => subst hs; cases d <;> first | (exact absurd rfl (hd _)) | simp [Builtin.append_, h1, h2, h3, hl, hf, hle]
    | some a => cases d <;> first | (exact absurd rfl (hd _)) | simp [Builtin.append_, h1, h2, h3, hl, hf, hle, hs]
set_option maxHeartbeats 4000000 in
theorem append_grow {P : Program} {w : World} {st xt elem : TypeId} {tys : List TypeId} {ty : TypeId} {base : Option Addr} {sLen sCap size : Nat} {x : Value} {n : Nat} {old new : List Value}
    (h1 : ∀ w, (underlying st).run P w = .ok (.slice elem) w) (h2 : ∀ w, (sizeOf elem).run P w = .ok size w) (hc : CntOk P w xt elem size x n new) (hgt : ¬ sLen + n ≤ sCap)
    {inf : TypeInfo} (hi : ∀ w, (typeInfo elem).run P w = .ok inf w) (hb0 : inf.bytes ≠ 0) (hmax : sLen + n < 9223372036854775808) (hcap : ¬ 281474976710656 < Builtin.nextslicecap (sLen + n) sCap * inf.bytes)
    {zv : Value} (hz : ∀ w, (zeroValue elem).run P w = .ok zv w) (hold : (Builtin.firstCells size sLen (.slice base sLen sCap)).run P w.drew = .ok ⟨old⟩ w.drew) :
    ∃ q, (Builtin.append_ ⟨st :: xt :: tys⟩ ty #[.slice base sLen sCap, x]).run P w = .ok (.slice (some ⟨w.heap.size, 0, none⟩) (sLen + n) (sLen + n + q))
      { w with drawn := w.drawn + 1, heap := w.heap.push (.cells ⟨old ++ new ++ repl zv.cells.toList q⟩ elem) } := by
  have hfo : (Question.appendCap (sLen + n) sCap elem).forced = false := rfl
  generalize hq : w.tape w.drawn (.appendCap (sLen + n) sCap elem) % (2 ^ 63 - (sLen + n)) = q
  have hcut : (Question.appendCap (sLen + n) sCap elem).cut (w.tape w.drawn (.appendCap (sLen + n) sCap elem)) = sLen + n + q := by
    show (sLen + n) + _ % (2 ^ 63 - (sLen + n)) = _
    rw [hq]
  have hrest : (⟨old ++ new ++ repl zv.cells.toList q⟩ : Array Value) = (⟨old⟩ : Array Value) ++ ((⟨new⟩ : Array Value) ++ Builtin.zeroCells zv.cells q) := by
    apply Array.ext'
    simp [zeroCells_eq]
  have hi63 : ¬ ((9223372036854775807 : Int) < (sLen : Int) + (n : Int)) := by omega
  refine ⟨q, ?_⟩
  rw [hrest]
  cases hc with
  | @z kd k h3 hx hw inf2 hi2 hb zv2 hz2 h0 hn =>
    subst hx
    obtain rfl : inf2 = inf := by have := (hi2 w).symm.trans (hi w); simpa using this
    obtain rfl : zv2 = zv := by have := (hz2 w).symm.trans (hz w); simpa using this
    have hneg : ¬ ((n : Int) < 0) := by omega
    have hnew1 : (⟨new⟩ : Array Value) = Builtin.zeroCells zv2.cells n := by rw [hn]
    rw [hnew1]
    by_cases hn0 : n * size = 0
    · have hnew := h0 hn0
      have h00 : n = 0 ∨ size = 0 := Nat.mul_eq_zero.1 hn0
      have he : Builtin.zeroCells zv2.cells n = #[] := by rw [← hnew1, hnew]
      rw [he]
      simp [Builtin.append_, h1, h2, h3, asInt, asIntOf, hw, hneg, hi, hb, hgt, hn0, h00, hi63, hcap, hfo, hcut, hold, hz, newRow]
      rfl
    · have h00 : ¬ (n = 0 ∨ size = 0) := fun h => hn0 (Nat.mul_eq_zero.2 h)
      simp [Builtin.append_, h1, h2, h3, asInt, asIntOf, hw, hneg, hi, hb, hgt, h00, hi63, hcap, hfo, hcut, hold, hz, newRow, hn0]
      rfl
  | o d hd h3 hl hf hf' =>
    cases d <;> first | (exact absurd rfl (hd _)) | (simp [Builtin.append_, h1, h2, h3, hl, hf, hf', hgt, hi, hb0, hi63, hcap, hfo, hcut, hold, hz, newRow]; rfl)
end
end Go.Ev
