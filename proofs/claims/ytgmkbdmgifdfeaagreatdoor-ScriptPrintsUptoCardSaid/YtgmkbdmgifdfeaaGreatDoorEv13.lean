/- Slices of ours, drawn regions, closed calls. -/
import Derived.Test.YtgmkbdmgifdfeaaGreatDoorEv12
set_option linter.unusedSimpArgs false
set_option linter.unusedVariables false
namespace Go.Ev
open Go.RowKit

/-- a slot -/
def gx : List Value → Nat → Value
  | [], _ => undef
  | x :: _, 0 => x
  | _ :: l, n + 1 => gx l n
theorem gx_c0 (x : Value) (l : List Value) : gx (x :: l) 0 = x := _root_.id rfl
theorem gx_cs (x : Value) (l : List Value) (n : Nat) : gx (x :: l) (n + 1) = gx l n := _root_.id rfl
theorem gx_eq : ∀ (l : List Value) (n : Nat), l.getD n undef = gx l n
  | [], n => by simp [gx]
  | x :: l, 0 => rfl
  | x :: l, n + 1 => by rw [List.getD_cons_succ]; exact gx_eq l n
theorem gx_set {l : List Value} {n : Nat} {v : Value} (h : n < l.length) : gx (l.set n v) n = v := by
  rw [← gx_eq]; simp [List.getD_eq_getElem?_getD, h]
theorem gx_set_ne {l : List Value} {n k : Nat} {v : Value} (h : n ≠ k) : gx (l.set n v) k = gx l k := by
  rw [← gx_eq, ← gx_eq]; simp [List.getD_eq_getElem?_getD, List.getElem?_set, h]
section
variable (tb : Tabs)
noncomputable def resX (rs : List ResultVar) (l : List Value) (m : Mem) : Option Value :=
  match resA tb (T.ofList l) m rs with
  | some [v] => some v
  | some vs => some (.tuple ⟨vs⟩)
  | none => none
/-- what a body is left with -/
def endX (rs : List ResultVar) (R : OutA → Mem → Prop) : PostA
  | .normal, l, ds, m => ds = [] ∧ ∃ v, resX tb rs l m = some v ∧ R (.ret v) m
  | .jump .ret, l, ds, m => ds = [] ∧ ∃ v, resX tb rs l m = some v ∧ R (.ret v) m
  | .pan ch, _, ds, m => ds = [] ∧ R (.pan ch) m
  | _, _, _, _ => False
def retR (P : Value → Mem → Prop) : OutA → Mem → Prop
  | .ret v, m => P v m
  | .pan _, _ => False
variable {tb}
variable {F : FC} {l : List Value} {ds : List Deferred} {m : Mem} {Q : PostA}
theorem endX_ret (rs : List ResultVar) (R : OutA → Mem → Prop) : endX tb rs R (.jump .ret) l ds m = (ds = [] ∧ ∃ v, resX tb rs l m = some v ∧ R (.ret v) m) := _root_.id rfl
theorem endX_normal (rs : List ResultVar) (R : OutA → Mem → Prop) : endX tb rs R .normal l ds m = (ds = [] ∧ ∃ v, resX tb rs l m = some v ∧ R (.ret v) m) := _root_.id rfl
theorem endX_pan (rs : List ResultVar) (R : OutA → Mem → Prop) (ch : List PanicEntry) : endX tb rs R (.pan ch) l ds m = (ds = [] ∧ R (.pan ch) m) := _root_.id rfl
theorem thenA_normal (N : List Value → List Deferred → Mem → Prop) : thenA N Q .normal l ds m = N l ds m := _root_.id rfl
theorem thenA_jump (N : List Value → List Deferred → Mem → Prop) (c : Code) : thenA N Q (.jump c) l ds m = Q (.jump c) l ds m := _root_.id rfl
theorem thenA_pan (N : List Value → List Deferred → Mem → Prop) (c : List PanicEntry) : thenA N Q (.pan c) l ds m = Q (.pan c) l ds m := _root_.id rfl
theorem blockA_normal (id : Nat) : blockA id Q .normal l ds m = Q .normal l ds m := _root_.id rfl
theorem blockA_pan (id : Nat) (c : List PanicEntry) : blockA id Q (.pan c) l ds m = Q (.pan c) l ds m := _root_.id rfl
theorem blockA_ret (id : Nat) : blockA id Q (.jump .ret) l ds m = Q (.jump .ret) l ds m := _root_.id rfl
theorem blockA_exit (id i : Nat) : blockA id Q (.jump (.exit i)) l ds m = if i = id then Q .normal l ds m else Q (.jump (.exit i)) l ds m := _root_.id rfl
theorem retR_ret (P : Value → Mem → Prop) (v : Value) : retR P (.ret v) m = P v m := _root_.id rfl
theorem retR_pan (P : Value → Mem → Prop) (c : List PanicEntry) : retR P (.pan c) m = False := _root_.id rfl
theorem resX_nil : resX tb [] l m = some (.tuple ⟨[]⟩) := _root_.id rfl
theorem resX_one (i : Nat) : resX tb [.tmp i] l m = some (gx l i) := by
  rw [← gx_eq]
  have := slots_ofList l i
  simp only [ev] at this
  simp only [resX, resA, oB, this]
theorem resX_two (i j : Nat) : resX tb [.tmp i, .tmp j] l m = some (.tuple ⟨[gx l i, gx l j]⟩) := by
  rw [← gx_eq, ← gx_eq]
  have h1 := slots_ofList l i
  have h2 := slots_ofList l j
  simp only [ev] at h1 h2
  simp only [resX, resA, oB, h1, h2]
theorem callsZ {f : FuncId} {fd : Func} {c : Code} {s : SCode} {n : Nat} {rs : List ResultVar} {args : List Value} {R : OutA → Mem → Prop} (hf : tb.funcs.get f = some fd) (hb : fd.body = some c) (hs : strip c = s) (hn : fd.ntmps = n) (hr : fd.results.toList = rs)
    (h : wpX tb ⟨f, .normal, none⟩ s (args ++ List.replicate (n - args.length) undef) [] m (endX tb rs R)) : CallsA tb f args m R := by
  subst hn; subst hr
  refine callsX hf hb hs (h.mono fun e l' ds' m' h => ?_)
  cases e with
  | normal => exact h
  | jump c => cases c <;> exact h
  | pan ch => exact h
theorem callsY {f : FuncId} {fd : Func} {c : Code} {n : Nat} {rs : List ResultVar} {args : List Value} {R : OutA → Mem → Prop} (hf : tb.funcs.get f = some fd) (hb : fd.body = some c) (hn : fd.ntmps = n) (hr : fd.results.toList = rs)
    (h : wpX tb ⟨f, .normal, none⟩ (strip c) (args ++ List.replicate (n - args.length) undef) [] m (endX tb rs R)) : CallsA tb f args m R := by
  subst hn; subst hr
  refine callsX hf hb rfl (h.mono fun e l' ds' m' h => ?_)
  cases e with
  | normal => exact h
  | jump c => cases c <;> exact h
  | pan ch => exact h
theorem xcall {f : FuncId} {first cap args : List Value} {R : OutA → Mem → Prop} {K : Value → List Deferred → Mem → Prop} {PK : List PanicEntry → Mem → Prop} (hov : tb.ov.get f = none) (h : CallsA tb f (first ++ args ++ cap) m R)
    (k : ∀ v m', R (.ret v) m' → K v ds m') (pk : ∀ ch m', R (.pan ch) m' → PK ch m') : wpNext tb (callValue tb (.func (.func f) ⟨first⟩ ⟨cap⟩) args m) ds m K PK := by
  have e : callValue tb (.func (.func f) ⟨first⟩ ⟨cap⟩) args m = .enter f (first ++ args ++ cap) := by
    obtain ⟨g, hg, _⟩ := h
    unfold enterF at hg
    split at hg <;> first | (simp at hg; done) | skip
    rename_i fn hfn
    split at hg <;> first | (simp at hg; done) | skip
    rename_i c hc
    simp only [callValue, invokeA, callF, hov, hfn, hc]
  rw [e]
  refine CallsA.mono h fun o m' ho => ?_
  cases o with
  | ret v => exact k _ _ ho
  | pan ch => exact pk _ _ ho
theorem wpCallX_call (f : Operand) (args : Array Operand) (tys : Array TypeId) (ty : TypeId) (K : Value → List Deferred → Mem → Prop) (PK : List PanicEntry → Mem → Prop) :
    wpCallX tb F (.call ⟨.value f, args, tys⟩) ty l ds m K PK = wpNext tb (callValue tb (evL l f) (evsL l args.toList) m) ds m K PK := _root_.id rfl
theorem wpCallX_panic (x : Operand) (ty : TypeId) (K : Value → List Deferred → Mem → Prop) (PK : List PanicEntry → Mem → Prop) :
    wpCallX tb F (.panic x) ty l ds m K PK = (isIface (evL l x) = true ∧ PK [{ v := evL l x, recovered := false }] m) := _root_.id rfl
/-! ### regions, one after the other -/
variable (tb)
noncomputable def wpS (F : FC) (Q : PostA) (d : Option Tmp) (op : Op) (ty : TypeId) (os : List SOp) (r : OR) (l : List Value) (ds : List Deferred) (m : Mem) : Prop := match r with
  | .r v => wpR tb F Q os (setSl d v l) ds m
  | .f ob mk => wpR tb F Q os (setSl d (mk m.next) l) ds (newObjA m ob)
  | .e v m' => wpR tb F Q os (setSl d v l) ds m'
  | .c => wpCallX tb F op ty l ds m (fun v ds m => wpR tb F Q os (setSl d v l) ds m) (fun ch m => Q (.pan ch) l ds m)
  | .bad => False
noncomputable def wpG (F : FC) (Q : PostA) (d : Option Tmp) (op : Op) (ty : TypeId) (os : List SOp) (w : Bool) (l : List Value) (ds : List Deferred) (m : Mem) : Prop := match w with
  | false => wpR tb F Q os (setSl d undef l) ds m
  | true => wpS tb F Q d op ty os (opA op tb (T.ofList l) m) l ds m
variable {tb}
theorem wpR_cons (d : Option Tmp) (op : Op) (ty : TypeId) (g : SG) (os : List SOp) : wpR tb F Q (⟨d, op, ty, g⟩ :: os) l ds m = (dstB d l.length = true ∧ wpG tb F Q d op ty os (wantX l g) l ds m) := _root_.id rfl
theorem wpG_true (d : Option Tmp) (op : Op) (ty : TypeId) (os : List SOp) : wpG tb F Q d op ty os true l ds m = wpS tb F Q d op ty os (opA op tb (T.ofList l) m) l ds m := _root_.id rfl
theorem wpG_false (d : Option Tmp) (op : Op) (ty : TypeId) (os : List SOp) : wpG tb F Q d op ty os false l ds m = wpR tb F Q os (setSl d undef l) ds m := _root_.id rfl
theorem wpS_r (d : Option Tmp) (op : Op) (ty : TypeId) (os : List SOp) (v : Value) : wpS tb F Q d op ty os (.r v) l ds m = wpR tb F Q os (setSl d v l) ds m := _root_.id rfl
theorem wpS_f (d : Option Tmp) (op : Op) (ty : TypeId) (os : List SOp) (ob : AObj) (mk : Nat → Value) : wpS tb F Q d op ty os (.f ob mk) l ds m = wpR tb F Q os (setSl d (mk m.next) l) ds (newObjA m ob) := _root_.id rfl
theorem wpS_e (d : Option Tmp) (op : Op) (ty : TypeId) (os : List SOp) (v : Value) (m' : Mem) : wpS tb F Q d op ty os (.e v m') l ds m = wpR tb F Q os (setSl d v l) ds m' := _root_.id rfl
theorem wpS_c (d : Option Tmp) (op : Op) (ty : TypeId) (os : List SOp) : wpS tb F Q d op ty os .c l ds m = wpCallX tb F op ty l ds m (fun v ds m => wpR tb F Q os (setSl d v l) ds m) (fun ch m => Q (.pan ch) l ds m) := _root_.id rfl
theorem wpR_nil : wpR tb F Q [] l ds m = Q .normal l ds m := _root_.id rfl
theorem dB_some (d n : Nat) : dstB (some d) n = decide (d < n) := by
  unfold dstB
  rw [Bool.eq_iff_iff, Nat.blt_eq]; simp
theorem dB_none (n : Nat) : dstB none n = true := _root_.id rfl
theorem wX_no : wantX l .no = true := _root_.id rfl
theorem wX_on (d : Nat) (w : Bool) : wantX l (.on d w) = isB (gx l d) w := by rw [← gx_eq]; rfl
theorem evL_tmp' (i : Nat) : evL l (.tmp i) = gx l i := by rw [← gx_eq]; exact evL_tmp i
theorem isB_bool (b w : Bool) : isB (.bool b) w = (b == w) := _root_.id rfl
theorem setSl_some (d : Nat) (v : Value) : setSl (some d) v l = l.set d v := _root_.id rfl
theorem setSl_none (v : Value) : setSl none v l = l := _root_.id rfl
theorem oR_some (v : Value) : oR (some v) = .r v := _root_.id rfl
theorem oE_some (v : Value) : oE (some (v, m)) = .e v m := _root_.id rfl
theorem nil_ptr (a : Addr) : opNilCheck (.pointer (some a)) = .r (.pointer (some a)) := _root_.id rfl
theorem pick_bool (c : Bool) (a b : Value) : opPick (.bool c) a b = .r (if c then a else b) := by cases c <;> rfl
theorem oB_some' {α β : Type} (a : α) (f : α → Option β) : oB (some a) f = f a := _root_.id rfl
/-! ### places by whole numbers -/
theorem ia_slice (t : TypeId) (k : IntKind) (z : Int) (b o : Nat) (s : Option Nat) (n c : Nat) : indexAddrA tb t (.slice (some ⟨b, o, s⟩) n c) (.int k z) = oB (ti tb t) fun i => match i.d with
    | .slice elem => if 0 ≤ z ∧ z.toNat < n then oB (ti tb elem) fun e => some (.pointer (some ⟨b, o + z.toNat * e.inf.size, none⟩)) else none
    | _ => none := by
  cases z with
  | ofNat j =>
    show indexAddrA tb t (.slice (some ⟨b, o, s⟩) n c) (.int k (.ofNat j)) = _
    simp only [indexAddrA, addA, Int.ofNat_eq_natCast, Int.natCast_nonneg, Int.toNat_natCast, true_and]
    congr 1
    funext i
    obtain ⟨d, inf, agg, zc, hz, fl, gd, hl⟩ := i
    cases d <;> simp only
    by_cases h : j < n
    · have hb : Nat.blt j n = true := by rw [Nat.blt_eq]; exact h
      simp only [hb, if_pos h]
    · have hb : Nat.blt j n = false := by
        cases hb : Nat.blt j n with
        | false => rfl
        | true => rw [Nat.blt_eq] at hb; exact absurd hb h
      simp only [hb, if_neg h]
  | negSucc j =>
    have : ¬ (0 ≤ Int.negSucc j ∧ (Int.negSucc j).toNat < n) := by omega
    simp only [indexAddrA, if_neg this]
    cases ti tb t with
    | none => rfl
    | some i => simp only [oB]; split <;> rfl
theorem ia_str (t : TypeId) (k : IntKind) (z : Int) (s : ByteArray) : indexA tb t (.string s) (.int k z) = oB (ti tb t) fun i => match i.d with
    | .string => if 0 ≤ z then (match s.data.toList[z.toNat]? with | some b => some (.int .u8 (b.toNat : Int)) | none => none) else none
    | _ => none := by
  cases z with
  | ofNat j =>
    simp only [indexA, Int.ofNat_eq_natCast, Int.natCast_nonneg, Int.toNat_natCast, if_true, byteV, fNat_eq]
    congr 1
    funext i
    obtain ⟨d, inf, agg, zc, hz, fl, gd, hl⟩ := i
    cases d <;> rfl
  | negSucc j =>
    have : ¬ (0 ≤ Int.negSucc j) := by omega
    simp only [indexA, if_neg this]
    cases ti tb t with
    | none => rfl
    | some i => simp only [oB]; split <;> rfl
theorem ia_agg (t : TypeId) (k : IntKind) (z : Int) (cs : Array Value) : indexA tb t (.agg cs) (.int k z) = oB (ti tb t) fun i => match i.d with
    | .array len elem => if 0 ≤ z ∧ z.toNat < len then oB (ti tb elem) fun e => partA tb elem cs.toList (z.toNat * e.inf.size) else none
    | _ => none := by
  cases z with
  | ofNat j =>
    simp only [indexA, Int.ofNat_eq_natCast, Int.natCast_nonneg, Int.toNat_natCast, true_and]
    congr 1
    funext i
    obtain ⟨d, inf, agg, zc, hz, fl, gd, hl⟩ := i
    cases d <;> simp only
    rename_i len elem
    by_cases h : j < len
    · have hb : Nat.blt j len = true := by rw [Nat.blt_eq]; exact h
      simp only [hb, if_pos h]
    · have hb : Nat.blt j len = false := by
        cases hb : Nat.blt j len with
        | false => rfl
        | true => rw [Nat.blt_eq] at hb; exact absurd hb h
      simp only [hb, if_neg h]
  | negSucc j =>
    have : ¬ (0 ≤ Int.negSucc j ∧ (Int.negSucc j).toNat < j) := by omega
    simp only [indexA]
    cases ti tb t with
    | none => rfl
    | some i =>
      simp only [oB]
      split
      · rw [if_neg (by omega)]
      · rfl
theorem cv_int (s d : TypeId) (k : IntKind) (n : Int) : opConv tb m s d (.int k n) = match ti tb s, ti tb d with
    | some _, some j => match j.d with | .int q => .r (.int q (q.wrap n)) | _ => .bad
    | _, _ => .bad := by
  unfold opConv
  cases ti tb s <;> cases ti tb d <;> try rfl
  rename_i i j
  obtain ⟨jd, inf, agg, zc, hz, fl, gd, hl⟩ := j
  simp only
  cases jd <;> simp only [vInt_eq, wrapF_eq]
theorem lo_nil (c : T Value) (i : Nat) : listOf c [] i = [] := _root_.id rfl
theorem lo_cons (c : T Value) (z : Value) (zs : List Value) (i : Nat) : listOf c (z :: zs) i = (match c.get i with | some v => v | none => z) :: listOf c zs (i + 1) := _root_.id rfl
theorem bound_eq (k : IntKind) (z : Int) (y : Nat) : bound (.int k z) y = if 0 ≤ z ∧ z.toNat ≤ y then some z.toNat else none := by
  cases z with
  | ofNat j =>
    simp only [bound, Int.ofNat_eq_natCast, Int.natCast_nonneg, Int.toNat_natCast, true_and]
    by_cases h : j ≤ y
    · have hb : Nat.ble j y = true := by rw [Nat.ble_eq]; exact h
      simp only [hb, if_pos h]
    · have hb : Nat.ble j y = false := by
        cases hb : Nat.ble j y with
        | false => rfl
        | true => rw [Nat.ble_eq] at hb; exact absurd hb h
      simp only [hb, if_neg h]
  | negSucc j =>
    have : ¬ (0 ≤ Int.negSucc j ∧ (Int.negSucc j).toNat ≤ y) := by omega
    simp only [bound, if_neg this]
theorem fits_eq (a : Option Addr) (sl sc n b : Nat) : appendFits (.slice a sl sc) n b = decide ((sl + n + 1000) * b ≤ 17592186044416) := by
  unfold appendFits
  rw [Bool.eq_iff_iff, Nat.ble_eq]; simp
theorem len_slice (t : TypeId) (a : Option Addr) (n c : Nat) : lenA tb t m (.slice a n c) = oB (ti tb t) fun i => match i.d with | .slice _ => some (.int .i64 (n : Int)) | _ => none := by
  simp only [lenA, vInt_eq]; rfl
theorem len_str (t : TypeId) (s : ByteArray) : lenA tb t m (.string s) = oB (ti tb t) fun i => match i.d with | .string => some (.int .i64 (s.data.toList.length : Int)) | _ => none := by
  simp only [lenA, vInt_eq]; rfl
/-! ### slices of slices -/
noncomputable def slX (tb : Tabs) (t : TypeId) (m : Mem) (x : Value) (lo hi mx : Option Value) : Option Value := sliceA tb t m x lo hi mx
noncomputable def slW (tb : Tabs) (t : TypeId) (m : Mem) (b o : Nat) (s : Option Nat) (len cap : Nat) (lo hi mx : Option Value) : Option TI → Option Vw → Option Value
  | some i, some V => match i.d with
    | .slice elem => oB (bounds3 len cap lo hi mx) fun (l, h, q) => oB (ti tb elem) fun e => slExt V.ext ⟨b, o, s⟩ mx l h q e.inf.size
    | _ => slX tb t m (.slice (some ⟨b, o, s⟩) len cap) lo hi mx
  | _, _ => slX tb t m (.slice (some ⟨b, o, s⟩) len cap) lo hi mx
theorem sl_W (t : TypeId) (b o : Nat) (s : Option Nat) (len cap : Nat) (lo hi mx : Option Value) : sliceA tb t m (.slice (some ⟨b, o, s⟩) len cap) lo hi mx = slW tb t m b o s len cap lo hi mx (ti tb t) (vw m b) := by
  unfold slW
  split
  · rename_i i V hi hv
    obtain ⟨r, h1, h2, h3, h4, _⟩ := vw_spec hv
    split
    · rename_i e he
      simp only [sliceA, hi, oB, he, h1, h4]
    · rfl
  · rfl
theorem slW_some (t : TypeId) (b o : Nat) (s : Option Nat) (len cap : Nat) (lo hi mx : Option Value) (i : TI) (V : Vw) : slW tb t m b o s len cap lo hi mx (some i) (some V) = match i.d with
    | .slice elem => oB (bounds3 len cap lo hi mx) fun (l, h, q) => oB (ti tb elem) fun e => slExt V.ext ⟨b, o, s⟩ mx l h q e.inf.size
    | _ => slX tb t m (.slice (some ⟨b, o, s⟩) len cap) lo hi mx := _root_.id rfl
theorem sl_nil (t : TypeId) (len cap : Nat) (lo hi mx : Option Value) : sliceA tb t m (.slice none len cap) lo hi mx = oB (ti tb t) fun i => match i.d with
    | .slice elem => oB (bounds3 len cap lo hi mx) fun (l, h, q) => oB (ti tb elem) fun _ => some (.slice none (h - l) (q - l))
    | _ => none := by
  simp only [sliceA]
  congr 1; funext i
  obtain ⟨d, inf, agg, zc, hz, fl, gd, hl⟩ := i
  cases d <;> rfl
theorem sl_str (t : TypeId) (s : ByteArray) (lo hi : Option Value) : sliceA tb t m (.string s) lo hi none = oB (ti tb t) fun i => match i.d with
    | .string => slStr s lo hi
    | _ => none := by
  simp only [sliceA]
  congr 1; funext i
  obtain ⟨d, inf, agg, zc, hz, fl, gd, hl⟩ := i
  cases d <;> rfl
/-! ### appending, by what the row shows -/
noncomputable def fiX (m : Mem) (k n : Nat) (x : Value) : Option (List Value) := firstA m k n x
noncomputable def fiW (m : Mem) (k n b o : Nat) (s : Option Nat) (l c : Nat) : Option Vw → Option (List Value)
  | some V => if k = 0 ∨ o + k ≤ V.cs.length then some (takeN V.cs o k) else fiX m k n (.slice (some ⟨b, o, s⟩) l c)
  | none => fiX m k n (.slice (some ⟨b, o, s⟩) l c)
theorem fi_W (k n b o : Nat) (s : Option Nat) (l c : Nat) : firstA m k n (.slice (some ⟨b, o, s⟩) l c) = fiW m k n b o s l c (vw m b) := by
  unfold fiW
  split
  · rename_i V hv
    split
    · rename_i h; exact fi_slice n hv h
    · rfl
  · rfl
theorem fiW_some (k n b o : Nat) (s : Option Nat) (l c : Nat) (V : Vw) : fiW m k n b o s l c (some V) = if k = 0 ∨ o + k ≤ V.cs.length then some (takeN V.cs o k) else fiX m k n (.slice (some ⟨b, o, s⟩) l c) := _root_.id rfl
theorem fi_nil (k n l c : Nat) : firstA m k n (.slice none l c) = some [] := by cases k <;> rfl
theorem fi_str (k n : Nat) (s : ByteArray) : firstA m k n (.string s) = some (u8s (s.data.toList.take n)) := _root_.id rfl
noncomputable def atX (m : Mem) (e : TypeId) (sz : Nat) (x : Value) (n : Nat) (new : List Value) : Option (Value × Mem) := appendTo m e sz x n new
noncomputable def growM (m : Mem) (ob : Option Nat) (e : TypeId) (cells : List Value) : Mem := newObjA (match ob with | some b => putObj m b .dead | none => m) (rowObj e cells .none true)
noncomputable def atW (m : Mem) (e : TypeId) (sz b o : Nat) (s : Option Nat) (sl sc n : Nat) (new : List Value) : Option Vw → Option (Value × Mem)
  | some V =>
    if sl + n ≤ sc then
      (if new.isEmpty = true then (if n = 0 then some (.slice (some ⟨b, o, s⟩) sl sc, m) else atX m e sz (.slice (some ⟨b, o, s⟩) sl sc) n new)
       else if stOk V (o + sl * sz) new = true then some (.slice (some ⟨b, o, s⟩) (sl + n) sc, stM m b (o + sl * sz) new) else atX m e sz (.slice (some ⟨b, o, s⟩) sl sc) n new)
    else if V.ext = false ∧ (sl * sz = 0 ∨ o + sl * sz ≤ V.cs.length) then some (.slice (some ⟨m.next, 0, none⟩) (sl + n) (sl + n), growM m none e (takeN V.cs o (sl * sz) ++ new))
    else if V.ext = true ∧ V.w = true ∧ s = none ∧ sl ≤ sc ∧ o + sc * sz = V.cs.length ∧ V.elem = e ∧ new.length = n * sz ∧ new.all oneC = true then
      some (.slice (some ⟨m.next, 0, none⟩) (sl + n) (sl + n), growM m (some b) e (takeN V.cs o (sl * sz) ++ new))
    else atX m e sz (.slice (some ⟨b, o, s⟩) sl sc) n new
  | none => atX m e sz (.slice (some ⟨b, o, s⟩) sl sc) n new
theorem at_W (e : TypeId) (sz b o : Nat) (s : Option Nat) (sl sc n : Nat) (new : List Value) : appendTo m e sz (.slice (some ⟨b, o, s⟩) sl sc) n new = atW m e sz b o s sl sc n new (vw m b) := by
  unfold atW
  split
  · rename_i V hv
    split
    · rename_i h
      split
      · rename_i hn
        obtain rfl := List.isEmpty_iff.1 hn
        split
        · rename_i h0; subst h0; exact ap_zero e sz h
        · rfl
      · rename_i hn
        split
        · rename_i hs; exact ap_in e sz n new hv (fun e => hn (by rw [e]; rfl)) h hs
        · rfl
    · rename_i h
      split
      · rename_i h2; exact ap_fix e sz n new s hv h2.1 (by omega) h2.2
      · split
        · rename_i h2
          obtain ⟨h3, h4, rfl, h6, h7, h8, h9, h10⟩ := h2
          exact ap_grow e sz n new hv h3 h4 (by omega) h7 h8 h9 h10 h6
        · rfl
  · rfl
theorem atW_some (e : TypeId) (sz b o : Nat) (s : Option Nat) (sl sc n : Nat) (new : List Value) (V : Vw) : atW m e sz b o s sl sc n new (some V) = 
    if sl + n ≤ sc then
      (if new.isEmpty = true then (if n = 0 then some (.slice (some ⟨b, o, s⟩) sl sc, m) else atX m e sz (.slice (some ⟨b, o, s⟩) sl sc) n new)
       else if stOk V (o + sl * sz) new = true then some (.slice (some ⟨b, o, s⟩) (sl + n) sc, stM m b (o + sl * sz) new) else atX m e sz (.slice (some ⟨b, o, s⟩) sl sc) n new)
    else if V.ext = false ∧ (sl * sz = 0 ∨ o + sl * sz ≤ V.cs.length) then some (.slice (some ⟨m.next, 0, none⟩) (sl + n) (sl + n), growM m none e (takeN V.cs o (sl * sz) ++ new))
    else if V.ext = true ∧ V.w = true ∧ s = none ∧ sl ≤ sc ∧ o + sc * sz = V.cs.length ∧ V.elem = e ∧ new.length = n * sz ∧ new.all oneC = true then
      some (.slice (some ⟨m.next, 0, none⟩) (sl + n) (sl + n), growM m (some b) e (takeN V.cs o (sl * sz) ++ new))
    else atX m e sz (.slice (some ⟨b, o, s⟩) sl sc) n new := _root_.id rfl
theorem ap_first' (e : TypeId) (sz n : Nat) (new : List Value) : appendTo m e sz (.slice none 0 0) (n + 1) new = some (.slice (some ⟨m.next, 0, none⟩) (n + 1) (n + 1), growM m none e new) := _root_.id rfl
theorem growM_next (ob : Option Nat) (e : TypeId) (cells : List Value) : (growM m ob e cells).next = m.next + 1 := by cases ob <;> rfl
theorem vw_growM (ob : Option Nat) (e : TypeId) (cells : List Value) (x : Nat) : vw (growM m ob e cells) x = if x = m.next then some ⟨true, e, true, cells⟩ else if some x = ob then none else vw m x := by
  unfold growM
  cases ob with
  | none => simp only [vw_new, vwO_rowObj]; split <;> simp_all
  | some b =>
    simp only [vw_new, vwO_rowObj, next_putObj, vw_put, Option.some.injEq]
    split
    · rfl
    · split <;> rfl
/-! ### what is as it was -/
/-- what stood below 'n' stands -/
def Old (n : Nat) (m m' : Mem) : Prop := m.next ≤ m'.next ∧ ∀ x, x < n → m'.objs.get x = m.objs.get x
theorem Old.refl (n : Nat) (m : Mem) : Old n m m := ⟨Nat.le_refl _, fun _ _ => rfl⟩
theorem Old.trans {n : Nat} {a b c : Mem} (h : Old n a b) (k : Old n b c) : Old n a c := ⟨Nat.le_trans h.1 k.1, fun x hx => (k.2 x hx).trans (h.2 x hx)⟩
theorem Old.le {n k : Nat} {a b : Mem} (h : Old n a b) (hk : k ≤ n) : Old k a b := ⟨h.1, fun x hx => h.2 x (by omega)⟩
theorem Old.vw {n : Nat} {a b : Mem} (h : Old n a b) {x : Nat} (hx : x < n) : Go.Ev.vw b x = Go.Ev.vw a x := by unfold Go.Ev.vw; rw [h.2 x hx]
theorem Old.new {n : Nat} {a b : Mem} (h : Old n a b) (hn : n ≤ b.next) (o : AObj) : Old n a (newObjA b o) := ⟨by rw [next_newObjA]; have := h.1; omega, fun x hx => by rw [get_newObjA, if_neg (by omega)]; exact h.2 x hx⟩
theorem Old.put {n : Nat} {a b : Mem} (h : Old n a b) {k : Nat} (hk : n ≤ k) (o : AObj) : Old n a (putObj b k o) := ⟨h.1, fun x hx => by rw [get_putObj, if_neg (by omega)]; exact h.2 x hx⟩
theorem Old.st {n : Nat} {a b : Mem} (h : Old n a b) {k : Nat} (hk : n ≤ k) (i : Nat) (l : List Value) : Old n a (stM b k i l) := ⟨by rw [stM_next]; exact h.1, fun x hx => by rw [stM_get (by omega)]; exact h.2 x hx⟩
theorem Old.grow {n : Nat} {a b : Mem} (h : Old n a b) (hn : n ≤ b.next) (e : TypeId) (cells : List Value) : Old n a (growM b none e cells) := h.new hn _
theorem Old.grow' {n : Nat} {a b : Mem} (h : Old n a b) (hn : n ≤ b.next) {k : Nat} (hk : n ≤ k) (e : TypeId) (cells : List Value) : Old n a (growM b (some k) e cells) := (h.put hk .dead).new hn _
/-! ### slices that can be appended to -/
/-- a slice of ours, all of its row -/
def Own (n0 : Nat) (m : Mem) (v : Value) (e : TypeId) (n : Nat) (cells : List Value) : Prop :=
  (v = .slice none 0 0 ∧ n = 0 ∧ cells = []) ∨ ∃ b, v = .slice (some ⟨b, 0, none⟩) n n ∧ n0 ≤ b ∧ b < m.next ∧ vw m b = some ⟨true, e, true, cells⟩
/-- cells of a row, that may be known in part alone -/
noncomputable def rd (m : Mem) (b o : Nat) : Nat → Option (List Value)
  | 0 => some []
  | n + 1 => oB (rowOf m b) fun r => cellsFrom r (n + 1) o
/-- the elements of a slice -/
def SlAt (m : Mem) (v : Value) (n : Nat) (cells : List Value) : Prop :=
  (v = .slice none 0 0 ∧ n = 0 ∧ cells = []) ∨ ∃ b o c, v = .slice (some ⟨b, o, none⟩) n c ∧ n ≤ c ∧ (cells = [] ∨ rd m b o cells.length = some cells ∧ b < m.next)
theorem takeN_self (l : List Value) : takeN l 0 l.length = l := by simp [takeN]
theorem takeN_zero (l : List Value) (o : Nat) : takeN l o 0 = [] := by simp [takeN]
theorem takeN_c0 (x : Value) (l : List Value) (n : Nat) : takeN (x :: l) 0 (n + 1) = x :: takeN l 0 n := _root_.id rfl
theorem takeN_cs (x : Value) (l : List Value) (o n : Nat) : takeN (x :: l) (o + 1) n = takeN l o n := _root_.id rfl
theorem takeN_length {l : List Value} {o n : Nat} (h : o + n ≤ l.length) : (takeN l o n).length = n := by simp [takeN]; omega
theorem takeN_get {l : List Value} {o n k : Nat} (h : k < n) : (takeN l o n)[k]? = l[o + k]? := by simp [takeN, List.getElem?_take, h]
theorem u8s_length : ∀ l : List UInt8, (u8s l).length = l.length
  | [] => rfl
  | b :: l => by simp [u8s, u8s_length l]
theorem u8s_map : ∀ l : List UInt8, u8s l = l.map fun b => .int .u8 (b.toNat : Int)
  | [] => rfl
  | b :: l => by simp only [u8s, u8s_map l, List.map_cons, byteV, fNat_eq]; rfl
theorem one_u8s (l : List UInt8) : (u8s l).all oneC = true := by rw [u8s_map]; simp [oneC]
def i64s (l : List Int) : List Value := l.map fun n => .int .i64 n
theorem i64s_length (l : List Int) : (i64s l).length = l.length := by simp [i64s]
theorem one_i64s (l : List Int) : (i64s l).all oneC = true := by simp [i64s, oneC]
theorem SlAt.shape {n : Nat} {v : Value} {cells : List Value} (h : SlAt m v n cells) : ∃ a c, v = .slice a n c := by
  rcases h with ⟨rfl, rfl, _⟩ | ⟨b, o, c, rfl, _⟩ <;> exact ⟨_, _, rfl⟩
theorem rd_some {b o n : Nat} {cells : List Value} (h : rd m b o n = some cells) : cells.length = n ∧ (n ≠ 0 → ∃ r, rowOf m b = some r ∧ cellsFrom r n o = some cells ∧ ∀ k v, cells[k]? = some v → cellAt r (o + k) = some v) := by
  cases n with
  | zero => obtain rfl := Option.some.inj h; exact ⟨rfl, fun e => absurd rfl e⟩
  | succ n =>
    simp only [rd, oB_some] at h
    obtain ⟨r, h1, h2⟩ := h
    obtain ⟨h3, h4⟩ := cellsFrom_some h2
    exact ⟨h3, fun _ => ⟨r, h1, h2, h4⟩⟩
theorem cellsFrom_of {r : Row} : ∀ {n o : Nat} {l : List Value}, l.length = n → (∀ k v, l[k]? = some v → cellAt r (o + k) = some v) → cellsFrom r n o = some l
  | 0, o, [], _, _ => rfl
  | n + 1, o, v :: l, h, g => by
    rw [cellsFrom_succ, show cellAt r o = some v from g 0 v rfl]
    simp only [oB]
    rw [cellsFrom_of (l := l) (by simpa using h) fun k u hu => by rw [show o + 1 + k = o + (k + 1) from by omega]; exact g (k + 1) u hu]
theorem rd_of {b o : Nat} {r : Row} {l : List Value} (h : rowOf m b = some r) (g : ∀ k v, l[k]? = some v → cellAt r (o + k) = some v) : rd m b o l.length = some l := by
  cases l with
  | nil => rfl
  | cons v l => show oB (rowOf m b) _ = _; rw [h]; exact cellsFrom_of rfl g
theorem rd_part {b o n i k : Nat} {cells : List Value} (h : rd m b o n = some cells) (hk : i + k ≤ n) : rd m b (o + i) k = some (takeN cells i k) := by
  obtain ⟨h1, h2⟩ := rd_some h
  cases k with
  | zero => simp [rd, takeN]
  | succ k =>
    obtain ⟨r, h3, h4, h5⟩ := h2 (by omega)
    have hl : (takeN cells i (k + 1)).length = k + 1 := by simp [takeN]; omega
    have := rd_of (m := m) (b := b) (o := o + i) (l := takeN cells i (k + 1)) h3 fun j v hj => by
      have hj2 : j < k + 1 := by have := (List.getElem?_eq_some_iff.1 hj).1; omega
      rw [takeN, List.getElem?_take, if_pos hj2, List.getElem?_drop] at hj
      rw [show o + i + j = o + (i + j) from by omega]
      exact h5 _ _ hj
    rw [hl] at this; exact this
theorem rd_vw {b : Nat} {V : Vw} (hv : vw m b = some V) {o k : Nat} (h : o + k ≤ V.cs.length) : rd m b o k = some (takeN V.cs o k) := by
  obtain ⟨r, h1, h2, h3, h4, h5, h6, _⟩ := vw_spec hv
  cases k with
  | zero => simp [rd, takeN]
  | succ k =>
    show oB (rowOf m b) _ = _
    rw [h1]
    simp only [oB]
    rw [cellsFrom_all h6, if_pos (.inr h)]
theorem rd_old {b o n : Nat} {n0 : Nat} {m' : Mem} (k : Old n0 m m') (hb : b < n0) : rd m' b o n = rd m b o n := by
  cases n with
  | zero => rfl
  | succ n => simp only [rd, rowOf, k.2 b hb]
theorem rd_get {b o n : Nat} {m' : Mem} (h : m'.objs.get b = m.objs.get b) : rd m' b o n = rd m b o n := by
  cases n with
  | zero => rfl
  | succ n => simp only [rd, rowOf, h]
theorem ld_rd1 {t : TypeId} {i : TI} {b o n k : Nat} {s : Option Nat} {cells : List Value} {v : Value} (hi : ti tb t = some i) (ha : i.agg = false) (h : rd m b o n = some cells) (hk : cells[k]? = some v) : opLoad tb t m (.pointer (some ⟨b, o + k, s⟩)) = .r v := by
  obtain ⟨h1, h2⟩ := rd_some h
  have hk1 := (List.getElem?_eq_some_iff.1 hk).1
  obtain ⟨r, h3, h4, h5⟩ := h2 (by omega)
  simp only [opLoad, loadA, hi, oB, h3, ha, h5 k v hk, oR]
theorem ld_rdA {t : TypeId} {i : TI} {b o n k : Nat} {s : Option Nat} {cells : List Value} (hi : ti tb t = some i) (ha : i.agg = true) (h : rd m b o n = some cells) (hk : k + i.inf.size ≤ n) (hn : n ≠ 0) : opLoad tb t m (.pointer (some ⟨b, o + k, s⟩)) = .r (.agg ⟨takeN cells k i.inf.size⟩) := by
  obtain ⟨h1, h2⟩ := rd_some h
  obtain ⟨r, h3, h4, h5⟩ := h2 hn
  have : cellsFrom r i.inf.size (o + k) = some (takeN cells k i.inf.size) := cellsFrom_of (by simp [takeN]; omega) fun j v hj => by
    have hj2 : j < i.inf.size := by have := (List.getElem?_eq_some_iff.1 hj).1; simp [takeN] at this; omega
    rw [takeN, List.getElem?_take, if_pos hj2, List.getElem?_drop] at hj
    rw [show o + k + j = o + (k + j) from by omega]; exact h5 _ _ hj
  simp only [opLoad, loadA, hi, oB, h3, ha, this, oR]
theorem SlAt.first {n k : Nat} {v : Value} {cells : List Value} (h : SlAt m v n cells) (hk : cells.length = k) (j : Nat) : firstA m k j v = some cells := by
  subst hk
  rcases h with ⟨rfl, h1, h2⟩ | ⟨b, o, c, rfl, h1, rfl | ⟨h2, h3⟩⟩
  · rw [h2, fi_nil]
  · rfl
  · cases cells with
    | nil => rfl
    | cons x l => exact h2
theorem SlAt.old {n : Nat} {v : Value} {cells : List Value} {m' : Mem} (h : SlAt m v n cells) (k : Old m.next m m') : SlAt m' v n cells := by
  rcases h with h | ⟨b, o, c, rfl, h1, h2 | ⟨h2, h3⟩⟩
  · exact .inl h
  · exact .inr ⟨b, o, c, rfl, h1, .inl h2⟩
  · exact .inr ⟨b, o, c, rfl, h1, .inr ⟨by rw [rd_old k h3]; exact h2, Nat.lt_of_lt_of_le h3 k.1⟩⟩
/-- of what lies below 'n0' -/
def SlOld (n0 : Nat) (m : Mem) (v : Value) (n : Nat) (cells : List Value) : Prop :=
  (v = .slice none 0 0 ∧ n = 0 ∧ cells = []) ∨ ∃ b o c, v = .slice (some ⟨b, o, none⟩) n c ∧ n ≤ c ∧ (cells = [] ∨ rd m b o cells.length = some cells ∧ b < n0)
theorem SlOld.at {n0 n : Nat} {v : Value} {cells : List Value} (h : SlOld n0 m v n cells) (hn : n0 ≤ m.next) : SlAt m v n cells := by
  rcases h with h | ⟨b, o, c, rfl, h1, h2 | ⟨h2, h3⟩⟩
  · exact .inl h
  · exact .inr ⟨b, o, c, rfl, h1, .inl h2⟩
  · exact .inr ⟨b, o, c, rfl, h1, .inr ⟨h2, Nat.lt_of_lt_of_le h3 hn⟩⟩
theorem SlOld.old {n0 n : Nat} {v : Value} {cells : List Value} {m' : Mem} (h : SlOld n0 m v n cells) (k : Old n0 m m') : SlOld n0 m' v n cells := by
  rcases h with h | ⟨b, o, c, rfl, h1, h2 | ⟨h2, h3⟩⟩
  · exact .inl h
  · exact .inr ⟨b, o, c, rfl, h1, .inl h2⟩
  · exact .inr ⟨b, o, c, rfl, h1, .inr ⟨by rw [rd_old k h3]; exact h2, h3⟩⟩
theorem SlAt.toOld {n : Nat} {v : Value} {cells : List Value} (h : SlAt m v n cells) : SlOld m.next m v n cells := h
/-- an element, loaded: of one cell -/
theorem SlAt.load {n k : Nat} {v w : Value} {cells : List Value} (h : SlAt m v n cells) (hk : cells[k]? = some w) : ∃ b o c, v = .slice (some ⟨b, o, none⟩) n c ∧ n ≤ c ∧ b < m.next ∧ rd m b o cells.length = some cells ∧ ∀ {t : TypeId} {i : TI} {s : Option Nat}, ti tb t = some i → i.agg = false → opLoad tb t m (.pointer (some ⟨b, o + k, s⟩)) = .r w := by
  have hk1 := (List.getElem?_eq_some_iff.1 hk).1
  rcases h with ⟨rfl, h1, rfl⟩ | ⟨b, o, c, rfl, h1, rfl | ⟨h2, h3⟩⟩
  · simp at hk1
  · simp at hk1
  · exact ⟨b, o, c, rfl, h1, h3, h2, fun hi ha => ld_rd1 hi ha h2 hk⟩
theorem SlAt.loadA {n k sz : Nat} {v : Value} {cells : List Value} (h : SlAt m v n cells) (hk : k + sz ≤ cells.length) (hs : 0 < sz) : ∃ b o c, v = .slice (some ⟨b, o, none⟩) n c ∧ n ≤ c ∧ b < m.next ∧ rd m b o cells.length = some cells ∧ ∀ {t : TypeId} {i : TI} {s : Option Nat}, ti tb t = some i → i.agg = true → i.inf.size = sz → opLoad tb t m (.pointer (some ⟨b, o + k, s⟩)) = .r (.agg ⟨takeN cells k sz⟩) := by
  rcases h with ⟨rfl, h1, rfl⟩ | ⟨b, o, c, rfl, h1, rfl | ⟨h2, h3⟩⟩
  · simp at hk; omega
  · simp at hk; omega
  · exact ⟨b, o, c, rfl, h1, h3, h2, fun hi ha he => by subst he; exact ld_rdA hi ha h2 hk (by omega)⟩
theorem fits_true (a : Option Addr) (sl sc n b : Nat) (h : (sl + n + 1000) * b ≤ 17592186044416) : appendFits (.slice a sl sc) n b = true := by rw [fits_eq]; simpa using h
/-! ### what comes later stands behind a name -/
theorem xregQ {os : List SOp} (h : ∀ Q', Q' = Q → wpR tb F Q' os l ds m) : wpX tb F (.reg os) l ds m Q := xreg (h Q rfl)
theorem xseqP {a b : SCode} {PS : List Value → List Deferred → Mem → Prop} (h : wpX tb F a l ds m (fun e l' ds' m' => e = .normal ∧ PS l' ds' m')) (g : ∀ l' ds' m', PS l' ds' m' → wpX tb F b l' ds' m' Q) : wpX tb F (.seq a b) l ds m Q :=
  xseq (h.mono fun e l' ds' m' ⟨h1, h2⟩ => by subst h1; exact g _ _ _ h2)
/-- a piece that may return -/
theorem xseqR {a b : SCode} {PS PR : List Value → List Deferred → Mem → Prop} (h : wpX tb F a l ds m (fun e l' ds' m' => (e = .normal ∧ PS l' ds' m') ∨ (e = .jump .ret ∧ PR l' ds' m'))) (g : ∀ l' ds' m', PS l' ds' m' → wpX tb F b l' ds' m' Q) (r : ∀ l' ds' m', PR l' ds' m' → Q (.jump .ret) l' ds' m') : wpX tb F (.seq a b) l ds m Q :=
  xseq (h.mono fun e l' ds' m' h => by
    rcases h with ⟨rfl, h⟩ | ⟨rfl, h⟩
    · exact g _ _ _ h
    · exact r _ _ _ h)
/-- what stands at a round's begin -/
def Inv (I : Nat → List Value → List Deferred → Mem → Prop) (n : Nat) (l : List Value) (ds : List Deferred) (m : Mem) : Prop := ∃ k, k < n ∧ I k l ds m
theorem xwhile {b : SCode} {I : Nat → List Value → List Deferred → Mem → Prop} {N : Nat} (h0 : I N l ds m) (hr : ∀ n l ds m, I n l ds m → wpX tb F b l ds m (thenA (Inv I n) Q)) : wpX tb F (.loop b) l ds m Q :=
  xloop h0 fun n l ds m h => hr n l ds m h
theorem xif {a b : SCode} {c : Operand} {v : Bool} (hc : evL l c = .bool v) (ht : v = true → wpX tb F a l ds m Q) (hf : v = false → wpX tb F b l ds m Q) : wpX tb F (.cond c a b) l ds m Q :=
  xcond hc (by cases v with | true => exact ht rfl | false => exact hf rfl)
/-! ### rows that are built -/
noncomputable def vwX (o : AObj) : Option Vw := vwO o
def updL (V : Option Vw) (o : Nat) (l : List Value) : Option Vw := match V with | some V => some ⟨V.w, V.elem, V.ext, spl V.cs o l⟩ | none => none
theorem updL_some (w : Bool) (e : TypeId) (x : Bool) (cs l : List Value) (o : Nat) : updL (some ⟨w, e, x, cs⟩) o l = some ⟨w, e, x, spl cs o l⟩ := _root_.id rfl
theorem vwO_lf (n : Nat) (z : List Value) (e : TypeId) (x : Bool) : vwO (.row ⟨.lf, n, z, e, .none, x⟩) = if n = (n / z.length) * z.length then some ⟨true, e, x, repl z (n / z.length)⟩ else vwX (.row ⟨.lf, n, z, e, .none, x⟩) := by
  split
  · rename_i h
    have := vwRow_zero true e z (n / z.length) x
    rw [← h] at this
    exact this
  · rfl
theorem vwO_setL (l : List Value) (o : Nat) (c : T Value) (n : Nat) (z : List Value) (e : TypeId) (x : Bool) (hl : o + l.length ≤ n) (hs : (vwO (.row ⟨c, n, z, e, .none, x⟩)).isSome = true) :
    vwO (.row ⟨T.setL l o c, n, z, e, .none, x⟩) = updL (vwO (.row ⟨c, n, z, e, .none, x⟩)) o l := by
  cases h : vwO (.row ⟨c, n, z, e, .none, x⟩) with
  | none => rw [h] at hs; cases hs
  | some V =>
    have h' : vwRow true ⟨c, n, z, e, .none, x⟩ = some V := h
    have := vwRow_setL h' hl
    obtain ⟨h0, h1, h2, h3, h4, h5⟩ := vwRow_spec h'
    refine (show vwO (.row ⟨T.setL l o c, n, z, e, .none, x⟩) = vwRow true ⟨T.setL l o c, n, z, e, .none, x⟩ from rfl).trans ?_
    rw [this]
    simp only [updL]
    simp only at h2 h3
    rw [h0, h2, h3]
/-! ### appending to what is ours -/
def blkV : Value → Option Nat
  | .slice (some a) _ _ => some a.block
  | _ => none
/-- all but one stands -/
def Keep (ob : Option Nat) (m m' : Mem) : Prop := m.next ≤ m'.next ∧ ∀ x, x < m.next → ob ≠ some x → m'.objs.get x = m.objs.get x
theorem Keep.vw {ob : Option Nat} {a b : Mem} (h : Keep ob a b) {x : Nat} (hx : x < a.next) (hb : ob ≠ some x) : Go.Ev.vw b x = Go.Ev.vw a x := by unfold Go.Ev.vw; rw [h.2 x hx hb]
theorem growM_get (ob : Option Nat) (e : TypeId) (cells : List Value) {x : Nat} (hx : x < m.next) (hb : ob ≠ some x) : (growM m ob e cells).objs.get x = m.objs.get x := by
  unfold growM
  rw [get_newObjA]
  cases ob with
  | none => exact if_neg (by simp only; omega)
  | some b =>
    refine (if_neg (by simp only [next_putObj]; omega)).trans ?_
    simp only
    rw [get_putObj, if_neg (by intro e; exact hb (by rw [e]))]
theorem growM_keep (ob : Option Nat) (e : TypeId) (cells : List Value) : Keep ob m (growM m ob e cells) := ⟨by rw [growM_next]; omega, fun x hx hb => growM_get _ _ _ hx hb⟩
theorem Own.shape {n0 n : Nat} {v : Value} {e : TypeId} {cells : List Value} (h : Own n0 m v e n cells) : ∃ a, v = .slice a n n := by
  rcases h with ⟨rfl, rfl, _⟩ | ⟨b, rfl, _⟩ <;> exact ⟨_, rfl⟩
theorem Own.at {n0 n : Nat} {v : Value} {e : TypeId} {cells : List Value} (h : Own n0 m v e n cells) : SlAt m v n cells := by
  rcases h with h | ⟨b, rfl, h1, h2, h3⟩
  · exact .inl h
  · refine .inr ⟨b, 0, n, rfl, Nat.le_refl _, .inr ⟨?_, h2⟩⟩
    have := rd_vw h3 (o := 0) (k := cells.length) (by simp)
    rw [this]; simp [takeN]
theorem Own.append {n0 n k sz : Nat} {v : Value} {e : TypeId} {cells new : List Value} {m1 : Mem} (h : Own n0 m v e n cells) (hm : Old m.next m m1) (hle : n0 ≤ m.next) (hc : cells.length = n * sz) (hn : new.length = (k + 1) * sz) (ho : new.all oneC = true) :
    ∃ v' m', appendTo m1 e sz v (k + 1) new = some (v', m') ∧ Own n0 m' v' e (n + (k + 1)) (cells ++ new) ∧ Keep (blkV v) m1 m' ∧ Old n0 m1 m' ∧ (∃ b, v' = .slice (some ⟨b, 0, none⟩) (n + (k + 1)) (n + (k + 1)) ∧ m1.next ≤ b) := by
  have h0 := hm.1
  rcases h with ⟨rfl, rfl, rfl⟩ | ⟨b, rfl, h1, h2, h3⟩
  · refine ⟨_, _, ap_first' _ _ _ _, .inr ⟨m1.next, ?_, ?_, ?_, ?_⟩, growM_keep _ _ _, (Old.refl _ _).grow (by omega) _ _, ⟨_, by rw [Nat.zero_add], Nat.le_refl _⟩⟩
    · rw [Nat.zero_add]
    · omega
    · rw [growM_next]; omega
    · rw [vw_growM, if_pos rfl]; rfl
  · have h4 : vw m1 b = some ⟨true, e, true, cells⟩ := by rw [hm.vw h2]; exact h3
    have e1 := at_W (m := m1) e sz b 0 none n n (k + 1) new
    rw [h4, atW_some, if_neg (by omega), if_neg (by simp), if_pos ⟨rfl, rfl, rfl, Nat.le_refl _, by simp [hc], rfl, hn, ho⟩] at e1
    refine ⟨_, _, e1, .inr ⟨m1.next, rfl, by omega, by rw [growM_next]; omega, ?_⟩, growM_keep _ _ _, (Old.refl _ _).grow' (by omega) h1 _ _, ⟨_, rfl, Nat.le_refl _⟩⟩
    rw [vw_growM, if_pos rfl]
    simp only
    rw [← hc, takeN_self]
theorem ble_d (a b : Nat) : Nat.ble a b = decide (a ≤ b) := by rw [Bool.eq_iff_iff, Nat.ble_eq]; simp
theorem blt_d (a b : Nat) : Nat.blt a b = decide (a < b) := by rw [Bool.eq_iff_iff, Nat.blt_eq]; simp
theorem beq_d (a b : Nat) : Nat.beq a b = decide (a = b) := by rw [Bool.eq_iff_iff, Nat.beq_eq]; simp
theorem u8s_get (l : List UInt8) (k : Nat) : (u8s l)[k]? = (l[k]?).map fun b => .int .u8 (b.toNat : Int) := by rw [u8s_map]; simp
theorem i64s_get (l : List Int) (k : Nat) : (i64s l)[k]? = (l[k]?).map fun b => .int .i64 b := by simp [i64s]
end
end Go.Ev
namespace Go.Ev
open Go.RowKit

structure DH where
  o : DOp
  vs : List Value
  k : HK
  v : Value
def memL (x : Nat) : List Nat → Bool
  | [] => false
  | y :: l => match Nat.beq y x with | true => true | false => memL x l
def anyIn (bl : List Nat) : List Nat → Bool
  | [] => false
  | e :: es => match memL e bl with | true => true | false => anyIn bl es
theorem memL_iff (x : Nat) : ∀ l, memL x l = true ↔ x ∈ l
  | [] => by simp [memL]
  | y :: l => by
    unfold memL
    by_cases h : y = x
    · subst h; simp
    · rw [beqF h]; simp only [memL_iff x l, List.mem_cons]; constructor
      · exact .inr
      · rintro (e | e)
        · exact absurd e.symm h
        · exact e
def dDeps (es nm : List Nat) : List DH → Bool
  | [] => true
  | h :: l => match h.o.dst with
    | none => dDeps es nm l
    | some d => match memL d nm with
      | false => dDeps es nm l
      | true => match memL h.o.i es with
        | true => dDeps es nm l
        | false => false
def dMask (d : Option Tmp) (nm mk : List Nat) : Option (List Nat) :=
  match d with
  | none => some (nm ++ mk)
  | some d => match memL d (nm ++ mk) with
    | true => none
    | false => some (d :: (nm ++ mk))
def dAlone : List Nat → List DOp → Bool
  | _, [] => true
  | bl, x :: l => match anyIn bl x.es with
    | true => dAlone (x.i :: bl) l
    | false => false
section
variable (tb : Tabs)
/-- it stands as it was come to -/
def dCheckK (l : List Value) (m : Mem) (o : DOp) (vs : List Value) (v : Value) : HK → Prop
  | .s => wantX l o.g = false
  | .f _ => wantX l o.g = true ∧ evsL l o.op.operands.toList = vs ∧ vEqL vs vs = true
  | .r => wantX l o.g = true ∧ evsL l o.op.operands.toList = vs ∧ vEqL vs vs = true ∧ (isPure o.op = true ∨ opA o.op tb (T.ofList l) m = .r v)
def dCheck (l : List Value) (m : Mem) (h : DH) : Prop :=
  (match h.o.dst with | none => True | some d => evL l (.tmp d) = h.v) ∧ vEq 100 h.v h.v = true ∧ dCheckK tb l m h.o h.vs h.v h.k
def dRecheck (l : List Value) (m : Mem) (es : List Nat) : List DH → Prop
  | [] => True
  | h :: hs => (memL h.o.i es = true ∨ dCheck tb l m h) ∧ dRecheck l m es hs
abbrev DK := List DOp → List Value → Mem → List DH → List Nat → Prop
noncomputable def dPass (K : DK) : List DOp → List Nat → List DOp → List Value → Mem → List DH → List Nat → Prop
  | [], bl, rem, l, m, hist, mk => K rem.reverse l m hist mk
  | x :: xs, bl, rem, l, m, hist, mk =>
    match anyIn bl x.es with
    | true => dPass K xs (x.i :: bl) (x :: rem) l m hist mk
    | false => dDeps x.es x.nm hist = true ∧ dstB x.dst l.length = true ∧ match wantX l x.g with
      | false => ∃ mk', dMask x.dst x.nm mk = some mk' ∧ dPass K xs bl rem (setSl x.dst undef l) m (⟨x, [], .s, undef⟩ :: hist) mk'
      | true => match opA x.op tb (T.ofList l) m with
        | .r v => ∃ mk', dMask x.dst x.nm mk = some mk' ∧ dPass K xs bl rem (setSl x.dst v l) m (⟨x, evsL l x.op.operands.toList, .r, v⟩ :: hist) mk'
        | .f ob f => ∃ mk', dMask x.dst x.nm mk = some mk' ∧ dPass K xs bl rem (setSl x.dst (f m.next) l) (newObjA m ob) (⟨x, evsL l x.op.operands.toList, .f m.next, f m.next⟩ :: hist) mk'
        | .e _ _ => dPass K xs (x.i :: bl) (x :: rem) l m hist mk
        | .c => dPass K xs (x.i :: bl) (x :: rem) l m hist mk
        | .bad => False
variable (F : FC) (Q : PostA)
/-- behind a pass: the first one that is left is a write or a call -/
noncomputable def dNext (next : List DOp → List Value → List Deferred → Mem → List DH → List Nat → Prop) (ds : List Deferred) (rem : List DOp) (l : List Value) (m : Mem) (hist : List DH) (mk : List Nat) : Prop :=
  match rem with
  | [] => Q .normal l ds m
  | o :: r => (dAlone [o.i] r && dDeps o.es o.nm hist && wantX l o.g) = true ∧ dstB o.dst l.length = true ∧
    match opA o.op tb (T.ofList l) m with
    | .e v m' => dRecheck tb (setSl o.dst v l) m' o.es hist ∧ next r (setSl o.dst v l) ds m' hist mk
    | .c => wpCallX tb F o.op o.ty l ds m (fun v ds m' => dRecheck tb (setSl o.dst v l) m' o.es hist ∧ next r (setSl o.dst v l) ds m' hist mk) (fun ch m => Q (.pan ch) l ds m)
    | _ => False
/-- a region that draws its order -/
noncomputable def wpD : Nat → List DOp → List Value → List Deferred → Mem → List DH → List Nat → Prop
  | 0, _, _, _, _, _, _ => False
  | n + 1, rem, l, ds, m, hist, mk => dPass tb (dNext tb F Q (wpD n) ds) rem [] [] l m hist mk
end
section
variable {tb : Tabs} {F : FC} {Q : PostA}
/-! ### that it stands for the other -/
theorem memL_false {x : Nat} {l : List Nat} : memL x l = false ↔ ¬ x ∈ l := by
  rw [← memL_iff, Bool.not_eq_true]
theorem bind_mem {l : List Edge} {i : Nat} : i ∈ bindOn l ↔ ∃ e ∈ l, e.on = i ∧ Region.binds .any e = true := by
  simp only [bindOn, List.mem_map, List.mem_filter]
  constructor
  · rintro ⟨e, ⟨h1, h2⟩, h3⟩; exact ⟨e, h1, h3, h2⟩
  · rintro ⟨e, h1, h3, h2⟩; exact ⟨e, ⟨h1, h2⟩, h3⟩
theorem anyIn_iff {bl : List Nat} : ∀ {es : List Nat}, anyIn bl es = true ↔ ∃ e ∈ es, e ∈ bl
  | [] => by simp [anyIn]
  | e :: es => by
    unfold anyIn
    cases h : memL e bl with
    | true => rw [memL_iff] at h; simp; exact .inl h
    | false => rw [memL_false] at h; simp [anyIn_iff, h]
theorem blocked_iff {bl : List Nat} : ∀ {l : List Edge}, blockedBy bl l = true ↔ ∃ e ∈ l, Region.binds .any e = true ∧ e.on ∈ bl
  | [] => by simp [blockedBy]
  | e :: l => by
    have hm : (bl.any (Nat.beq e.on)) = true ↔ e.on ∈ bl := by
      simp only [List.any_eq_true, Nat.beq_eq]
      constructor
      · rintro ⟨x, hx, rfl⟩; exact hx
      · intro h; exact ⟨_, h, rfl⟩
    unfold blockedBy
    cases hb : Region.binds .any e with
    | false => simp only [blocked_iff, List.mem_cons]; constructor
               · rintro ⟨x, h1, h2⟩; exact ⟨x, .inr h1, h2⟩
               · rintro ⟨x, h1 | h1, h2⟩
                 · subst h1; rw [hb] at h2; simp at h2
                 · exact ⟨x, h1, h2⟩
    | true =>
      cases ha : bl.any (Nat.beq e.on) with
      | true => simp only [List.mem_cons, true_iff]; exact ⟨e, .inl rfl, hb, hm.1 ha⟩
      | false =>
        simp only [blocked_iff, List.mem_cons]
        constructor
        · rintro ⟨x, h1, h2⟩; exact ⟨x, .inr h1, h2⟩
        · rintro ⟨x, h1 | h1, h2⟩
          · subst h1; rw [hm.2 h2.2] at ha; cases ha
          · exact ⟨x, h1, h2⟩
theorem d_blocked (bl : List Nat) (l : List Edge) : blockedBy bl l = anyIn bl (bindOn l) := by
  rw [Bool.eq_iff_iff, blocked_iff, anyIn_iff]
  constructor
  · rintro ⟨e, h1, h2, h3⟩; exact ⟨e.on, bind_mem.2 ⟨e, h1, rfl, h2⟩, h3⟩
  · rintro ⟨i, h1, h2⟩
    obtain ⟨e, h3, rfl, h4⟩ := bind_mem.1 h1
    exact ⟨e, h3, h4, h2⟩
theorem edge_iff {i : Nat} : ∀ {l : List Edge}, edgeFrom i l = true ↔ ∃ e ∈ l, e.on = i ∧ Region.binds .any e = true
  | [] => by simp [edgeFrom]
  | e :: l => by
    unfold edgeFrom
    by_cases h : e.on = i
    · rw [h, Nat.beq_refl]
      cases hb : Region.binds .any e with
      | true => simp only [List.mem_cons, true_iff]; exact ⟨e, .inl rfl, h, hb⟩
      | false =>
        simp only [edge_iff, List.mem_cons]; constructor
        · rintro ⟨x, h1, h2⟩; exact ⟨x, .inr h1, h2⟩
        · rintro ⟨x, h1 | h1, h2⟩
          · subst h1; rw [hb] at h2; simp at h2
          · exact ⟨x, h1, h2⟩
    · rw [beqF h]
      simp only [edge_iff, List.mem_cons]; constructor
      · rintro ⟨x, h1, h2⟩; exact ⟨x, .inr h1, h2⟩
      · rintro ⟨x, h1 | h1, h2⟩
        · subst h1; exact absurd h2.1 h
        · exact ⟨x, h1, h2⟩
theorem d_edge (i : Nat) (l : List Edge) : edgeFrom i l = memL i (bindOn l) := by
  rw [Bool.eq_iff_iff, edge_iff, memL_iff, bind_mem]
theorem maskOp_memL (d : Nat) : ∀ (l : List Operand) (k : Nat), Nat.testBit (maskOp l k) d = (Nat.testBit k d || memL d (tmpsOf l))
  | [], k => by simp [maskOp, tmpsOf, memL]
  | x :: l, k => by
    cases x with
    | tmp t =>
      have h1 : Nat.testBit (Nat.lor k (Nat.shiftLeft 1 t)) d = (Nat.testBit k d || decide (t = d)) := by
        show Nat.testBit (k ||| 1 <<< t) d = _
        rw [Nat.testBit_or, Nat.one_shiftLeft, Nat.testBit_two_pow]
      have h2 : memL d (tmpsOf (.tmp t :: l)) = (decide (t = d) || memL d (tmpsOf l)) := by
        show memL d (t :: tmpsOf l) = _
        by_cases e : t = d
        · subst e; simp [memL]
        · simp [memL, beqF e, e]
      simp only [maskOp]
      rw [maskOp_memL d l, h1, h2, Bool.or_assoc]
    | const v => exact maskOp_memL d l k
    | global g => exact maskOp_memL d l k
    | func f => exact maskOp_memL d l k
theorem memL_append (d : Nat) (a b : List Nat) : memL d (a ++ b) = (memL d a || memL d b) := by
  rw [Bool.eq_iff_iff, memL_iff]; simp [memL_iff]
theorem names_bit (ops : Array Oper) (o : Oper) (k d : Nat) : Nat.testBit (namesA ops o k) d = (memL d (gNames (stripG ops.toList o.guard) ++ tmpsOf o.op.operands.toList) || Nat.testBit k d) := by
  rw [memL_append]
  unfold namesA
  cases hg : o.guard with
  | none => simp only [stripG, gNames, memL, Bool.false_or]; rw [maskOp_memL, Bool.or_comm]
  | some g =>
    obtain ⟨j, w⟩ := g
    simp only [stripG]
    cases hj : ops.toList[j]? with
    | none => simp only [gNames, memL, Bool.false_or]; rw [maskOp_memL, Bool.or_comm]
    | some oj =>
      simp only
      cases hd : oj.dst with
      | none => simp only [gNames, memL, Bool.false_or]; rw [maskOp_memL, Bool.or_comm]
      | some d' =>
        simp only [gNames]
        have h1 : Nat.testBit (Nat.lor k (Nat.shiftLeft 1 d')) d = (Nat.testBit k d || decide (d' = d)) := by
          show Nat.testBit (k ||| 1 <<< d') d = _
          rw [Nat.testBit_or, Nat.one_shiftLeft, Nat.testBit_two_pow]
        have h2 : memL d [d'] = decide (d' = d) := by
          by_cases e : d' = d
          · subst e; simp [memL]
          · unfold memL; rw [beqF e]; simp [e, memL]
        rw [maskOp_memL, h1, h2]
        cases Nat.testBit k d <;> cases decide (d' = d) <;> cases memL d (tmpsOf o.op.operands.toList) <;> rfl
def MkR (mask : Nat) (mk : List Nat) : Prop := ∀ d, Nat.testBit mask d = memL d mk
theorem d_mask {ops : Array Oper} {x : Nat × Oper} {mask : Nat} {mk mk' : List Nat} (h : MkR mask mk) (hm : dMask (dStrip ops.toList x).dst (dStrip ops.toList x).nm mk = some mk') : ∃ mask', maskA ops x.2 mask = some mask' ∧ MkR mask' mk' := by
  have hb : ∀ d, Nat.testBit (namesA ops x.2 mask) d = memL d ((dStrip ops.toList x).nm ++ mk) := fun d => by
    rw [names_bit, h d]
    show _ = memL d ((gNames (stripG ops.toList x.2.guard) ++ tmpsOf x.2.op.operands.toList) ++ mk)
    rw [memL_append (b := mk)]
  unfold dMask at hm
  unfold maskA
  cases hd : x.2.dst with
  | none =>
    have : (dStrip ops.toList x).dst = none := hd
    rw [this] at hm
    simp only [Option.some.injEq] at hm
    subst hm
    exact ⟨_, rfl, hb⟩
  | some d =>
    have : (dStrip ops.toList x).dst = some d := hd
    rw [this] at hm
    simp only at hm ⊢
    rw [hb d]
    split at hm <;> first | (simp at hm; done) | skip
    rename_i hf
    rw [hf]
    simp only [Option.some.injEq] at hm
    subst hm
    refine ⟨_, rfl, fun d' => ?_⟩
    show Nat.testBit (namesA ops x.2 mask ||| 1 <<< d) d' = _
    rw [Nat.testBit_or, Nat.one_shiftLeft, Nat.testBit_two_pow, hb d']
    by_cases e : d = d'
    · subst e; simp [memL]
    · rw [show memL d' (d :: ((dStrip ops.toList x).nm ++ mk)) = memL d' ((dStrip ops.toList x).nm ++ mk) from by
        conv => lhs; unfold memL
        rw [beqF e]]
      simp [e]
/-- what was done, and its shorter name -/
def HistR (ops : Array Oper) (h : Hist) (d : DH) : Prop := d.o = dStrip ops.toList (h.i, h.o) ∧ d.vs = h.vs ∧ d.k = h.k ∧ d.v = h.v
inductive HistsR (ops : Array Oper) : List Hist → List DH → Prop where
  | nil : HistsR ops [] []
  | cons {h : Hist} {d : DH} {l : List Hist} {k : List DH} (hd : HistR ops h d) (t : HistsR ops l k) : HistsR ops (h :: l) (d :: k)
theorem d_deps {ops : Array Oper} {x : Nat × Oper} : ∀ {hs : List Hist} {ds : List DH}, HistsR ops hs ds → dDeps (dStrip ops.toList x).es (dStrip ops.toList x).nm ds = true → depsOk ops x.2 hs = true
  | _, _, .nil, _ => rfl
  | _, _, .cons (h := h) (d := d) hd t, hk => by
    obtain ⟨e1, e2, e3, e4⟩ := hd
    unfold dDeps at hk
    unfold depsOk
    rw [e1] at hk
    cases hdst : h.o.dst with
    | none =>
      have : (dStrip ops.toList (h.i, h.o)).dst = none := hdst
      rw [this] at hk
      exact d_deps t hk
    | some d' =>
      have : (dStrip ops.toList (h.i, h.o)).dst = some d' := hdst
      rw [this] at hk
      simp only at hk ⊢
      have hb : Nat.testBit (namesA ops x.2 0) d' = memL d' (dStrip ops.toList x).nm := by
        rw [names_bit]; simp [dStrip]
      rw [hb]
      split at hk
      · rename_i hf; rw [hf]; exact d_deps t hk
      · rename_i hf
        rw [hf]
        simp only
        rw [d_edge]
        split at hk
        · rename_i he
          have he' : memL h.i (bindOn x.2.after.toList) = true := he
          rw [he']; exact d_deps t hk
        · cases hk
theorem d_alone {ops : Array Oper} : ∀ {l : List (Nat × Oper)} {bl : List Nat}, dAlone bl (l.map (dStrip ops.toList)) = true → alone bl l = true
  | [], _, _ => rfl
  | (i, o) :: l, bl, h => by
    simp only [List.map_cons, dAlone] at h
    simp only [alone, d_blocked]
    split at h
    · rename_i hb
      have hb' : anyIn bl (bindOn o.after.toList) = true := hb
      rw [hb']; exact d_alone h
    · cases h
theorem d_check {ops : Array Oper} {l : List Value} {m : Mem} {h : Hist} {d : DH} (hr : HistR ops h d) (hc : dCheck tb l m d) : CheckP tb ops l m h := by
  obtain ⟨e1, e2, e3, e4⟩ := hr
  obtain ⟨o, vs, k, v⟩ := d
  simp only at e1 e2 e3 e4
  subst e1; subst e2; subst e3; subst e4
  obtain ⟨c1, c2, c3⟩ := hc
  refine ⟨c1, c2, ?_⟩
  simp only at c3
  cases hk : h.k with
  | s => rw [hk] at c3; simp only [dCheckK] at c3; simp only; rw [wantX_eq]; exact c3
  | f b => rw [hk] at c3; simp only [dCheckK] at c3; simp only; rw [wantX_eq]; exact c3
  | r => rw [hk] at c3; simp only [dCheckK] at c3; simp only; rw [wantX_eq]; exact c3
theorem d_recheck {ops : Array Oper} {l : List Value} {m : Mem} {after : List Edge} : ∀ {hs : List Hist} {ds : List DH}, HistsR ops hs ds → dRecheck tb l m (bindOn after) ds → recheckP tb ops l m after hs
  | _, _, .nil, _ => trivial
  | _, _, .cons (h := h) (d := d) hd t, ⟨h1, h2⟩ => by
    refine ⟨?_, d_recheck t h2⟩
    rcases h1 with h1 | h1
    · left; rw [d_edge]
      rw [hd.1] at h1; exact h1
    · right; exact d_check hd h1
theorem d_pass {ops : Array Oper} {K : DK} {K' : List (Nat × Oper) → List Value → Mem → List Hist → Nat → Prop} (hK : ∀ rem l m hist mk hist' mask, HistsR ops hist' hist → MkR mask mk → K (rem.map (dStrip ops.toList)) l m hist mk → K' rem l m hist' mask) :
    ∀ (xs : List (Nat × Oper)) (bl : List Nat) (rem : List (Nat × Oper)) (l : List Value) (m : Mem) (hist : List DH) (mk : List Nat) (hist' : List Hist) (mask : Nat), HistsR ops hist' hist → MkR mask mk →
      dPass tb K (xs.map (dStrip ops.toList)) bl (rem.map (dStrip ops.toList)) l m hist mk → wpPass tb ops K' xs bl rem l m hist' mask
  | [], bl, rem, l, m, hist, mk, hist', mask, hh, hm, h => by
    simp only [List.map_nil, dPass, ← List.map_reverse] at h
    exact hK _ _ _ _ _ _ _ hh hm h
  | x :: xs, bl, rem, l, m, hist, mk, hist', mask, hh, hm, h => by
    simp only [List.map_cons, dPass] at h
    unfold wpPass
    rw [d_blocked]
    split at h
    · rename_i hb
      have hb' : anyIn bl (bindOn x.2.after.toList) = true := hb
      rw [hb']
      exact d_pass hK xs _ (x :: rem) l m hist mk hist' mask hh hm h
    · rename_i hb
      have hb' : anyIn bl (bindOn x.2.after.toList) = false := hb
      rw [hb']
      obtain ⟨h1, h2, h3⟩ := h
      refine ⟨d_deps hh h1, h2, ?_⟩
      rw [wantX_eq]
      split at h3
      · rename_i hw
        have hw' : wantX l (stripG ops.toList x.2.guard) = false := hw
        rw [hw']
        obtain ⟨mk', g1, g2⟩ := h3
        obtain ⟨mask', q1, q2⟩ := d_mask hm g1
        exact ⟨mask', q1, d_pass hK xs _ rem _ m _ mk' _ mask' (.cons ⟨rfl, rfl, rfl, rfl⟩ hh) q2 g2⟩
      · rename_i hw
        have hw' : wantX l (stripG ops.toList x.2.guard) = true := hw
        rw [hw']
        have e : opA x.2.op tb (T.ofList l) m = opA (dStrip ops.toList x).op tb (T.ofList l) m := _root_.id rfl
        rw [e]
        split at h3
        · rename_i v ho
          obtain ⟨mk', g1, g2⟩ := h3
          obtain ⟨mask', q1, q2⟩ := d_mask hm g1
          rw [ho]
          exact ⟨mask', q1, d_pass hK xs _ rem _ m _ mk' _ mask' (.cons ⟨rfl, rfl, rfl, rfl⟩ hh) q2 g2⟩
        · rename_i ob f ho
          obtain ⟨mk', g1, g2⟩ := h3
          obtain ⟨mask', q1, q2⟩ := d_mask hm g1
          rw [ho]
          exact ⟨mask', q1, d_pass hK xs _ rem _ _ _ mk' _ mask' (.cons ⟨rfl, rfl, rfl, rfl⟩ hh) q2 g2⟩
        · rename_i ho; rw [ho]; exact d_pass hK xs _ (x :: rem) l m hist mk hist' mask hh hm h3
        · rename_i ho; rw [ho]; exact d_pass hK xs _ (x :: rem) l m hist mk hist' mask hh hm h3
        · exact h3.elim
theorem d_ok {ops : Array Oper} : ∀ (n : Nat) (rem : List (Nat × Oper)) (l : List Value) (ds : List Deferred) (m : Mem) (hist : List DH) (mk : List Nat) (hist' : List Hist) (mask : Nat), HistsR ops hist' hist → MkR mask mk →
    wpD tb F Q n (rem.map (dStrip ops.toList)) l ds m hist mk → wpDr tb ops F Q n rem l ds m hist' mask
  | 0, _, _, _, _, _, _, _, _, _, _, h => h
  | n + 1, rem, l, ds, m, hist, mk, hist', mask, hh, hm, h => by
    refine d_pass (K := dNext tb F Q (wpD tb F Q n) ds) ?_ rem [] [] l m hist mk hist' mask hh hm h
    intro rem l m hist mk hist' mask hh hm h
    cases rem with
    | nil => exact h
    | cons x r =>
      obtain ⟨i, o⟩ := x
      obtain ⟨h1, h2, h3⟩ := h
      simp only [Bool.and_eq_true] at h1
      refine ⟨?_, h2, ?_⟩
      · have ha : dAlone [i] (r.map (dStrip ops.toList)) = true := h1.1.1
        rw [d_alone ha, d_deps (x := (i, o)) hh h1.1.2, wantX_eq]
        have hw : wantX l (stripG ops.toList o.guard) = true := h1.2
        rw [hw]; rfl
      · have e : opA o.op tb (T.ofList l) m = opA (dStrip ops.toList (i, o)).op tb (T.ofList l) m := _root_.id rfl
        rw [e]
        split at h3
        · rename_i v m' ho
          rw [ho]
          exact ⟨d_recheck hh h3.1, d_ok n r _ ds m' hist mk hist' mask hh hm h3.2⟩
        · rename_i ho
          rw [ho]
          exact wpCallOp_mono (wpCallX_ok h3) (fun v ds m' hx => ⟨d_recheck hh hx.1, d_ok n r _ ds m' hist mk hist' mask hh hm hx.2⟩) fun ch m h => h
        · exact h3.elim
theorem xdrw {l : List Value} {ds : List Deferred} {m : Mem} {xs : List DOp} (n : Nat) (h : ∀ Q', Q' = Q → wpD tb F Q' n xs l ds m [] []) : wpX tb F (.drw xs) l ds m Q := fun c' hs => by
  unfold strip at hs
  split at hs <;> first | contradiction | skip
  cases hs
  exact wp_draw n (d_ok n _ l ds m [] [] [] 0 .nil (fun d => by simp [memL]) (h Q rfl))
/-! ### by rules -/
variable {l : List Value} {ds : List Deferred} {m : Mem} {K : DK} {bl : List Nat} {rem xs : List DOp} {hist : List DH} {mk : List Nat}
variable (tb)
noncomputable def dSt (K : DK) (x : DOp) (xs : List DOp) (r : OR) (bl : List Nat) (rem : List DOp) (l : List Value) (m : Mem) (hist : List DH) (mk : List Nat) : Prop := match r with
  | .r v => ∃ mk', dMask x.dst x.nm mk = some mk' ∧ dPass tb K xs bl rem (setSl x.dst v l) m (⟨x, evsL l x.op.operands.toList, .r, v⟩ :: hist) mk'
  | .f ob f => ∃ mk', dMask x.dst x.nm mk = some mk' ∧ dPass tb K xs bl rem (setSl x.dst (f m.next) l) (newObjA m ob) (⟨x, evsL l x.op.operands.toList, .f m.next, f m.next⟩ :: hist) mk'
  | .e _ _ => dPass tb K xs (x.i :: bl) (x :: rem) l m hist mk
  | .c => dPass tb K xs (x.i :: bl) (x :: rem) l m hist mk
  | .bad => False
noncomputable def dGd (K : DK) (x : DOp) (xs : List DOp) (w : Bool) (bl : List Nat) (rem : List DOp) (l : List Value) (m : Mem) (hist : List DH) (mk : List Nat) : Prop := match w with
  | false => ∃ mk', dMask x.dst x.nm mk = some mk' ∧ dPass tb K xs bl rem (setSl x.dst undef l) m (⟨x, [], .s, undef⟩ :: hist) mk'
  | true => dSt tb K x xs (opA x.op tb (T.ofList l) m) bl rem l m hist mk
noncomputable def dBl (K : DK) (x : DOp) (xs : List DOp) (b : Bool) (bl : List Nat) (rem : List DOp) (l : List Value) (m : Mem) (hist : List DH) (mk : List Nat) : Prop := match b with
  | true => dPass tb K xs (x.i :: bl) (x :: rem) l m hist mk
  | false => dDeps x.es x.nm hist = true ∧ dstB x.dst l.length = true ∧ dGd tb K x xs (wantX l x.g) bl rem l m hist mk
noncomputable def dNx (F : FC) (Q : PostA) (next : List DOp → List Value → List Deferred → Mem → List DH → List Nat → Prop) (o : DOp) (r : List DOp) (x : OR) (ds : List Deferred) (l : List Value) (m : Mem) (hist : List DH) (mk : List Nat) : Prop := match x with
  | .e v m' => dRecheck tb (setSl o.dst v l) m' o.es hist ∧ next r (setSl o.dst v l) ds m' hist mk
  | .c => wpCallX tb F o.op o.ty l ds m (fun v ds m' => dRecheck tb (setSl o.dst v l) m' o.es hist ∧ next r (setSl o.dst v l) ds m' hist mk) (fun ch m => Q (.pan ch) l ds m)
  | _ => False
variable {tb}
theorem dPass_nil : dPass tb K [] bl rem l m hist mk = K rem.reverse l m hist mk := _root_.id rfl
theorem dPass_cons (x : DOp) : dPass tb K (x :: xs) bl rem l m hist mk = dBl tb K x xs (anyIn bl x.es) bl rem l m hist mk := _root_.id rfl
theorem dBl_true (x : DOp) : dBl tb K x xs true bl rem l m hist mk = dPass tb K xs (x.i :: bl) (x :: rem) l m hist mk := _root_.id rfl
theorem dBl_false (x : DOp) : dBl tb K x xs false bl rem l m hist mk = (dDeps x.es x.nm hist = true ∧ dstB x.dst l.length = true ∧ dGd tb K x xs (wantX l x.g) bl rem l m hist mk) := _root_.id rfl
theorem dGd_false (x : DOp) : dGd tb K x xs false bl rem l m hist mk = ∃ mk', dMask x.dst x.nm mk = some mk' ∧ dPass tb K xs bl rem (setSl x.dst undef l) m (⟨x, [], .s, undef⟩ :: hist) mk' := _root_.id rfl
theorem dGd_true (x : DOp) : dGd tb K x xs true bl rem l m hist mk = dSt tb K x xs (opA x.op tb (T.ofList l) m) bl rem l m hist mk := _root_.id rfl
theorem dSt_r (x : DOp) (v : Value) : dSt tb K x xs (.r v) bl rem l m hist mk = ∃ mk', dMask x.dst x.nm mk = some mk' ∧ dPass tb K xs bl rem (setSl x.dst v l) m (⟨x, evsL l x.op.operands.toList, .r, v⟩ :: hist) mk' := _root_.id rfl
theorem dSt_f (x : DOp) (ob : AObj) (f : Nat → Value) : dSt tb K x xs (.f ob f) bl rem l m hist mk = ∃ mk', dMask x.dst x.nm mk = some mk' ∧ dPass tb K xs bl rem (setSl x.dst (f m.next) l) (newObjA m ob) (⟨x, evsL l x.op.operands.toList, .f m.next, f m.next⟩ :: hist) mk' := _root_.id rfl
theorem dSt_e (x : DOp) (v : Value) (m' : Mem) : dSt tb K x xs (.e v m') bl rem l m hist mk = dPass tb K xs (x.i :: bl) (x :: rem) l m hist mk := _root_.id rfl
theorem dSt_c (x : DOp) : dSt tb K x xs .c bl rem l m hist mk = dPass tb K xs (x.i :: bl) (x :: rem) l m hist mk := _root_.id rfl
theorem dNext_nil (next : List DOp → List Value → List Deferred → Mem → List DH → List Nat → Prop) : dNext tb F Q next ds [] l m hist mk = Q .normal l ds m := _root_.id rfl
theorem dNext_cons (next : List DOp → List Value → List Deferred → Mem → List DH → List Nat → Prop) (o : DOp) (r : List DOp) : dNext tb F Q next ds (o :: r) l m hist mk = ((dAlone [o.i] r && dDeps o.es o.nm hist && wantX l o.g) = true ∧ dstB o.dst l.length = true ∧ dNx tb F Q next o r (opA o.op tb (T.ofList l) m) ds l m hist mk) := by
  cases h : opA o.op tb (T.ofList l) m <;> simp only [dNext, dNx, h]
theorem dNx_e (next : List DOp → List Value → List Deferred → Mem → List DH → List Nat → Prop) (o : DOp) (r : List DOp) (v : Value) (m' : Mem) : dNx tb F Q next o r (.e v m') ds l m hist mk = (dRecheck tb (setSl o.dst v l) m' o.es hist ∧ next r (setSl o.dst v l) ds m' hist mk) := _root_.id rfl
theorem dNx_c (next : List DOp → List Value → List Deferred → Mem → List DH → List Nat → Prop) (o : DOp) (r : List DOp) : dNx tb F Q next o r .c ds l m hist mk = wpCallX tb F o.op o.ty l ds m (fun v ds m' => dRecheck tb (setSl o.dst v l) m' o.es hist ∧ next r (setSl o.dst v l) ds m' hist mk) (fun ch m => Q (.pan ch) l ds m) := _root_.id rfl
theorem wpD_succ (n : Nat) : wpD tb F Q (n + 1) rem l ds m hist mk = dPass tb (dNext tb F Q (wpD tb F Q n) ds) rem [] [] l m hist mk := _root_.id rfl
theorem vEq_b (d : Nat) (b : Bool) : vEq (d + 1) (.bool b) (.bool b) = true := by simp [vEq]
theorem vEq_i (d : Nat) (k : IntKind) (n : Int) : vEq (d + 1) (.int k n) (.int k n) = true := by simp [vEq, kEq_self, intEq_eq]
theorem vEq_s (d : Nat) (s : ByteArray) : vEq (d + 1) (.string s) (.string s) = true := by simp [vEq, bytesEq_eq]
theorem vEq_p0 (d : Nat) : vEq (d + 1) (.pointer none) (.pointer none) = true := _root_.id rfl
theorem vEq_p (d b o : Nat) (s : Option Nat) : vEq (d + 1) (.pointer (some ⟨b, o, s⟩)) (.pointer (some ⟨b, o, s⟩)) = true := by cases s <;> simp [vEq]
theorem vEq_l (d : Nat) (a : Option Addr) (n c : Nat) : vEq (d + 1) (.slice a n c) (.slice a n c) = true := by
  cases a with
  | none => simp [vEq]
  | some a => obtain ⟨b, o, s⟩ := a; cases s <;> simp [vEq]
theorem vEq_a {d : Nat} {l : List Value} (h : ∀ v ∈ l, vEq d v v = true) : vEq (d + 1) (.agg ⟨l⟩) (.agg ⟨l⟩) = true := by
  simp only [vEq, Nat.beq_refl, Bool.true_and]
  rw [List.all_eq_true]
  rintro ⟨x, y⟩ hxy
  have : x = y ∧ x ∈ l := by
    clear h
    induction l with
    | nil => simp at hxy
    | cons a l ih =>
      simp only [List.zip_cons_cons, List.mem_cons, Prod.mk.injEq] at hxy
      rcases hxy with ⟨rfl, rfl⟩ | hxy
      · simp
      · obtain ⟨rfl, h2⟩ := ih hxy; exact ⟨rfl, .tail _ h2⟩
  obtain ⟨rfl, h1⟩ := this
  exact h x h1
theorem vEq_t (d : Nat) : vEq (d + 1) undef undef = true := _root_.id rfl
end
end Go.Ev
namespace Go.Ev
open Go.RowKit

/-- blocks, moved: 'G' becomes 'k' -/
def renA (G k : Nat) (a : Addr) : Addr := ⟨k + (a.block - G), a.off, a.spot⟩
def okA (G : Nat) (a : Addr) : Bool := Nat.ble G a.block && a.spot.isNone
def renP (G k : Nat) : Value → Value
  | .pointer (some a) => .pointer (some (renA G k a))
  | v => v
def okP (G : Nat) : Value → Bool
  | .pointer (some a) => okA G a
  | .func (.func _) ⟨[]⟩ ⟨[]⟩ => true
  | v => flatV v
def renV (G k : Nat) : Value → Value
  | .pointer (some a) => .pointer (some (renA G k a))
  | .slice (some a) l c => .slice (some (renA G k a)) l c
  | .func fn ⟨f⟩ ⟨c⟩ => .func fn ⟨f.map (renP G k)⟩ ⟨c.map (renP G k)⟩
  | v => v
def okV (G : Nat) : Value → Bool
  | .pointer (some a) => okA G a
  | .slice (some a) _ _ => okA G a
  | .func (.func _) ⟨f⟩ ⟨c⟩ => f.all (okP G) && c.all (okP G)
  | v => flatV v
/-- the environment of what was moved -/
def Env.ren (G k : Nat) (E1 E' : Env) : Prop := ∀ b i, G ≤ b → E1 b = some i → E' (k + (b - G)) = some i
section
variable {G k : Nat} {E1 E' : Env}
theorem VR.flat {E E' : Env} {v v' : Value} (h : flatV v = true) (hv : VR E v v') : VR E' v v' := by
  cases hv <;> simp_all [flatV] <;> constructor
theorem ren_ptr (he : Env.ren G k E1 E') {a : Addr} {v' : Value} (h : okA G a = true) (hv : VR E1 (.pointer (some a)) v') : VR E' (.pointer (some (renA G k a))) v' := by
  obtain ⟨b, o, s⟩ := a
  simp only [okA, Bool.and_eq_true, Nat.ble_eq] at h
  cases hv with
  | ptr hE => exact .ptr (he _ _ h.1 hE)
theorem ren_P (he : Env.ren G k E1 E') {v v' : Value} (h : okP G v = true) (hv : VR E1 v v') : VR E' (renP G k v) v' := by
  unfold okP at h
  split at h
  · exact ren_ptr he h hv
  · cases hv with
    | func hf h1 h2 => cases h1; cases h2; exact .func hf .nil .nil
  · rename_i h1 h2
    have : renP G k v = v := by
      unfold renP; split
      · exact absurd rfl (h1 _)
      · rfl
    rw [this]; exact hv.flat h
theorem ren_Ps (he : Env.ren G k E1 E') : ∀ {l l' : List Value}, l.all (okP G) = true → VRs E1 l l' → VRs E' (l.map (renP G k)) l'
  | _, _, _, .nil => .nil
  | _, _, h, .cons hv t => by
    simp only [List.all_cons, Bool.and_eq_true] at h
    exact .cons (ren_P he h.1 hv) (ren_Ps he h.2 t)
theorem ren_V (he : Env.ren G k E1 E') {v v' : Value} (h : okV G v = true) (hv : VR E1 v v') : VR E' (renV G k v) v' := by
  unfold okV at h
  split at h
  · exact ren_ptr he h hv
  · rename_i a l c
    obtain ⟨b, o, s⟩ := a
    simp only [okA, Bool.and_eq_true, Nat.ble_eq] at h
    obtain ⟨h1, h2⟩ := h
    cases s with
    | some s => cases h2
    | none => cases hv with
      | sl _ _ hE => exact .sl _ _ (he _ _ h1 hE)
      | slD _ hE => exact .slD _ (he _ _ h1 hE)
  · simp only [Bool.and_eq_true] at h
    cases hv with
    | func hf h1 h2 => exact .func hf (ren_Ps he h.1 h1) (ren_Ps he h.2 h2)
  · rename_i h1 h2 h3
    have : renV G k v = v := by
      unfold renV; split
      · exact absurd rfl (h1 _)
      · exact absurd rfl (h2 _ _ _)
      · simp [flatV] at h
      · rfl
    rw [this]; exact hv.flat h
end
/-- a row of its own: type, may its room be unknown, cells -/
structure CRow where
  elem : TypeId
  ext : Bool
  cells : List Value
def CRow.ren (G k : Nat) (r : CRow) : CRow := ⟨r.elem, r.ext, r.cells.map (renV G k)⟩
noncomputable def CRow.obj (r : CRow) : AObj := rowObj r.elem r.cells .none r.ext
/-- objects, laid behind a memory -/
noncomputable def layRows (m : Mem) (l : List CRow) : Mem := ⟨T.setL (l.map CRow.obj) m.next m.objs, m.next + l.length⟩
theorem layRows_next (m : Mem) (l : List CRow) : (layRows m l).next = m.next + l.length := rfl
theorem layRows_get (m : Mem) (l : List CRow) (b : Nat) : (layRows m l).objs.get b = if b < m.next then m.objs.get b else if b < m.next + l.length then (l.map CRow.obj)[b - m.next]? else m.objs.get b := by
  unfold layRows
  simp only [T.get_setL, List.length_map]
theorem layRows_old (m : Mem) (l : List CRow) : Old m.next m (layRows m l) := ⟨by rw [layRows_next]; omega, fun x hx => by rw [layRows_get, if_pos hx]⟩
theorem layRows_vw (m : Mem) (l : List CRow) {j : Nat} {r : CRow} (h : l[j]? = some r) : vw (layRows m l) (m.next + j) = some ⟨true, r.elem, r.ext, r.cells⟩ := by
  have hj : j < l.length := (List.getElem?_eq_some_iff.1 h).1
  unfold vw
  rw [layRows_get, if_neg (by omega), if_pos (by omega), show m.next + j - m.next = j from by omega, List.getElem?_map, h]
  exact vwO_rowObj _ _ _
/-- what a run left: just these rows -/
def ranTo (G : Nat) (r : Option (Value × Mem)) (v : Value) (l : List CRow) : Prop :=
  ∃ M, r = some (v, M) ∧ M.next = G + l.length ∧ (okV G v && l.all fun r => r.cells.all (okV G)) = true ∧ ∀ j r, l[j]? = some r → vw M (G + j) = some ⟨true, r.elem, r.ext, r.cells⟩
theorem row_ren {P : Program} {G k : Nat} {E1 E' : Env} {i : Info} {M : Mem} {b : Nat} {r : CRow} {w : World} {N : Nat} {w0 : World} (he : Env.ren G k E1 E') (H : MR P N w0 E1 M w) (hE : E1 b = some i)
    (hv : vw M b = some ⟨true, r.elem, r.ext, r.cells⟩) (hok : r.cells.all (okV G) = true) : ∃ ob, w.heap[i.blk]? = some ob ∧ ObjR P E' i (r.ren G k).obj ob ∧ N ≤ i.blk := by
  obtain ⟨q, h1, h2, h3, h4, h5, h6, h7, h8⟩ := vw_spec hv
  have hq := rowW_some (h7 rfl)
  obtain ⟨ob, g1, g2⟩ := H.objs b i _ hE hq rfl
  refine ⟨ob, g1, ?_, H.own b i _ hE hq rfl⟩
  cases g2 with
  | row R =>
    simp only at h2 h3 h4
    refine .row ⟨by show _ = r.elem; rw [← h3]; exact R.elem, ?_, ?_, ?_, ?_⟩
    · intro j v hj
      have hj' : (r.cells.map (renV G k))[j]? = some v := by
        have : vwRow true ⟨T.ofList (r.cells.map (renV G k)), (r.cells.map (renV G k)).length, [], r.elem, .none, r.ext⟩ = _ := vwO_rowObj r.elem (r.cells.map (renV G k)) r.ext
        obtain ⟨h0, _, _, _, _, k6⟩ := vwRow_spec this
        simp only at k6
        rw [← k6 j]; exact hj
      rw [List.getElem?_map, Option.map_eq_some_iff] at hj'
      obtain ⟨u, hu, rfl⟩ := hj'
      obtain ⟨v', g3, g4⟩ := R.cell j u (by rw [h6]; exact hu)
      exact ⟨v', g3, ren_V he (List.all_eq_true.1 hok u (List.mem_of_getElem? hu)) g4⟩
    · show _ = i.shift + (r.cells.map (renV G k)).length + i.extra * P.cellsOf r.elem
      rw [List.length_map, ← h2, ← h3]; exact R.size
    · intro hx; exact R.exact' (by rw [h4]; exact hx)
    · have := R.fz; rw [h5] at this; exact this
/-- A CLOSED CALL: run once from a memory of nothing; its rows are laid behind any memory -/
theorem closed_calls {P : Program} {G N : Nat} {w0 : World} (pk : ∀ N' w0', ProgOk (mkTabs P G .lf) N' G w0') {f : FuncId} {n : Nat} {v : Value} {l : List CRow} (hr : ranTo G (runF (mkTabs P G .lf) n f [] ⟨.lf, G⟩) v l)
    {E : Env} {m : Mem} {w : World} (HM : MR P N w0 E m w) (HG : GlobE G E) (hGn : G ≤ m.next) :
    Calls P f #[] w fun e w' => ∃ v' E', e = .returned v' ∧ VR E' (renV G m.next v) v' ∧ MR P N w0 E' (layRows m (l.map (CRow.ren G m.next))) w' ∧ MExt m.next E m E' (layRows m (l.map (CRow.ren G m.next))) := by
  obtain ⟨M, hrun, hnext, hok, hrows⟩ := hr
  simp only [Bool.and_eq_true] at hok
  obtain ⟨hokv, hokl⟩ := hok
  have hGh : G ≤ w.heap.size := by
    cases G with
    | zero => omega
    | succ g => have := HM.ub g _ (HG g (by omega)); exact this
  have H0 : MR (mkTabs P G .lf).p w.heap.size w (Env.globs G) ⟨.lf, G⟩ w := by
    refine ⟨fun b i o _ ho => ?_, fun b i hb => ?_, fun b hb => ⟨T.get_lf _, by unfold Env.globs; rw [if_neg (by show ¬ b < G; have : G ≤ b := hb; omega)]⟩, fun b b' i i' o o' _ _ _ ho => ?_, fun b i o _ ho => ?_, .refl _ _, Nat.le_refl _⟩
    · rw [T.get_lf] at ho; cases ho
    · unfold Env.globs at hb; split at hb
      · cases hb; show b < _; omega
      · cases hb
    · rw [T.get_lf] at ho; cases ho
    · rw [T.get_lf] at ho; cases ho
  refine (calls_of_runF (pk w.heap.size w) H0 (globs_ok G) .nil n hrun).mono ?_
  rintro e w' ⟨v', E1, rfl, hvr, H1⟩
  let E' : Env := fun b => if b < m.next then E b else if b < m.next + l.length then E1 (b - m.next + G) else none
  have hEold : ∀ b, b < m.next → E' b = E b := fun b hb => if_pos hb
  have hEnew : ∀ b i, m.next ≤ b → E' b = some i → b < m.next + l.length ∧ E1 (b - m.next + G) = some i := by
    intro b i hb h
    simp only [E'] at h
    rw [if_neg (by omega)] at h
    split at h
    · rename_i h2; exact ⟨h2, h⟩
    · cases h
  have hle : Env.le E E' := fun b i hb => by
    by_cases h : b < m.next
    · rw [hEold b h]; exact hb
    · rw [(HM.dom b (by omega)).2] at hb; cases hb
  have hren : Env.ren G m.next E1 E' := fun b i hb h => by
    have hlt : b < G + l.length := by
      by_cases h2 : M.next ≤ b
      · rw [(H1.dom b h2).2] at h; cases h
      · omega
    simp only [E']
    rw [if_neg (by omega), if_pos (by omega), show m.next + (b - G) - m.next + G = b from by omega]; exact h
  have hrow : ∀ b i, m.next ≤ b → E' b = some i → ∃ r : CRow, (l.map (CRow.ren G m.next))[b - m.next]? = some (r.ren G m.next) ∧ ∃ ob, w'.heap[i.blk]? = some ob ∧ ObjR P E' i (r.ren G m.next).obj ob ∧ w.heap.size ≤ i.blk := by
    intro b i hb h
    obtain ⟨h1, h2⟩ := hEnew b i hb h
    have hj : l[b - m.next]? = some (l[b - m.next]'(by omega)) := List.getElem?_eq_getElem _
    refine ⟨_, by rw [List.getElem?_map, hj]; rfl, ?_⟩
    have hv := hrows _ _ hj
    rw [show G + (b - m.next) = b - m.next + G from by omega] at hv
    exact row_ren hren H1 h2 hv (List.all_eq_true.1 hokl _ (List.mem_of_getElem? hj))
  have hget : ∀ b o, m.next ≤ b → (layRows m (l.map (CRow.ren G m.next))).objs.get b = some o → (∃ i, E' b = some i) → ∃ r : CRow, (l.map (CRow.ren G m.next))[b - m.next]? = some r ∧ o = r.obj := by
    intro b o hb ho ⟨i, hi⟩
    obtain ⟨h1, _⟩ := hEnew b i hb hi
    rw [layRows_get, if_neg (by omega), if_pos (by rw [List.length_map]; exact h1), List.getElem?_map, Option.map_eq_some_iff] at ho
    obtain ⟨r, hr, rfl⟩ := ho
    exact ⟨r, hr, rfl⟩
  refine ⟨v', E', rfl, ren_V hren hokv hvr, ⟨?_, ?_, ?_, ?_, ?_, ?_, ?_⟩, ⟨hle, ?_, ?_⟩⟩
  · intro b i o hb ho hl
    by_cases h : b < m.next
    · rw [layRows_get, if_pos h] at ho
      rw [hEold b h] at hb
      obtain ⟨ob, h1, h2⟩ := HM.objs b i o hb ho hl
      exact ⟨ob, by rw [H1.base.block _ (HM.ub b i hb)]; exact h1, h2.mono hle⟩
    · obtain ⟨r, h1, h2⟩ := hget b o (by omega) ho ⟨i, hb⟩
      obtain ⟨r', h3, ob, h4, h5, h6⟩ := hrow b i (by omega) hb
      obtain rfl := Option.some.inj (h1.symm.trans h3)
      subst h2
      exact ⟨ob, h4, h5⟩
  · intro b i hb
    by_cases h : b < m.next
    · rw [hEold b h] at hb
      have := HM.ub b i hb
      have := H1.base.size; omega
    · exact H1.ub _ i (hEnew b i (by omega) hb).2
  · intro b hb
    rw [layRows_next, List.length_map] at hb
    refine ⟨?_, ?_⟩
    · rw [layRows_get, if_neg (by omega), if_neg (by rw [List.length_map]; omega)]
      exact (HM.dom b (by omega)).1
    · simp only [E']; rw [if_neg (by omega), if_neg (by omega)]
  · intro b b' i i' o o' hne hb hb' ho ho' hl hl'
    have key : ∀ (b b' : Nat) (i i' : Info), b < m.next → m.next ≤ b' → E' b = some i → E' b' = some i' → i.blk ≠ i'.blk := by
      intro b b' i i' h1 h2 h3 h4
      rw [hEold b h1] at h3
      have h5 := HM.ub b i h3
      obtain ⟨r', _, ob, _, _, h6⟩ := hrow b' i' h2 h4
      omega
    by_cases h : b < m.next
    · by_cases h' : b' < m.next
      · rw [layRows_get, if_pos h] at ho
        rw [layRows_get, if_pos h'] at ho'
        rw [hEold b h] at hb
        rw [hEold b' h'] at hb'
        exact HM.inj b b' i i' o o' hne hb hb' ho ho' hl hl'
      · exact key b b' i i' h (by omega) hb hb'
    · by_cases h' : b' < m.next
      · exact (key b' b i' i h' (by omega) hb' hb).symm
      · obtain ⟨h1, h2⟩ := hEnew b i (by omega) hb
        obtain ⟨h3, h4⟩ := hEnew b' i' (by omega) hb'
        have hj : l[b - m.next]? = some (l[b - m.next]'(by omega)) := List.getElem?_eq_getElem _
        have hj' : l[b' - m.next]? = some (l[b' - m.next]'(by omega)) := List.getElem?_eq_getElem _
        have hv := hrows _ _ hj
        have hv' := hrows _ _ hj'
        obtain ⟨q, _, _, _, _, _, _, k1, _⟩ := vw_spec hv
        obtain ⟨q', _, _, _, _, _, _, k1', _⟩ := vw_spec hv'
        have e1 := rowW_some (k1 rfl)
        have e2 := rowW_some (k1' rfl)
        rw [show G + (b - m.next) = b - m.next + G from by omega] at e1
        rw [show G + (b' - m.next) = b' - m.next + G from by omega] at e2
        exact H1.inj _ _ i i' _ _ (by omega) h2 h4 e1 e2 rfl rfl
  · intro b i o hb ho hown
    by_cases h : b < m.next
    · rw [layRows_get, if_pos h] at ho
      rw [hEold b h] at hb
      exact HM.own b i o hb ho hown
    · obtain ⟨r', _, ob, _, _, h6⟩ := hrow b i (by omega) hb
      have := HM.size; omega
  · have := HM.size
    exact HM.base.trans (H1.base.mono this)
  · have := HM.size; have := H1.base.size; omega
  · intro b hb hn
    refine ⟨by rw [hEold b hb]; exact hn, by rw [layRows_get, if_pos hb]⟩
  · rw [layRows_next]; omega
/-- the tables with overrides, each of which is met -/
theorem progOk_ov {P : Program} {G N : Nat} {w0 : World} {ov : T (List Value → Mem → Option (Value × Mem))} (pk : ProgOk (mkTabs P G .lf) N G w0)
    (h : ∀ f g, ov.get f = some g → (∃ fn c, P.funcs[f]? = some fn ∧ fn.body = some c) ∧ ∀ args m v m', g args m = some (v, m') → ∀ (E : Env) (args' : List Value) (w : World), MR P N w0 E m w → GlobE G E → VRs E args args' →
      Calls P f ⟨args'⟩ w fun e w' => ∃ v' E', e = .returned v' ∧ VR E' v v' ∧ MR P N w0 E' m' w' ∧ MExt m.next E m E' m') : ProgOk (mkTabs P G ov) N G w0 := by
  refine ⟨mkTabs_ok _ _ _, rfl, pk.names, pk.codes, pk.ext, fun f g args m v m' hg hr E args' w HM HG ha => ?_⟩
  obtain ⟨⟨fn, c, h1, h2⟩, h3⟩ := h f g hg
  refine ⟨?_, h3 args m v m' hr E args' w HM HG ha⟩
  have : (mkTabs P G .lf).funcs.get f = some fn := by
    simp only [mkTabs, T.get_ofList]; simpa using h1
  exact run_callFunc pk this h2 _
noncomputable def memO (r : Option (Value × Mem)) : Mem := match r with | some (_, M) => M | none => ⟨.lf, 0⟩
theorem ranTo_of {G : Nat} {r : Option (Value × Mem)} {v : Value} {l : List CRow} (h1 : r = some (v, memO r)) (h2 : Nat.beq (memO r).next (G + l.length) = true) (h3 : (okV G v && l.all fun r => r.cells.all (okV G)) = true)
    (h4 : (List.range l.length).map (fun j => vw (memO r) (G + j)) = l.map fun r => some ⟨true, r.elem, r.ext, r.cells⟩) : ranTo G r v l := by
  refine ⟨_, h1, Nat.eq_of_beq_eq_true h2, h3, fun j r' hj => ?_⟩
  have hlt := (List.getElem?_eq_some_iff.1 hj).1
  have := congrArg (fun x => x[j]?) h4
  simp only [List.getElem?_map, List.getElem?_range hlt, hj, Option.map_some, Option.some.injEq] at this
  exact this
end Go.Ev
