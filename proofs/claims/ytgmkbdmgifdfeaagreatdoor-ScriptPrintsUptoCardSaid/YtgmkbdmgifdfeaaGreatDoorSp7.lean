/- The reference: words, quotes, rows. -/
import Derived.Test.YtgmkbdmgifdfeaaGreatDoorSp6
set_option linter.unusedSimpArgs false
set_option linter.unusedVariables false
set_option maxRecDepth 8000
namespace Go.Proofs.YtgmkbdmgifdfeaaGreatDoor
open Go Go.Ev
/-- the document's printer -/
def RPr (n0 : Nat) (m : Mem) (p : Nat) (out : List UInt8) (g : Bool) : Prop := n0 ≤ p ∧ p < m.next ∧ vw m p = some ⟨true, 93, false, [.string ⟨⟨out⟩⟩, .bool g]⟩
theorem _root_.Go.Ev.Keep.trans {ob : Option Nat} {a b c : Mem} (h : Keep ob a b) (k : Keep ob b c) : Keep ob a c := ⟨Nat.le_trans h.1 k.1, fun x hx ho => (k.2 x (Nat.lt_of_lt_of_le hx h.1) ho).trans (h.2 x hx ho)⟩
theorem _root_.Go.Ev.Keep.refl (ob : Option Nat) (m : Mem) : Keep ob m m := ⟨Nat.le_refl _, fun _ _ _ => rfl⟩
theorem _root_.Go.Ev.Keep.old {p n0 : Nat} {a b : Mem} (h : Keep (some p) a b) (hp : n0 ≤ p) (hn : n0 ≤ a.next) : Old n0 a b := ⟨h.1, fun x hx => h.2 x (by omega) (by intro e; cases e; omega)⟩
theorem _root_.Go.Ev.Keep.ofOld {ob : Option Nat} {a b : Mem} (h : Old a.next a b) : Keep ob a b := ⟨h.1, fun x hx _ => h.2 x hx⟩
/-- the printer, written -/
theorem RPr.out {n0 p : Nat} {m : Mem} {out out' : List UInt8} {g : Bool} (h : RPr n0 m p out g) : RPr n0 (stM m p 0 [.string ⟨⟨out'⟩⟩]) p out' g ∧ Keep (some p) m (stM m p 0 [.string ⟨⟨out'⟩⟩]) := by
  obtain ⟨h1, h2, h3⟩ := h
  have hs : stOk ⟨true, 93, false, [.string ⟨⟨out⟩⟩, .bool g]⟩ 0 [.string ⟨⟨out'⟩⟩] = true := by simp
  exact ⟨⟨h1, by rw [stM_next]; exact h2, by rw [vw_stM_eq h3 hs]; rfl⟩, stM_keepS _ _ _⟩
theorem RPr.bad {n0 p : Nat} {m : Mem} {out : List UInt8} {g g' : Bool} (h : RPr n0 m p out g) : RPr n0 (stM m p 1 [.bool g']) p out g' ∧ Keep (some p) m (stM m p 1 [.bool g']) := by
  obtain ⟨h1, h2, h3⟩ := h
  have hs : stOk ⟨true, 93, false, [.string ⟨⟨out⟩⟩, .bool g]⟩ 1 [.bool g'] = true := by simp
  exact ⟨⟨h1, by rw [stM_next]; exact h2, by rw [vw_stM_eq h3 hs]; rfl⟩, stM_keepS _ _ _⟩
theorem RPr.keep {n0 p : Nat} {m m' : Mem} {out : List UInt8} {g : Bool} (h : RPr n0 m p out g) (k : Old m.next m m') : RPr n0 m' p out g := ⟨h.1, Nat.lt_of_lt_of_le h.2.1 k.1, by rw [k.vw h.2.1]; exact h.2.2⟩
theorem rint_ok {n0 p : Nat} {m : Mem} {out : List UInt8} {g : Bool} {z : Int} (h : RPr n0 m p out g) (hn : n0 ≤ m.next) (hp : PowAt m) (hp0 : 0 < n0) (hz : i64R z) (hb : out.length ≤ 900000000) :
    CallsA tb 35 [.pointer (some ⟨p, 0, none⟩), .int .i64 z] m (retR fun r m' => RPr n0 m' p (out ++ decI z) (g || greatI z) ∧ Keep (some p) m m') := by
  refine callsS Tryz.func35 e35 rfl rfl ?_
  simp only [s35, List.replicate, List.length_cons, List.length_nil, List.cons_append, List.nil_append, Nat.reduceAdd, Nat.reduceSub]
  refine xseqP (PS := fun l' ds' m' => ds' = [] ∧ Sl [.pointer (some ⟨p, 0, none⟩), .int .i64 z] 28 l' ∧ RPr n0 m' p out (g || greatI z) ∧ Keep (some p) m m') ?_ ?_
  · refine xregQ fun Q' hQ => ?_
    have hrow := h.2.2
    cases g <;> by_cases h1 : 2147483647 < z <;> by_cases h2 : z < -2147483648 <;> simp [hrow, h1, h2] <;> subst hQ <;>
      exact ⟨rfl, rfl, Sl.mk rfl rfl, by have := h.bad (g' := true); have h3 := h.bad (g' := false); simp [greatI, h1, h2]; first | exact this.1 | exact h3.1, by first | exact (h.bad).2⟩
  clear h
  rintro l ds m1 ⟨rfl, ⟨ts, hts, rfl⟩, h, hK⟩
  have hrow := h.2.2
  have hO := hK.old h.1 hn
  refine xdrw 3 fun Q' hQ => ?_
  simp [hts, hrow]
  rw [b_cat _ _ _ _ _ (by simp only [List.length_cons, List.length_nil]; omega)]
  simp [hts, hrow]
  refine xitoa hz.1 hz.2 (hp.old hO hp0) ?_
  simp [hts, hrow]
  rw [b_cat _ _ _ _ _ (by simp only [List.length_cons, List.length_append, List.length_nil]; omega)]
  simp [hts, hrow]
  rw [b_cat _ _ _ _ _ (by have := itoa_le hz; simp only [List.length_cons, List.length_append, List.length_nil]; omega)]
  simp [hts, hrow]
  subst hQ
  exact ⟨rfl, _, rfl, h.out.1, hK.trans h.out.2⟩
theorem rnum_ok {m : Mem} {z : Int} (hp : PowAt m) (hz : u64R z) : CallsA tb 36 [.int .u64 z] m (retR fun r m' => r = .string ⟨⟨decU z⟩⟩ ∧ m' = m) := by
  refine callsS Tryz.func36 e36 rfl rfl ?_
  simp only [s36, List.replicate, List.length_cons, List.length_nil, List.cons_append, List.nil_append, Nat.reduceAdd, Nat.reduceSub]
  refine xseq (xregQ fun Q' hQ => ?_)
  simp
  subst hQ
  refine xseq (xregQ fun Q' hQ => ?_)
  simp
  refine xfmt hz.1 hz.2 hp ?_
  rw [b_cat _ _ _ _ _ (by have := decU_le hz; simp only [List.length_cons, List.length_append, List.length_nil]; omega)]
  simp
  subst hQ
  exact xret ⟨rfl, _, resX_one _, rfl, rfl⟩
theorem rway_ok {n0 p : Nat} {m : Mem} {out : List UInt8} {g : Bool} {z : Int} (h : RPr n0 m p out g) (hb : out.length ≤ 900000000) :
    CallsA tb 69 [.pointer (some ⟨p, 0, none⟩), .int .i64 z] m (retR fun r m' => RPr n0 m' p (out ++ (if z = 1 then [32, 101, 120, 112, 114, 101, 115, 115] else [32, 102, 114, 101, 105, 103, 104, 116])) g ∧ Keep (some p) m m') := by
  have hrow := h.2.2
  refine callsS Tryz.func69 e69 rfl rfl ?_
  simp only [s69, List.replicate, List.length_cons, List.length_nil, List.cons_append, List.nil_append, Nat.reduceAdd, Nat.reduceSub]
  refine xseq (xregQ fun Q' hQ => ?_)
  simp
  subst hQ
  refine xif (v := decide (z = 1)) rfl (fun h1 => ?_) (fun h1 => ?_)
  all_goals
    simp only [decide_eq_true_eq, decide_eq_false_iff_not] at h1
    refine xregQ fun Q' hQ => ?_
    simp [hrow]
    rw [b_cat _ _ _ _ _ (by simp only [List.length_cons, List.length_append, List.length_nil]; omega)]
    simp [hrow]
    subst hQ
    exact ⟨rfl, _, rfl, by simp only [h1, if_true, if_false]; exact h.out.1, h.out.2⟩
end Go.Proofs.YtgmkbdmgifdfeaaGreatDoor
set_option maxRecDepth 8000
namespace Go.Proofs.YtgmkbdmgifdfeaaGreatDoor
open Go Go.Ev
/-- a slice of ours, all of its row, whose room may be known -/
def OwnB (n0 : Nat) (m : Mem) (v : Value) (e : TypeId) (n : Nat) (cells : List Value) : Prop :=
  Own n0 m v e n cells ∨ ∃ b, v = .slice (some ⟨b, 0, none⟩) n n ∧ n0 ≤ b ∧ b < m.next ∧ vw m b = some ⟨true, e, false, cells⟩
theorem OwnB.shape {n0 n : Nat} {m : Mem} {v : Value} {e : TypeId} {cells : List Value} (h : OwnB n0 m v e n cells) : ∃ a, v = .slice a n n := by
  rcases h with h | ⟨b, rfl, _⟩
  · exact h.shape
  · exact ⟨_, rfl⟩
theorem OwnB.at {n0 n : Nat} {m : Mem} {v : Value} {e : TypeId} {cells : List Value} (h : OwnB n0 m v e n cells) : SlAt m v n cells := by
  rcases h with h | ⟨b, rfl, h1, h2, h3⟩
  · exact h.at
  · refine .inr ⟨b, 0, n, rfl, Nat.le_refl _, .inr ⟨?_, h2⟩⟩
    have := rd_vw h3 (o := 0) (k := cells.length) (by simp)
    rw [this]; simp [takeN]
theorem OwnB.append {n0 n k sz : Nat} {m : Mem} {v : Value} {e : TypeId} {cells new : List Value} {m1 : Mem} (h : OwnB n0 m v e n cells) (hm : Old m.next m m1) (hle : n0 ≤ m.next) (hc : cells.length = n * sz) (hn : new.length = (k + 1) * sz) (ho : new.all oneC = true) :
    ∃ v' m', appendTo m1 e sz v (k + 1) new = some (v', m') ∧ Own n0 m' v' e (n + (k + 1)) (cells ++ new) ∧ Keep (blkV v) m1 m' ∧ Old n0 m1 m' ∧ (∃ b, v' = .slice (some ⟨b, 0, none⟩) (n + (k + 1)) (n + (k + 1)) ∧ m1.next ≤ b) := by
  rcases h with h | ⟨b, rfl, h1, h2, h3⟩
  · exact h.append hm hle hc hn ho
  have h0 := hm.1
  have h4 : vw m1 b = some ⟨true, e, false, cells⟩ := by rw [hm.vw h2]; exact h3
  have e1 := at_W (m := m1) e sz b 0 none n n (k + 1) new
  rw [h4, atW_some, if_neg (by omega), if_pos ⟨rfl, .inr (by simp [hc])⟩] at e1
  refine ⟨_, _, e1, .inr ⟨m1.next, rfl, by omega, by rw [growM_next]; omega, ?_⟩, ⟨(growM_keep none _ _).1, fun x hx _ => (growM_keep none _ _).2 x hx (by intro e; cases e)⟩, (Old.refl _ _).grow (by omega) _ _, ⟨_, rfl, Nat.le_refl _⟩⟩
  rw [vw_growM, if_pos rfl]
  simp only
  rw [← hc, takeN_self]
theorem b_quo (m : Mem) (t : TypeId) (x y : Operand) (k : IntKind) (a b : Nat) (hb : 0 < b) : binA tb m .quo t x y (.int k (a : Int)) (.int k (b : Int)) = some (.int k (k.wrap ((a / b : Nat) : Int))) := by
  obtain ⟨b, rfl⟩ : ∃ c, b = c + 1 := ⟨b - 1, by omega⟩
  simp only [binA, kEq_self, intOp]
  show oB (quoI (.ofNat a) (.ofNat (b + 1))) _ = _
  simp only [quoI, oB, vInt_eq, wrapF_eq]; rfl
theorem b_rem (m : Mem) (t : TypeId) (x y : Operand) (k : IntKind) (a b : Nat) (hb : 0 < b) : binA tb m .rem t x y (.int k (a : Int)) (.int k (b : Int)) = some (.int k ((a % b : Nat) : Int)) := by
  obtain ⟨b, rfl⟩ : ∃ c, b = c + 1 := ⟨b - 1, by omega⟩
  simp only [binA, kEq_self, intOp]
  show oI k (remI (.ofNat a) (.ofNat (b + 1))) = _
  simp only [remI, oI, vInt_eq]; rfl
theorem c29_9 {m : Mem} {v : Value} {bs : List UInt8} (h : SlAt m v bs.length (u8s bs)) : opConv tb m 29 9 v = .r (.string ⟨⟨bs⟩⟩) := by
  rcases h with ⟨rfl, h1, h2⟩ | ⟨b, o, c, rfl, h1, h2 | ⟨h2, h3⟩⟩
  · obtain rfl : bs = [] := List.length_eq_zero_iff.1 h1
    simp [opConv, convNilSl]
  · obtain rfl : bs = [] := by have := congrArg List.length h2; simpa using this
    simp [opConv, convSl]
  · simp only [opConv, Ty.ti29, Ty.ti9, convSl, Ty.d29, Ty.d9, Ty.ti5, Ty.d5]
    cases hl : bs with
    | nil => rfl
    | cons x l =>
      simp only [List.length_cons]
      obtain ⟨e1, e2⟩ := rd_some h2
      obtain ⟨r, g1, g2, g3⟩ := e2 (by rw [u8s_length, hl]; simp)
      rw [u8s_length, hl] at g2
      simp only [List.length_cons] at g2
      have : bytesAt m b o (l.length + 1) = some ⟨⟨x :: l⟩⟩ := by
        unfold bytesAt
        rw [g1]; simp only [oB]
        rw [g2]; simp only
        rw [bytesL_u8s]
      simp only [this]
theorem len_succ {α : Type} {l : List α} {n : Nat} (h : l.length = n + 1) : ∃ x t, l = x :: t ∧ t.length = n := by
  cases l with
  | nil => cases h
  | cons x t => exact ⟨x, t, rfl, by simpa using h⟩
theorem app_step {F : FC} {Q : PostA} {d : Option Tmp} {op : Op} {ty : TypeId} {os : List SOp} {l : List Value} {ds : List Deferred} {m mm : Mem} {e : TypeId} {sz n : Nat} {v : Value} {new : List Value} {P : Value → Mem → Prop} (h : ∃ v' m', appendTo mm e sz v n new = some (v', m') ∧ P v' m')
    (k : ∀ v' m', P v' m' → wpR tb F Q os (setSl d v' l) ds m') : wpS tb F Q d op ty os (oE (appendTo mm e sz v n new)) l ds m := by
  obtain ⟨v', m', h1, h2⟩ := h
  rw [h1]; exact k v' m' h2
def bytesV (l : List UInt8) : List Value := l.map fun b => .int .u8 (b.toNat : Int)
/-- the document's quote -/
theorem rquote_ok {m : Mem} {v : Value} {bs : List UInt8} (hv : SlAt m v bs.length (u8s bs)) (hb : bs.length ≤ 100000000) :
    CallsA tb 68 [v] m (retR fun r m' => r = .string ⟨⟨quoteB bs⟩⟩ ∧ Old m.next m m') := by
  obtain ⟨av, cv, rfl⟩ := hv.shape
  refine callsS Tryz.func68 e68 rfl rfl ?_
  simp only [s68, List.replicate, List.length_cons, List.length_nil, List.cons_append, List.nil_append, Nat.reduceAdd, Nat.reduceSub]
  refine xseq (xregQ fun Q' hQ => ?_)
  simp
  subst hQ
  refine xseqP (PS := fun l' ds' m1 => ds' = [] ∧ Old m.next m m1 ∧ ∃ w, OwnB m.next m1 w 5 1 (u8s [34]) ∧ Sl [.slice av bs.length cv, undef, .string ⟨⟨[]⟩⟩, w] 61 l') ?_ ?_
  · refine xregQ fun Q' hQ => ?_
    simp
    subst hQ
    refine ⟨rfl, rfl, (Old.refl _ _).new (Nat.le_refl _) _, _, .inr ⟨m.next, rfl, Nat.le_refl _, by rw [next_newObjA]; omega, ?_⟩, Sl.mk rfl rfl⟩
    simp [u8s, byteV, fNat]
  rintro l ds m1 ⟨rfl, hO1, w1, hw1, ⟨ts, hts, rfl⟩⟩
  have hfl : ∀ l : List UInt8, (l.flatMap qByte).length ≤ 4 * l.length := by
    intro l
    induction l with
    | nil => simp
    | cons b l ih =>
      have : (qByte b).length ≤ 4 := by unfold qByte; repeat (split <;> try simp)
      simp only [List.flatMap_cons, List.length_append, List.length_cons]; omega
  obtain ⟨x4, ts4, rfl, hts4⟩ := len_succ hts
  obtain ⟨x5, ts5, rfl, hts5⟩ := len_succ hts4
  refine xseqP (PS := fun l' ds' m' => ds' = [] ∧ Old m.next m m' ∧ ∃ w, OwnB m.next m' w 5 (34 :: bs.flatMap qByte).length (u8s (34 :: bs.flatMap qByte)) ∧ Sl [.slice av bs.length cv, undef, .string ⟨⟨[]⟩⟩, w] 61 l') ?_ ?_
  · refine xseq (xregQ fun Q' hQ => ?_)
    simp [hts5]
    subst hQ
    refine xblock (xwhile (N := bs.length) (I := fun n l ds m' => ∃ k w y5, n = bs.length - k ∧ k ≤ bs.length ∧ ds = [] ∧ Old m.next m m' ∧ OwnB m.next m' w 5 (34 :: (bs.take k).flatMap qByte).length (u8s (34 :: (bs.take k).flatMap qByte)) ∧
      Sl [.slice av bs.length cv, undef, .string ⟨⟨[]⟩⟩, w, .int .i64 (k : Nat), y5] 59 l) ?_ ?_)
    · exact ⟨0, w1, _, by simp, by omega, rfl, hO1, by simpa using hw1, Sl.mk rfl (by simp [hts5])⟩
    clear hw1 hO1 hts
    rintro n l ds m2 ⟨k, w, y5, rfl, hk, rfl, hO, hw, ⟨ts, hts, rfl⟩⟩
    refine xseq (xseq (xregQ fun Q' hQ => ?_))
    simp [hts]
    subst hQ
    refine xif (v := decide ((k : Int) < (bs.length : Int))) (by simp [hts]) (fun h => xskip ?_) (fun h => xexit ?_)
    · simp only [decide_eq_true_eq] at h
      have hkl : k < bs.length := by omega
      have hvm := hv.old hO
      have q : (u8s bs)[k]? = some (.int .u8 (bs[k].toNat : Int)) := by rw [u8s_get, List.getElem?_eq_getElem hkl]; rfl
      obtain ⟨b2, o, c2, h1, h5, h6, h2, h3⟩ := hvm.load q
      simp only [Value.slice.injEq] at h1
      obtain ⟨rfl, -, rfl⟩ := h1
      have ql := h3 (t := 5) (s := none) Ty.ti5 Ty.g5
      have htk : bs.take (k + 1) = bs.take k ++ [bs[k]] := by rw [List.take_add_one, List.getElem?_eq_getElem hkl]; rfl
      have hnl : bs[k].toNat < 256 := bs[k].toNat_lt
      generalize hc : bs[k] = c at ql htk hnl
      have hfk := hfl (bs.take k)
      rw [List.length_take] at hfk
      refine xseqP (PS := fun l' ds' m' => ds' = [] ∧ Old m.next m m' ∧ ∃ w, OwnB m.next m' w 5 (34 :: (bs.take (k + 1)).flatMap qByte).length (u8s (34 :: (bs.take (k + 1)).flatMap qByte)) ∧
        Sl [.slice (some ⟨b2, o, none⟩) bs.length cv, undef, .string ⟨⟨[]⟩⟩, w, .int .i64 (k : Nat), .int .u8 (c.toNat : Int)] 59 l') ?_ ?_
      · refine xblock (xseq (xregQ fun Q' hQ => ?_))
        simp [hts, ql, h, hkl]
        subst hQ
        refine xblock (xseq (xregQ fun Q' hQ => ?_))
        have e34 : c = 34 ↔ c.toNat = 34 := by rw [← UInt8.toNat_inj]; rfl
        have e92 : c = 92 ↔ c.toNat = 92 := by rw [← UInt8.toNat_inj]; rfl
        have e10 : c = 10 ↔ c.toNat = 10 := by rw [← UInt8.toNat_inj]; rfl
        have e9 : c = 9 ↔ c.toNat = 9 := by rw [← UInt8.toNat_inj]; rfl
        -- what an append leaves
        have happ : ∀ (ob : AObj) (x : UInt8) (new : List UInt8), qByte c = x :: new → ∃ v' m', appendTo (newObjA m2 ob) 5 1 w (new.length + 1) (bytesV (x :: new)) = some (v', m') ∧ Old m.next m m' ∧ OwnB m.next m' v' 5 (34 :: (bs.take (k + 1)).flatMap qByte).length (u8s (34 :: (bs.take (k + 1)).flatMap qByte)) := by
          intro ob x new hq
          obtain ⟨v', m', a1, a2, a3, a4, _⟩ := hw.append (k := new.length) (sz := 1) (new := u8s (x :: new)) ((Old.refl _ m2).new (Nat.le_refl _) ob) hO.1 (by simp) (by simp) (by simp)
          refine ⟨v', m', by rw [← a1, u8s_map]; rfl, hO.trans (((Old.refl _ _).new hO.1 _).trans a4), .inl ?_⟩
          have e1 : u8s (34 :: (bs.take (k + 1)).flatMap qByte) = u8s (34 :: (bs.take k).flatMap qByte) ++ u8s (x :: new) := by rw [htk]; simp [u8s_map, hq]
          have e2 : (34 :: (bs.take (k + 1)).flatMap qByte).length = (34 :: (bs.take k).flatMap qByte).length + (new.length + 1) := by rw [htk]; simp [hq]; omega
          rw [e1, e2]; exact a2
        obtain ⟨aw, hwe⟩ := hw.shape
        subst hwe
        have hfit : ∀ j, j ≤ 4 → appendFits (.slice aw (34 :: (bs.take k).flatMap qByte).length (34 :: (bs.take k).flatMap qByte).length) j 1 = true := fun j hj => fits_true _ _ _ _ _ (by simp only [List.length_cons]; omega)
        generalize hL : (34 :: (bs.take k).flatMap qByte).length = L at *
        by_cases h34 : c.toNat = 34 ∨ c.toNat = 92
        · have hq : qByte c = [92, c] := by unfold qByte; rw [if_pos]; rwa [e34, e92]
          have hi : ((c.toNat : Int) = 34) = True ∨ (((c.toNat : Int) = 34) = False ∧ ((c.toNat : Int) = 92) = True) := by
            rcases h34 with h | h
            · exact .inl (eq_true (by omega))
            · exact .inr ⟨eq_false (by omega), eq_true (by omega)⟩
          rcases hi with hi | ⟨hi, hj⟩
          all_goals
            first
              | simp [hts, hi, hj]
              | simp [hts, hi]
            subst hQ
            refine xif (v := true) (by simp [hts]) (fun _ => ?_) (fun h => by cases h)
            refine xregQ fun Q' hQ => ?_
            simp [hts, hfit]
            refine app_step (happ _ 92 [c] hq) fun v' m' hP => ?_
            simp [hts]
            subst hQ
            exact ⟨rfl, rfl, hP.1, v', hP.2, Sl.mk rfl (by simp [hts])⟩
        have hn1 : ¬ (c.toNat : Int) = 34 := fun e => h34 (.inl (by omega))
        have hn2 : ¬ (c.toNat : Int) = 92 := fun e => h34 (.inr (by omega))
        have hq0 : ¬ (c = 34 ∨ c = 92) := by rwa [e34, e92]
        simp [hts, hn1, hn2]
        subst hQ
        refine xif (v := false) (by simp [hts]) (fun h => by cases h) (fun _ => ?_)
        refine xseq (xregQ fun Q' hQ => ?_)
        simp [hts]
        subst hQ
        refine xif (v := decide ((c.toNat : Int) = 10)) (by simp [hts]) (fun h10 => ?_) (fun h10 => ?_)
        · simp only [decide_eq_true_eq] at h10
          have hq : qByte c = [92, 110] := by unfold qByte; rw [if_neg hq0, if_neg (by omega), if_pos (e10.2 (by omega))]
          refine xregQ fun Q' hQ => ?_
          simp [hts, hfit]
          refine app_step (happ _ 92 [110] hq) fun v' m' hP => ?_
          simp [hts]
          subst hQ
          exact ⟨rfl, rfl, hP.1, v', hP.2, Sl.mk rfl (by simp [hts])⟩
        simp only [decide_eq_false_iff_not] at h10
        refine xseq (xregQ fun Q' hQ => ?_)
        simp [hts]
        subst hQ
        refine xif (v := decide ((c.toNat : Int) = 9)) (by simp [hts]) (fun h9 => ?_) (fun h9 => ?_)
        · simp only [decide_eq_true_eq] at h9
          have hq : qByte c = [92, 116] := by unfold qByte; rw [if_neg hq0, if_neg (by omega), if_neg (fun e => h10 (by have := e10.1 e; omega)), if_pos (e9.2 (by omega))]
          refine xregQ fun Q' hQ => ?_
          simp [hts, hfit]
          refine app_step (happ _ 92 [116] hq) fun v' m' hP => ?_
          simp [hts]
          subst hQ
          exact ⟨rfl, rfl, hP.1, v', hP.2, Sl.mk rfl (by simp [hts])⟩
        simp only [decide_eq_false_iff_not] at h9
        refine xseq (xregQ fun Q' hQ => ?_)
        by_cases h32 : 32 ≤ c.toNat ∧ c.toNat ≤ 126
        · have hq : qByte c = [c] := by unfold qByte; rw [if_neg hq0, if_pos h32]
          have h32a : ¬ (c.toNat : Int) < 32 := by omega
          have h32b : ¬ (126 : Int) < (c.toNat : Int) := by omega
          simp [hts, h32a, h32b]
          subst hQ
          refine xif (v := false) (by simp [hts]) (fun h => by cases h) (fun _ => ?_)
          refine xregQ fun Q' hQ => ?_
          simp [hts, hfit]
          refine app_step (happ _ c [] hq) fun v' m' hP => ?_
          simp [hts]
          subst hQ
          exact ⟨rfl, rfl, hP.1, v', hP.2, Sl.mk rfl (by simp [hts])⟩
        have hq : qByte c = [92, 120, hexD (c.toNat / 16), hexD (c.toNat % 16)] := by unfold qByte; rw [if_neg hq0, if_neg h32, if_neg (fun e => h10 (by have := e10.1 e; omega)), if_neg (fun e => h9 (by have := e9.1 e; omega))]
        have hi : ((c.toNat : Int) < 32) = True ∨ (((c.toNat : Int) < 32) = False ∧ ((126 : Int) < (c.toNat : Int)) = True) := by
          by_cases e : c.toNat < 32
          · exact .inl (eq_true (by omega))
          · exact .inr ⟨eq_false (by omega), eq_true (by omega)⟩
        have i1 := hexB (c.toNat / 16) (by omega)
        have i2 := hexB (c.toNat % 16) (by omega)
        have s1 : ∀ (x y : Operand) (t : TypeId) (m : Mem), binA tb m .quo t x y (.int .u8 (c.toNat : Int)) (.int .u8 16) = some (.int .u8 ((c.toNat / 16 : Nat) : Int)) := fun x y t m => by
          rw [show (16 : Int) = ((16 : Nat) : Int) from rfl, b_quo _ _ _ _ _ _ _ (by decide), wru8 _ (by omega) (by omega)]
        have s2 : ∀ (x y : Operand) (t : TypeId) (m : Mem), binA tb m .rem t x y (.int .u8 (c.toNat : Int)) (.int .u8 16) = some (.int .u8 ((c.toNat % 16 : Nat) : Int)) := fun x y t m => by
          rw [show (16 : Int) = ((16 : Nat) : Int) from rfl, b_rem _ _ _ _ _ _ _ (by decide)]
        rcases hi with hi | ⟨hi, hj⟩
        all_goals
          first
            | simp [hts, hi, hj]
            | simp [hts, hi]
          subst hQ
          refine xif (v := true) (by simp [hts]) (fun _ => ?_) (fun h => by cases h)
          refine xdrw 3 fun Q' hQ => ?_
          obtain ⟨v', m', a1, hP⟩ := happ (.row ⟨T.setL [.int .u8 ((hexD (c.toNat % 16)).toNat : Int)] 3 (T.setL [.int .u8 ((hexD (c.toNat / 16)).toNat : Int)] 2 (T.setL [.int .u8 120] 1 (T.setL [.int .u8 92] 0 .lf))), 4, [.int .u8 0], 5, .none, false⟩) 92 [120, hexD (c.toNat / 16), hexD (c.toNat % 16)] hq
          have a1' : appendTo (newObjA m2 (.row ⟨T.setL [.int .u8 ((hexD (c.toNat % 16)).toNat : Int)] 3 (T.setL [.int .u8 ((hexD (c.toNat / 16)).toNat : Int)] 2 (T.setL [.int .u8 120] 1 (T.setL [.int .u8 92] 0 .lf))), 4, [.int .u8 0], 5, .none, false⟩)) 5 1 (.slice aw L L) 4 [.int .u8 92, .int .u8 120, .int .u8 ((hexD (c.toNat / 16)).toNat : Int), .int .u8 ((hexD (c.toNat % 16)).toNat : Int)] = some (v', m') := a1
          simp (maxDischargeDepth := 8) [hts, hfit, s1, s2, i1, i2, a1', -Int.natCast_ediv, -Int.natCast_emod]
          subst hQ
          exact ⟨rfl, rfl, hP.1, v', hP.2, Sl.mk rfl (by simp [hts])⟩
      · rintro l ds m3 ⟨rfl, hO3, w3, hw3, ⟨ts, hts, rfl⟩⟩
        refine xregQ fun Q' hQ => ?_
        simp [hts]
        rw [wr64 _ (by omega) (by omega)]
        subst hQ
        exact ⟨bs.length - (k + 1), by omega, k + 1, w3, _, rfl, by omega, rfl, hO3, hw3, Sl.mk rfl (by simp [hts])⟩
    · simp only [decide_eq_false_iff_not] at h
      obtain rfl : k = bs.length := by omega
      rw [List.take_length] at hw
      exact ⟨rfl, rfl, hO, w, hw, Sl.mk rfl (by simp [hts])⟩
  clear hw1 hO1
  rintro l ds m2 ⟨rfl, hO, w, hw, ⟨ts, hts, rfl⟩⟩
  have hfk := hfl bs
  obtain ⟨aw, rfl⟩ := hw.shape
  refine xseqP (PS := fun l' ds' m' => ds' = [] ∧ Old m.next m m' ∧ ∃ w, OwnB m.next m' w 5 (quoteB bs).length (u8s (quoteB bs)) ∧ Sl [.slice av bs.length cv, undef, .string ⟨⟨[]⟩⟩, w] 61 l') ?_ ?_
  · have happ : ∀ (ob : AObj), ∃ v' m', appendTo (newObjA m2 ob) 5 1 (.slice aw (34 :: bs.flatMap qByte).length (34 :: bs.flatMap qByte).length) 1 (bytesV [34]) = some (v', m') ∧ Old m.next m m' ∧ OwnB m.next m' v' 5 (quoteB bs).length (u8s (quoteB bs)) := by
      intro ob
      obtain ⟨v', m', a1, a2, a3, a4, _⟩ := hw.append (k := 0) (sz := 1) (new := u8s [34]) ((Old.refl _ m2).new (Nat.le_refl _) ob) hO.1 (by simp) (by simp) (by simp)
      refine ⟨v', m', by rw [← a1, u8s_map]; rfl, hO.trans (((Old.refl _ _).new hO.1 _).trans a4), .inl ?_⟩
      have e1 : u8s (quoteB bs) = u8s (34 :: bs.flatMap qByte) ++ u8s [34] := by simp [u8s_map, quoteB]
      have e2 : (quoteB bs).length = (34 :: bs.flatMap qByte).length + (0 + 1) := by simp [quoteB]
      rw [e1, e2]; exact a2
    have hfit : appendFits (.slice aw (34 :: bs.flatMap qByte).length (34 :: bs.flatMap qByte).length) 1 1 = true := fits_true _ _ _ _ _ (by simp only [List.length_cons]; omega)
    generalize hL : (34 :: bs.flatMap qByte).length = L at *
    refine xregQ fun Q' hQ => ?_
    simp [hts, hfit]
    refine app_step (happ _) fun v' m' hP => ?_
    simp [hts]
    subst hQ
    exact ⟨rfl, rfl, hP.1, v', hP.2, Sl.mk rfl (by simp [hts])⟩
  rintro l ds m3 ⟨rfl, hO3, w3, hw3, ⟨ts3, hts3, rfl⟩⟩
  refine xseq (xregQ fun Q' hQ => ?_)
  simp [hts3, c29_9 hw3.at]
  subst hQ
  exact xret ⟨rfl, _, resX_one _, by simp [gx], hO3⟩
end Go.Proofs.YtgmkbdmgifdfeaaGreatDoor
set_option maxRecDepth 8000
namespace Go.Proofs.YtgmkbdmgifdfeaaGreatDoor
open Go Go.Ev
theorem resX_cell_tmp {l : List Value} {m : Mem} {i j b : Nat} {t : TypeId} {v : Value} (h : gx l i = .pointer (some ⟨b, 0, none⟩)) (hv : loadA tb t m b 0 = some v) : resX tb [.cell i t, .tmp j] l m = some (.tuple ⟨[v, gx l j]⟩) := by
  have h1 := slots_ofList l i
  have h2 := slots_ofList l j
  rw [gx_eq] at h1 h2
  simp only [ev] at h1 h2
  have h3 : (T.ofList l).get i = some (.pointer (some ⟨b, 0, none⟩)) := by
    cases hg : (T.ofList l).get i with
    | none => rw [hg, h] at h1; cases h1
    | some x => rw [hg, h] at h1; rw [show x = _ from h1]
  simp only [resX, resA, h3, oB, hv, h2]
theorem loadA_agg {m : Mem} {b : Nat} {t : TypeId} {i : TI} {w : Bool} {e : TypeId} {x : Bool} {cs : List Value} (hi : ti tb t = some i) (ha : i.agg = true) (hs : i.inf.size = cs.length) (hv : vw m b = some ⟨w, e, x, cs⟩) : loadA tb t m b 0 = some (.agg ⟨cs⟩) := by
  obtain ⟨r, h1, h2, h3, h4, h5, h6, _⟩ := vw_spec hv
  simp only [loadA, hi, oB, h1, ha]
  rw [cellsFrom_all h6, if_pos (by right; simp only; omega), hs]
  simp [takeN]
/-- the rows' forms -/
def formOf : Nat → List UInt8
  | 1 => [110] | 2 => [105, 105, 105] | 3 => [105] | 4 => [105] | 5 => [105] | 6 => [105, 110, 110, 116] | 7 => [105, 110] | 8 => []
  | 9 => [119, 105] | 10 => [119, 105] | 11 => [119, 105] | 12 => [119, 105, 105, 109] | 13 => [105] | 14 => [99] | 15 => []
  | 16 => [105] | 17 => [105] | 18 => [105, 110] | 19 => [105] | 20 => [105] | 21 => [105] | 22 => [105, 110, 110]
  | _ => []
def rowCells (k : Nat) : List Value := [.string ⟨⟨wordOf k⟩⟩, .bool (!decide (k = 1)), .int .i64 (k : Int), .string ⟨⟨formOf k⟩⟩]
theorem rc_len (k : Nat) : (rowCells k).length = 4 := rfl
theorem rc_one (k : Nat) : (rowCells k).all oneC = true := rfl
def rcs : List Value := match rrowsRows with | r :: _ => r.cells | [] => []
theorem rcs_len : rcs.length = 88 := rfl
theorem rcs_row : ∀ i, i < 22 → takeN rcs (i * 4) 4 = rowCells (i + 1)
  | 0, _ => rfl | 1, _ => rfl | 2, _ => rfl | 3, _ => rfl | 4, _ => rfl | 5, _ => rfl | 6, _ => rfl | 7, _ => rfl | 8, _ => rfl | 9, _ => rfl | 10, _ => rfl
  | 11, _ => rfl | 12, _ => rfl | 13, _ => rfl | 14, _ => rfl | 15, _ => rfl | 16, _ => rfl | 17, _ => rfl | 18, _ => rfl | 19, _ => rfl | 20, _ => rfl | 21, _ => rfl
  | i + 22, h => absurd h (by omega)
theorem rows_vw {m : Mem} {k0 : Nat} (h : RowsAt rrowsRows m k0) : vw m k0 = some ⟨true, 88, false, rcs⟩ := by
  have := h 0 _ rfl
  rw [Nat.add_zero] at this
  rw [this]; rfl
/-- a kind's row -/
def rowV (z : Int) : List Value := if 1 ≤ z ∧ z ≤ 22 then rowCells z.toNat else [.string ⟨⟨[]⟩⟩, .bool false, .int .i64 0, .string ⟨⟨[]⟩⟩]
theorem row_ok {m : Mem} {z : Int} (hm : 8 ≤ m.next) : CallsA tb 34 [.int .i64 z] m (retR fun r m' => r = .tuple ⟨[.agg ⟨rowV z⟩, .bool (decide (1 ≤ z ∧ z ≤ 22))]⟩ ∧ Old m.next m m') := by
  refine callsS Tryz.func34 e34 rfl rfl ?_
  simp only [s34, List.replicate, List.length_cons, List.length_nil, List.cons_append, List.nil_append, Nat.reduceAdd, Nat.reduceSub]
  refine xseqP (PS := fun l' ds' m' => ds' = [] ∧ Sl [.int .i64 z, undef, .pointer (some ⟨m.next, 0, none⟩), .bool false] 21 l' ∧ Old m.next m m' ∧ m'.next = m.next + 1 ∧ vw m' m.next = some ⟨true, 88, false, [.string ⟨⟨[]⟩⟩, .bool false, .int .i64 0, .string ⟨⟨[]⟩⟩]⟩) ?_ ?_
  · refine xregQ fun Q' hQ => ?_
    simp
    subst hQ
    exact ⟨rfl, rfl, Sl.mk rfl rfl, (Old.refl _ _).new (Nat.le_refl _) _, by rw [next_newObjA], by rw [vw_new, if_pos rfl]; exact vwO_zero1 88 [.string ⟨⟨[]⟩⟩, .bool false, .int .i64 0, .string ⟨⟨[]⟩⟩]⟩
  rintro l ds m1 ⟨rfl, ⟨ts, hts, rfl⟩, hO1, hn1, hv1⟩
  refine xseqP (PS := fun l' ds' m' => ds' = [] ∧ ∃ k0, k0 = m1.next ∧ Sl [.int .i64 z, undef, .pointer (some ⟨m.next, 0, none⟩), .bool false, .slice (some ⟨k0, 0, none⟩) 22 22] 20 l' ∧ Old m.next m m' ∧ vw m' m.next = some ⟨true, 88, false, [.string ⟨⟨[]⟩⟩, .bool false, .int .i64 0, .string ⟨⟨[]⟩⟩]⟩ ∧ vw m' k0 = some ⟨true, 88, false, rcs⟩) ?_ ?_
  · obtain ⟨x4, ts4, rfl, hts4⟩ := len_succ hts
    refine xregQ fun Q' hQ => ?_
    simp [hts4]
    refine xclosed ov_rrows (by omega) (fun hrows => ?_)
    subst hQ
    have hL := layRows_old m1 (rrowsRows.map (CRow.ren 8 m1.next))
    exact ⟨rfl, rfl, m1.next, rfl, Sl.mk rfl (by simp [hts4]), hO1.trans (hL.le (by omega)), by rw [hL.vw (by omega)]; exact hv1, rows_vw hrows⟩
  rintro l ds m2 ⟨rfl, k0, hk0, ⟨ts2, hts2, rfl⟩, hO2, hv2, hr2⟩
  obtain ⟨x5, ts5, rfl, hts5⟩ := len_succ hts2
  have hne : ¬ k0 = m.next := by omega
  refine xseqR (PS := fun l' ds' m' => ds' = [] ∧ m' = m2 ∧ Sl [.int .i64 z, undef, .pointer (some ⟨m.next, 0, none⟩), .bool false] 21 l' ∧ ¬ (1 ≤ z ∧ z ≤ 22))
    (PR := fun l' ds' m' => ds' = [] ∧ Old m.next m m' ∧ (1 ≤ z ∧ z ≤ 22) ∧ gx l' 2 = .pointer (some ⟨m.next, 0, none⟩) ∧ gx l' 3 = .bool true ∧ vw m' m.next = some ⟨true, 88, false, rowCells z.toNat⟩) ?_ ?_ ?_
  · refine xseq (xregQ fun Q' hQ => ?_)
    simp [hts5]
    subst hQ
    refine xblock (xwhile (N := 22) (I := fun n l ds m' => ∃ i, n = 22 - i ∧ i ≤ 22 ∧ ds = [] ∧ m' = m2 ∧ Sl [.int .i64 z, undef, .pointer (some ⟨m.next, 0, none⟩), .bool false, .slice (some ⟨k0, 0, none⟩) 22 22, .int .i64 (i : Nat)] 19 l ∧ ¬ (1 ≤ z ∧ z ≤ (i : Int))) ?_ ?_)
    · exact ⟨0, rfl, by omega, rfl, rfl, Sl.mk rfl (by simp [hts5]), by omega⟩
    rintro n l ds m' ⟨i, rfl, hi, rfl, rfl, ⟨ts, hts, rfl⟩, hno⟩
    refine xseq (xseq (xregQ fun Q' hQ => ?_))
    simp [hts]
    subst hQ
    refine xif (v := decide ((i : Int) < 22)) (by simp [hts]) (fun h => xskip ?_) (fun h => xexit ?_)
    · simp only [decide_eq_true_eq] at h
      have hi2 : i < 22 := by omega
      have hrow := rcs_row i hi2
      have hc2 : rcs[i * 4 + 2]? = some (.int .i64 ((i + 1 : Nat) : Int)) := by
        have := takeN_get (l := rcs) (o := i * 4) (n := 4) (k := 2) (by omega)
        rw [hrow] at this; rw [← this]; rfl
      have hlen : i * 4 + 4 ≤ 88 := by omega
      refine xseq (xblock (xseq (xregQ fun Q' hQ => ?_)))
      simp [hts, hr2, hi2, hc2]
      subst hQ
      refine xif (v := decide ((i : Int) + 1 = z)) (by simp [hts]) (fun h1 => ?_) (fun h1 => xskip ?_)
      · simp only [decide_eq_true_eq] at h1
        have hz : z.toNat = i + 1 := by omega
        have hs : stOk ⟨true, 88, false, [.string ⟨⟨[]⟩⟩, .bool false, .int .i64 0, .string ⟨⟨[]⟩⟩]⟩ 0 (rowCells (i + 1)) = true := by simp [rowCells]
        refine xseq (xregQ fun Q' hQ => ?_)
        simp [hts, hr2, hi2, hrow, rcs_len, hlen, hv2, rc_len, rc_one]
        subst hQ
        refine xret (.inr ⟨rfl, rfl, hO2.st (Nat.le_refl _) _ _, by omega, rfl, by simp [gx], ?_⟩)
        have := vw_stM_eq hv2 hs
        rw [hz]
        exact this
      · simp only [decide_eq_false_iff_not] at h1
        refine xregQ fun Q' hQ => ?_
        simp [hts]
        rw [wr64 _ (by omega) (by omega)]
        subst hQ
        exact ⟨22 - (i + 1), by omega, i + 1, rfl, by omega, rfl, rfl, Sl.mk rfl (by simp [hts]), by omega⟩
    · simp only [decide_eq_false_iff_not] at h
      obtain rfl : i = 22 := by omega
      exact .inl ⟨rfl, rfl, rfl, Sl.mk rfl (by simp [hts]), by omega⟩
  · rintro l ds m3 ⟨rfl, rfl, ⟨ts, hts, rfl⟩, hno⟩
    have hs : stOk ⟨true, 88, false, [.string ⟨⟨[]⟩⟩, .bool false, .int .i64 0, .string ⟨⟨[]⟩⟩]⟩ 0 [.string ⟨⟨[]⟩⟩, .bool false, .int .i64 0, .string ⟨⟨[]⟩⟩] = true := by simp
    refine xseq (xregQ fun Q' hQ => ?_)
    simp [hts, hv2]
    subst hQ
    refine xret ⟨rfl, _, resX_cell_tmp (b := m.next) (v := .agg ⟨[.string ⟨⟨[]⟩⟩, .bool false, .int .i64 0, .string ⟨⟨[]⟩⟩]⟩) rfl (loadA_agg Ty.ti88 Ty.g88 (by rw [Ty.s88]; rfl) (vw_stM_eq hv2 hs)), ?_, hO2.st (Nat.le_refl _) _ _⟩
    simp [gx, rowV, hno]
  · rintro l ds m3 ⟨rfl, hO3, hz, g2, g3, hv3⟩
    refine ⟨rfl, _, resX_cell_tmp g2 (loadA_agg Ty.ti88 Ty.g88 (by rw [Ty.s88]; rfl) hv3), ?_, hO3⟩
    rw [g3, rowV, if_pos hz]
    simp [hz]
end Go.Proofs.YtgmkbdmgifdfeaaGreatDoor
