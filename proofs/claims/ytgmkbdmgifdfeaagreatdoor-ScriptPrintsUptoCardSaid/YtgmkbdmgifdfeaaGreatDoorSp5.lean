/- Fields printed; the forms. -/
import Derived.Test.YtgmkbdmgifdfeaaGreatDoorSp4
set_option linter.unusedSimpArgs false
set_option linter.unusedVariables false
set_option maxRecDepth 8000
namespace Go.Proofs.YtgmkbdmgifdfeaaGreatDoor
open Go Go.Ev
/-- a step's cells -/
def stpCells (s : Stp) (d c : Value) : List Value :=
  [.int .i64 s.kind, .int .i64 s.node, .int .i64 s.stream, .int .u64 s.time, .int .u64 s.life, d, .int .u64 s.seq, .int .i64 s.qc, .int .i64 s.qb, .int .i64 s.way, .int .i64 s.place, .int .i64 s.pos, .int .u32 s.mask, .int .u64 s.ticks, c, .int .i64 s.cursor, .int .u64 s.to]
/-- a function that gives a field's address -/
def Adr (g o : Nat) : Prop := tb.ov.get g = none ∧ ∀ (m : Mem) (b : Nat), CallsA tb g [.pointer (some ⟨b, 0, none⟩)] m (retR fun r m' => r = .pointer (some ⟨b, o, none⟩) ∧ m' = m)
theorem adr82 : Adr 82 2 := by
  refine ⟨ov_none (by decide), fun m b => ?_⟩
  refine callsS Tryz.func82 e82 rfl rfl ?_
  simp only [s82, List.replicate, List.length_cons, List.length_nil, List.cons_append, List.nil_append, Nat.reduceAdd, Nat.reduceSub]
  refine xseq (xregQ fun Q' hQ => ?_)
  simp
  subst hQ
  refine xseq (xregQ fun Q' hQ => ?_)
  simp
  subst hQ
  refine xret ?_
  exact ⟨rfl, _, resX_one _, rfl, rfl⟩
theorem adr89 : Adr 89 3 := by
  refine ⟨ov_none (by decide), fun m b => ?_⟩
  refine callsS Tryz.func89 e89 rfl rfl ?_
  simp only [s89, List.replicate, List.length_cons, List.length_nil, List.cons_append, List.nil_append, Nat.reduceAdd, Nat.reduceSub]
  refine xseq (xregQ fun Q' hQ => ?_)
  simp
  subst hQ
  refine xseq (xregQ fun Q' hQ => ?_)
  simp
  subst hQ
  refine xret ?_
  exact ⟨rfl, _, resX_one _, rfl, rfl⟩
theorem adr55 : Adr 55 4 := by
  refine ⟨ov_none (by decide), fun m b => ?_⟩
  refine callsS Tryz.func55 e55 rfl rfl ?_
  simp only [s55, List.replicate, List.length_cons, List.length_nil, List.cons_append, List.nil_append, Nat.reduceAdd, Nat.reduceSub]
  refine xseq (xregQ fun Q' hQ => ?_)
  simp
  subst hQ
  refine xseq (xregQ fun Q' hQ => ?_)
  simp
  subst hQ
  refine xret ?_
  exact ⟨rfl, _, resX_one _, rfl, rfl⟩
theorem adr54 : Adr 54 6 := by
  refine ⟨ov_none (by decide), fun m b => ?_⟩
  refine callsS Tryz.func54 e54 rfl rfl ?_
  simp only [s54, List.replicate, List.length_cons, List.length_nil, List.cons_append, List.nil_append, Nat.reduceAdd, Nat.reduceSub]
  refine xseq (xregQ fun Q' hQ => ?_)
  simp
  subst hQ
  refine xseq (xregQ fun Q' hQ => ?_)
  simp
  subst hQ
  refine xret ?_
  exact ⟨rfl, _, resX_one _, rfl, rfl⟩
theorem adr51 : Adr 51 7 := by
  refine ⟨ov_none (by decide), fun m b => ?_⟩
  refine callsS Tryz.func51 e51 rfl rfl ?_
  simp only [s51, List.replicate, List.length_cons, List.length_nil, List.cons_append, List.nil_append, Nat.reduceAdd, Nat.reduceSub]
  refine xseq (xregQ fun Q' hQ => ?_)
  simp
  subst hQ
  refine xseq (xregQ fun Q' hQ => ?_)
  simp
  subst hQ
  refine xret ?_
  exact ⟨rfl, _, resX_one _, rfl, rfl⟩
theorem adr52 : Adr 52 8 := by
  refine ⟨ov_none (by decide), fun m b => ?_⟩
  refine callsS Tryz.func52 e52 rfl rfl ?_
  simp only [s52, List.replicate, List.length_cons, List.length_nil, List.cons_append, List.nil_append, Nat.reduceAdd, Nat.reduceSub]
  refine xseq (xregQ fun Q' hQ => ?_)
  simp
  subst hQ
  refine xseq (xregQ fun Q' hQ => ?_)
  simp
  subst hQ
  refine xret ?_
  exact ⟨rfl, _, resX_one _, rfl, rfl⟩
theorem adr97 : Adr 97 10 := by
  refine ⟨ov_none (by decide), fun m b => ?_⟩
  refine callsS Tryz.func97 e97 rfl rfl ?_
  simp only [s97, List.replicate, List.length_cons, List.length_nil, List.cons_append, List.nil_append, Nat.reduceAdd, Nat.reduceSub]
  refine xseq (xregQ fun Q' hQ => ?_)
  simp
  subst hQ
  refine xseq (xregQ fun Q' hQ => ?_)
  simp
  subst hQ
  refine xret ?_
  exact ⟨rfl, _, resX_one _, rfl, rfl⟩
theorem adr98 : Adr 98 11 := by
  refine ⟨ov_none (by decide), fun m b => ?_⟩
  refine callsS Tryz.func98 e98 rfl rfl ?_
  simp only [s98, List.replicate, List.length_cons, List.length_nil, List.cons_append, List.nil_append, Nat.reduceAdd, Nat.reduceSub]
  refine xseq (xregQ fun Q' hQ => ?_)
  simp
  subst hQ
  refine xseq (xregQ fun Q' hQ => ?_)
  simp
  subst hQ
  refine xret ?_
  exact ⟨rfl, _, resX_one _, rfl, rfl⟩
theorem adr57 : Adr 57 13 := by
  refine ⟨ov_none (by decide), fun m b => ?_⟩
  refine callsS Tryz.func57 e57 rfl rfl ?_
  simp only [s57, List.replicate, List.length_cons, List.length_nil, List.cons_append, List.nil_append, Nat.reduceAdd, Nat.reduceSub]
  refine xseq (xregQ fun Q' hQ => ?_)
  simp
  subst hQ
  refine xseq (xregQ fun Q' hQ => ?_)
  simp
  subst hQ
  refine xret ?_
  exact ⟨rfl, _, resX_one _, rfl, rfl⟩
theorem adr104 : Adr 104 15 := by
  refine ⟨ov_none (by decide), fun m b => ?_⟩
  refine callsS Tryz.func104 e104 rfl rfl ?_
  simp only [s104, List.replicate, List.length_cons, List.length_nil, List.cons_append, List.nil_append, Nat.reduceAdd, Nat.reduceSub]
  refine xseq (xregQ fun Q' hQ => ?_)
  simp
  subst hQ
  refine xseq (xregQ fun Q' hQ => ?_)
  simp
  subst hQ
  refine xret ?_
  exact ⟨rfl, _, resX_one _, rfl, rfl⟩
theorem adr56 : Adr 56 16 := by
  refine ⟨ov_none (by decide), fun m b => ?_⟩
  refine callsS Tryz.func56 e56 rfl rfl ?_
  simp only [s56, List.replicate, List.length_cons, List.length_nil, List.cons_append, List.nil_append, Nat.reduceAdd, Nat.reduceSub]
  refine xseq (xregQ fun Q' hQ => ?_)
  simp
  subst hQ
  refine xseq (xregQ fun Q' hQ => ?_)
  simp
  subst hQ
  refine xret ?_
  exact ⟨rfl, _, resX_one _, rfl, rfl⟩
theorem dec_le {u : Nat} (h : u < 10 ^ 20) : (Lib.decDigits u).length ≤ 20 := by
  rw [Lib.decDigits_eq, List.length_map, List.length_range]
  by_cases h0 : u < 10
  · rw [Lib.nDigits_small h0]; omega
  · apply Decidable.byContradiction
    intro hn
    have : ∀ (k u : Nat), k < Lib.nDigits u → 10 ^ k ≤ u ∨ k = 0 := by
      intro k
      induction k with
      | zero => intro u _; exact .inr rfl
      | succ k ih =>
        intro u hu
        by_cases h : u < 10
        · rw [Lib.nDigits_small h] at hu; omega
        · rw [Lib.nDigits_big h] at hu
          refine .inl ?_
          rw [Nat.pow_succ]
          rcases ih (u / 10) (by omega) with h1 | h1
          · omega
          · subst h1; omega
    rcases this 20 u (by omega) with h1 | h1 <;> omega
theorem itoa_le {z : Int} (h : i64R z) : (Lib.itoa z).length ≤ 21 := by
  obtain ⟨h1, h2⟩ := h
  unfold Lib.itoa
  split
  · have := dec_le (u := z.natAbs) (by omega)
    simp only [List.length_cons]; omega
  · have := dec_le (u := z.toNat) (by omega)
    omega
theorem decU_le {z : Int} (h : u64R z) : (Lib.decDigits z.toNat).length ≤ 20 := dec_le (by obtain ⟨h1, h2⟩ := h; omega)
theorem Two.refl (m : Mem) (p : Nat) (v : Value) (h : ∀ x, x < m.next → blkV v ≠ some x → True := fun _ _ _ => trivial) : Two m m p v v := ⟨Nat.le_refl _, fun x _ _ h => ⟨rfl, h⟩⟩
/-- an object more -/
theorem Prn.new {n0 p : Nat} {m : Mem} {v : Value} {out : List UInt8} {g : Bool} (h : Prn n0 m p v out g) (o : AObj) : Prn n0 (newObjA m o) p v out g := by
  obtain ⟨a, h⟩ := h
  exact ⟨a, h.lift (fun x _ hx => by rw [get_newObjA, if_neg (by omega)]) (by rw [next_newObjA]; omega)⟩
theorem Two.new (m : Mem) (p : Nat) (v : Value) (o : AObj) : Two m (newObjA m o) p v v := ⟨by rw [next_newObjA]; omega, fun x hx _ h => ⟨by rw [get_newObjA, if_neg (by omega)], h⟩⟩
theorem Prn.keepOld {n0 p : Nat} {m m' : Mem} {v : Value} {out : List UInt8} {g : Bool} (h : Prn n0 m p v out g) (k : Old m.next m m') : Prn n0 m' p v out g := by
  obtain ⟨a, h⟩ := h
  exact ⟨a, h.lift (fun x _ hx => k.2 x hx) k.1⟩
theorem Two.ofOld {m m' : Mem} {p : Nat} {v : Value} (k : Old m.next m m') : Two m m' p v v := ⟨k.1, fun x hx _ h => ⟨k.2 x hx, h⟩⟩
/-- what a printing closure is to do -/
def PrK (f : Fd) (fn : Nat) (caps : List Value) (n0 p : Nat) (m : Mem) : Prop :=
  ∀ (s : Stp) (d c v : Value) (out : List UInt8) (g : Bool), s.R → SlOld n0 m d s.data.length (u8s s.data) → SlOld n0 m c s.choices.length (i64s s.choices) → Prn n0 m p v out g → out.length + 25 * s.choices.length + 10 * s.data.length ≤ 800000000 →
    CallsA tb fn ([.pointer (some ⟨p, 0, none⟩), .agg ⟨stpCells s d c⟩] ++ caps) m (retR fun r m' => ∃ v', Prn n0 m' p v' (out ++ f.text s) (g || f.great s) ∧ Old n0 m m' ∧ Two m m' p v v')
theorem int_print {f : Fd} {g0 o n0 p : Nat} {m : Mem} {cb : Nat} (ha : Adr g0 o) (hn : n0 ≤ m.next) (hp : PowAt m) (hp0 : 0 < n0) (hcb : vw m cb = some ⟨true, 118, false, [.func (.func g0) ⟨[]⟩ ⟨[]⟩]⟩) (hcl : cb < m.next)
    (hf : ∀ s : Stp, ∀ d c, s.R → ∃ z, (stpCells s d c)[o]? = some (.int .i64 z) ∧ i64R z ∧ f.text s = decI z ∧ f.great s = greatI z) : PrK f 85 [.pointer (some ⟨cb, 0, none⟩)] n0 p m := by
  intro s d c v out g hR hd hc hP hb
  obtain ⟨z, hz, hzr, ht, hg⟩ := hf s d c hR
  rw [ht, hg]
  refine callsS Tryz.func85 e85 rfl rfl ?_
  simp only [s85, List.replicate, List.length_cons, List.length_nil, List.cons_append, List.nil_append, Nat.reduceAdd, Nat.reduceSub]
  refine xseq (xregQ fun Q' hQ => ?_)
  simp
  subst hQ
  have hP1 := hP.new (rowObj 36 (cellsOfV (.agg ⟨stpCells s d c⟩)) .none false)
  have hne : ¬ cb = m.next := by omega
  have hO1 : Old n0 m (newObjA m (rowObj 36 (stpCells s d c) .none false)) := (Old.refl _ _).new hn _
  refine xregQ fun Q' hQ => ?_
  simp [hcb, hne]
  refine xcall ha.1 (ha.2 _ _) ?_ (fun ch m' h => h.elim)
  rintro r m2 ⟨rfl, rfl⟩
  simp [hz]
  refine xcall (ov_none (by decide)) (whole_ok hP1 (by rw [next_newObjA]; omega) (hp.old hO1 hp0) hp0 hzr.1 hzr.2 (by have := itoa_le hzr; omega)) ?_ (fun ch m' h => h.elim)
  rintro r m3 ⟨v3, h3, h4, h5⟩
  subst hQ
  exact ⟨rfl, _, rfl, v3, by simpa [decI, greatI, Bool.or_assoc] using h3, hO1.trans h4, (Two.new m p v _).trans h5⟩
theorem nat_print {f : Fd} {g0 o n0 p : Nat} {m : Mem} {cb : Nat} (ha : Adr g0 o) (hn : n0 ≤ m.next) (hp : PowAt m) (hp0 : 0 < n0) (hcb : vw m cb = some ⟨true, 121, false, [.func (.func g0) ⟨[]⟩ ⟨[]⟩]⟩) (hcl : cb < m.next)
    (hf : ∀ s : Stp, ∀ d c, s.R → ∃ z, (stpCells s d c)[o]? = some (.int .u64 z) ∧ u64R z ∧ f.text s = decU z ∧ f.great s = false) : PrK f 88 [.pointer (some ⟨cb, 0, none⟩)] n0 p m := by
  intro s d c v out g hR hd hc hP hb
  obtain ⟨z, hz, hzr, ht, hg⟩ := hf s d c hR
  rw [ht, hg]
  refine callsS Tryz.func88 e88 rfl rfl ?_
  simp only [s88, List.replicate, List.length_cons, List.length_nil, List.cons_append, List.nil_append, Nat.reduceAdd, Nat.reduceSub]
  refine xseq (xregQ fun Q' hQ => ?_)
  simp
  subst hQ
  have hP1 := hP.new (rowObj 36 (cellsOfV (.agg ⟨stpCells s d c⟩)) .none false)
  have hne : ¬ cb = m.next := by omega
  have hO1 : Old n0 m (newObjA m (rowObj 36 (stpCells s d c) .none false)) := (Old.refl _ _).new hn _
  refine xregQ fun Q' hQ => ?_
  simp [hcb, hne]
  refine xcall ha.1 (ha.2 _ _) ?_ (fun ch m' h => h.elim)
  rintro r m2 ⟨rfl, rfl⟩
  simp [hz]
  refine xcall (ov_none (by decide)) (long_ok hP1 (by rw [next_newObjA]; omega) (hp.old hO1 hp0) hzr.1 hzr.2 (by have := decU_le hzr; omega)) ?_ (fun ch m' h => h.elim)
  rintro r m3 ⟨v3, h3, h4, h5⟩
  subst hQ
  exact ⟨rfl, _, rfl, v3, by simpa [decU] using h3, hO1.trans h4, (Two.new m p v _).trans h5⟩
theorem mask_print {n0 p : Nat} {m : Mem} (hn : n0 ≤ m.next) (hp : PowAt m) (hp0 : 0 < n0) : PrK .mask 101 [] n0 p m := by
  intro s d c v out g hR hd hc hP hb
  refine callsS Tryz.func101 e101 rfl rfl ?_
  simp only [s101, List.replicate, List.length_cons, List.length_nil, List.cons_append, List.nil_append, List.append_nil, Nat.reduceAdd, Nat.reduceSub]
  refine xseq (xregQ fun Q' hQ => ?_)
  simp
  subst hQ
  have hP1 := hP.new (rowObj 36 (cellsOfV (.agg ⟨stpCells s d c⟩)) .none false)
  have hO1 : Old n0 m (newObjA m (rowObj 36 (stpCells s d c) .none false)) := (Old.refl _ _).new hn _
  have hz : (stpCells s d c)[12]? = some (.int .u32 s.mask) := rfl
  have hzr := hR.mask
  refine xregQ fun Q' hQ => ?_
  simp [hz]
  rw [wru64 _ hzr.1 (by have := hzr.2; omega)]
  refine xcall (ov_none (by decide)) (long_ok hP1 (by rw [next_newObjA]; omega) (hp.old hO1 hp0) hzr.1 (by have := hzr.2; omega) (by have := decU_le (z := s.mask) ⟨hzr.1, by have := hzr.2; omega⟩; omega)) ?_ (fun ch m' h => h.elim)
  rintro r m3 ⟨v3, h3, h4, h5⟩
  subst hQ
  exact ⟨rfl, _, rfl, v3, by simpa [Fd.text, Fd.great, decU] using h3, hO1.trans h4, (Two.new m p v _).trans h5⟩
theorem data_print {n0 p : Nat} {m : Mem} (hn : n0 ≤ m.next) : PrK .data 92 [] n0 p m := by
  intro s d c v out g hR hd hc hP hb
  refine callsS Tryz.func92 e92 rfl rfl ?_
  simp only [s92, List.replicate, List.length_cons, List.length_nil, List.cons_append, List.nil_append, List.append_nil, Nat.reduceAdd, Nat.reduceSub]
  refine xseq (xregQ fun Q' hQ => ?_)
  simp
  subst hQ
  have hP1 := hP.new (rowObj 36 (cellsOfV (.agg ⟨stpCells s d c⟩)) .none false)
  have hO1 : Old n0 m (newObjA m (rowObj 36 (stpCells s d c) .none false)) := (Old.refl _ _).new hn _
  have hOm : Old m.next m (newObjA m (rowObj 36 (stpCells s d c) .none false)) := (Old.refl _ _).new (Nat.le_refl _) _
  have hz : (stpCells s d c)[5]? = some d := rfl
  refine xregQ fun Q' hQ => ?_
  simp [hz]
  refine xcall (ov_none (by decide)) (quote_ok ((hd.at hn).old hOm) (by omega)) ?_ (fun ch m' h => h.elim)
  rintro r m2 ⟨rfl, h2⟩
  have hql : (quoteB s.data).length ≤ 4 * s.data.length + 2 := by
    have : ∀ l : List UInt8, (l.flatMap qByte).length ≤ 4 * l.length := by
      intro l
      induction l with
      | nil => simp
      | cons b l ih =>
        have : (qByte b).length ≤ 4 := by unfold qByte; repeat (split <;> try simp)
        simp only [List.flatMap_cons, List.length_append, List.length_cons]; omega
    have := this s.data
    simp only [quoteB, List.length_cons, List.length_append, List.length_nil]; omega
  refine xcall (ov_none (by decide)) (say_ok (hP1.keepOld h2) (by have := h2.1; rw [next_newObjA] at this; omega) (by omega)) ?_ (fun ch m' h => h.elim)
  rintro r m3 ⟨v3, h3, h4, h5⟩
  subst hQ
  refine ⟨rfl, _, rfl, v3, by simpa [Fd.text, Fd.great] using h3, hO1.trans ((h2.le (by rw [next_newObjA]; omega)).trans h4), ?_⟩
  exact (Two.new m p v _).trans ((Two.ofOld h2).trans h5)
theorem way_print {n0 p : Nat} {m : Mem} (hn : n0 ≤ m.next) : ∀ (s : Stp) (d c v : Value) (out : List UInt8) (g : Bool), s.way = 1 ∨ s.way = 2 → Prn n0 m p v out g → out.length ≤ 800000000 →
    CallsA tb 96 [.pointer (some ⟨p, 0, none⟩), .agg ⟨stpCells s d c⟩] m (retR fun r m' => ∃ v', Prn n0 m' p v' (out ++ Fd.text .way s) g ∧ Old n0 m m' ∧ Two m m' p v v') := by
  intro s d c v out g hR hP hb
  refine callsS Tryz.func96 e96 rfl rfl ?_
  simp only [s96, List.replicate, List.length_cons, List.length_nil, List.cons_append, List.nil_append, List.append_nil, Nat.reduceAdd, Nat.reduceSub]
  refine xseq (xregQ fun Q' hQ => ?_)
  simp
  subst hQ
  have hP1 := hP.new (rowObj 36 (cellsOfV (.agg ⟨stpCells s d c⟩)) .none false)
  have hO1 : Old n0 m (newObjA m (rowObj 36 (stpCells s d c) .none false)) := (Old.refl _ _).new hn _
  have hz : (stpCells s d c)[9]? = some (.int .i64 s.way) := rfl
  refine xregQ fun Q' hQ => ?_
  rcases hR with hw | hw
  all_goals
    simp [hz, hw, partA]
    refine xcall (ov_none (by decide)) (say_ok hP1 (by rw [next_newObjA]; omega) (by simp only [List.length_cons, List.length_nil]; omega)) ?_ (fun ch m' h => h.elim)
    rintro r m3 ⟨v3, h3, h4, h5⟩
    subst hQ
    exact ⟨rfl, _, rfl, v3, by simpa [Fd.text, hw] using h3, hO1.trans h4, (Two.new m p v _).trans h5⟩
/-- the choices -/
theorem choices_print {n0 p : Nat} {m : Mem} (hn : n0 ≤ m.next) (hp : PowAt m) (hp0 : 0 < n0) : PrK .choices 103 [] n0 p m := by
  intro s d c v out g hR hd hc hP hb
  obtain ⟨ac, cc, rfl⟩ := (hc.at hn).shape
  refine callsS Tryz.func103 e103 rfl rfl ?_
  simp only [s103, List.replicate, List.length_cons, List.length_nil, List.cons_append, List.nil_append, List.append_nil, Nat.reduceAdd, Nat.reduceSub]
  refine xseq (xregQ fun Q' hQ => ?_)
  simp
  subst hQ
  have hP1 := hP.new (rowObj 36 (stpCells s d (.slice ac s.choices.length cc)) .none false)
  have hO1 : Old n0 m (newObjA m (rowObj 36 (stpCells s d (.slice ac s.choices.length cc)) .none false)) := (Old.refl _ _).new hn _
  have hOm : Old m.next m (newObjA m (rowObj 36 (stpCells s d (.slice ac s.choices.length cc)) .none false)) := (Old.refl _ _).new (Nat.le_refl _) _
  have hz : (stpCells s d (.slice ac s.choices.length cc))[14]? = some (.slice ac s.choices.length cc) := rfl
  have hT1 := Two.new m p v (rowObj 36 (stpCells s d (.slice ac s.choices.length cc)) .none false)
  refine xseq (xregQ fun Q' hQ => ?_)
  simp [hz]
  subst hQ
  generalize hm1 : newObjA m (rowObj 36 (stpCells s d (.slice ac s.choices.length cc)) .none false) = m1 at *
  refine (xblock (xwhile (N := s.choices.length) (I := fun n l ds m2 => ∃ k v2 y5, n = s.choices.length - k ∧ k ≤ s.choices.length ∧ ds = [] ∧
    Sl [.pointer (some ⟨p, 0, none⟩), .agg ⟨stpCells s d (.slice ac s.choices.length cc)⟩, undef, .pointer (some ⟨m.next, 0, none⟩), undef, y5, .pointer (some ⟨m.next, 14, none⟩), .slice ac s.choices.length cc, .int .i64 (s.choices.length : Nat), .int .i64 (k : Nat)] 7 l ∧
    Prn n0 m2 p v2 (out ++ (s.choices.take k).flatMap decI) (g || (s.choices.take k).any greatI) ∧ Old n0 m m2 ∧ Two m m2 p v v2) ?_ ?_))
  · exact ⟨0, v, _, by simp, by omega, rfl, Sl.mk rfl rfl, by simpa using hP1, hO1, hT1⟩
  rintro n l ds m2 ⟨k, v2, y5, rfl, hk, rfl, ⟨ts, hts, rfl⟩, hB, hO, hT⟩
  match ts, hts with
  | [x10, x11, x12, x13, x14, x15, x16], _ =>
  refine xseq (xregQ fun Q' hQ => ?_)
  simp
  subst hQ
  have hlen : ((s.choices.take k).flatMap decI).length ≤ 22 * k := by
    have : ∀ l : List Int, (∀ x ∈ l, i64R x) → (l.flatMap decI).length ≤ 22 * l.length := by
      intro l hl
      induction l with
      | nil => simp
      | cons b l ih =>
        have h1 := itoa_le (hl b (by simp))
        have h2 := ih fun x hx => hl x (by simp [hx])
        simp only [List.flatMap_cons, List.length_append, List.length_cons, decI] at h2 ⊢; omega
    have := this (s.choices.take k) fun x hx => hR.choices x (List.mem_of_mem_take hx)
    simp only [List.length_take] at this
    omega
  refine xseq (xif (v := decide (k < s.choices.length)) rfl (fun h => xskip ?_) (fun h => xexit ?_))
  · simp only [decide_eq_true_eq] at h
    have q : (i64s s.choices)[k]? = some (.int .i64 s.choices[k]) := by rw [i64s_get, List.getElem?_eq_getElem h]; rfl
    obtain ⟨b2, o, c2, h1, h5, h6, h2, h3⟩ := ((hc.old hO).at (Nat.le_trans hn hO.1)).load q
    simp only [Value.slice.injEq] at h1
    obtain ⟨rfl, -, rfl⟩ := h1
    have ql := h3 (t := 3) (s := none) Ty.ti3 Ty.g3
    have htk : s.choices.take (k + 1) = s.choices.take k ++ [s.choices[k]] := by rw [List.take_add_one, List.getElem?_eq_getElem h]; rfl
    have hzr := hR.choices _ (List.getElem_mem h)
    generalize hz0 : s.choices[k] = z at ql htk hzr
    refine xseq (xblock (xseq (xregQ fun Q' hQ => ?_)))
    simp [ql, h]
    subst hQ
    refine xregQ fun Q' hQ => ?_
    simp
    refine xcall (ov_none (by decide)) (whole_ok hB (Nat.le_trans hn hO.1) (hp.old hO hp0) hp0 hzr.1 hzr.2 (by have := itoa_le hzr; simp only [List.length_append]; omega)) ?_ (fun ch m' h => h.elim)
    rintro r m3 ⟨v3, g3, g4, g5⟩
    subst hQ
    refine xregQ fun Q' hQ => ?_
    simp
    rw [wr64 _ (by omega) (by omega)]
    subst hQ
    refine ⟨s.choices.length - (k + 1), by omega, k + 1, v3, _, rfl, by omega, rfl, Sl.mk rfl rfl, ?_, hO.trans g4, hT.trans g5⟩
    rw [htk]
    simpa [decI, greatI, Bool.or_assoc] using g3
  · simp only [decide_eq_false_iff_not] at h
    obtain rfl : k = s.choices.length := by omega
    rw [List.take_length] at hB
    exact ⟨rfl, _, rfl, v2, hB, hO, hT⟩
end Go.Proofs.YtgmkbdmgifdfeaaGreatDoor
set_option maxRecDepth 8000
namespace Go.Proofs.YtgmkbdmgifdfeaaGreatDoor
open Go Go.Ev
/-- may a step be printed -/
theorem printable_ok {m : Mem} {s : Stp} {d c : Value} : CallsA tb 25 [.agg ⟨stpCells s d c⟩] m (retR fun r m' => r = .bool (stepOk s) ∧ Old m.next m m') := by
  refine callsS Tryz.func25 e25 rfl rfl ?_
  simp only [s25, List.replicate, List.length_cons, List.length_nil, List.cons_append, List.nil_append, List.append_nil, Nat.reduceAdd, Nat.reduceSub]
  refine xseq (xregQ fun Q' hQ => ?_)
  simp
  subst hQ
  have hO1 : Old m.next m (newObjA m (rowObj 36 (stpCells s d c) .none false)) := (Old.refl _ _).new (Nat.le_refl _) _
  have z0 : (stpCells s d c)[0]? = some (.int .i64 s.kind) := rfl
  have z1 : (stpCells s d c)[1]? = some (.int .i64 s.node) := rfl
  have z9 : (stpCells s d c)[9]? = some (.int .i64 s.way) := rfl
  refine xseq (xseq (xregQ fun Q' hQ => ?_))
  by_cases h1 : s.kind < 1
  · simp [z0, h1]
    subst hQ
    refine xif (v := true) rfl (fun _ => ?_) (fun h => by cases h)
    refine xseq (xregQ fun Q' hQ => ?_)
    simp
    subst hQ
    exact xret ⟨rfl, _, resX_one _, by simp [gx, stepOk]; omega, hO1⟩
  by_cases h2 : 22 < s.kind
  · simp [z0, h1, h2]
    subst hQ
    refine xif (v := true) rfl (fun _ => ?_) (fun h => by cases h)
    refine xseq (xregQ fun Q' hQ => ?_)
    simp
    subst hQ
    exact xret ⟨rfl, _, resX_one _, by simp [gx, stepOk]; omega, hO1⟩
  simp [z0, h1, h2]
  subst hQ
  refine xif (v := false) rfl (fun h => by cases h) (fun _ => xskip ?_)
  refine xseq (xseq (xregQ fun Q' hQ => ?_))
  have hgo : ∀ l' : List Value, (∃ ts : List Value, ts.length = 14 ∧ ∃ us : List Value, us.length = 22 ∧ l' = .agg ⟨stpCells s d c⟩ :: .pointer (some ⟨m.next, 0, none⟩) :: us ++ ts) → True := fun _ _ => trivial
  have hk : (1 ≤ s.kind ∧ s.kind ≤ 22) := by omega
  by_cases h3 : s.kind = 1
  · simp [z0, h3]
    subst hQ
    refine xif (v := false) rfl (fun h => by cases h) (fun _ => xskip ?_)
    refine xseq (xregQ fun Q' hQ => ?_)
    simp [z0, h3]
    refine xcall (ov_none (by decide)) ways_ok ?_ (fun ch m' h => h.elim)
    rintro r m2 ⟨rfl, rfl⟩
    simp
    subst hQ
    exact xret ⟨rfl, _, resX_one _, by simp [gx, stepOk, h3], hO1⟩
  have key : (s.node = 1 ∨ s.node = 2) ∨ ¬ (s.node = 1 ∨ s.node = 2) := Decidable.em _
  rcases key with key | key
  · have hn : ∃ b : Bool, (!decide (s.node = 1)) = b ∧ (b = true → (s.node = 2)) := ⟨_, rfl, fun h => by simp at h; omega⟩
    rcases key with hx | hx
    all_goals
      simp [z0, z1, h3, hx]
      subst hQ
      refine xif (v := false) rfl (fun h => by cases h) (fun _ => xskip ?_)
      refine xseq (xregQ fun Q' hQ => ?_)
      simp [z0]
      refine xcall (ov_none (by decide)) ways_ok ?_ (fun ch m' h => h.elim)
      rintro r m2 ⟨rfl, rfl⟩
      by_cases hw : 9 ≤ s.kind ∧ s.kind ≤ 12
      · by_cases hw1 : s.way = 1
        · simp [z9, hw, hw1]
          subst hQ
          exact xret ⟨rfl, _, resX_one _, by simp [gx, stepOk, hw, hw1, hx, h3, hk], hO1⟩
        · simp [z9, hw, hw1]
          subst hQ
          exact xret ⟨rfl, _, resX_one _, by simp [gx, stepOk, hw, hw1, hx, h3, hk], hO1⟩
      · simp [z9, hw]
        subst hQ
        exact xret ⟨rfl, _, resX_one _, by simp [gx, stepOk, hw, hx, h3, hk], hO1⟩
  · have hn1 : ¬ s.node = 1 := fun h => key (.inl h)
    have hn2 : ¬ s.node = 2 := fun h => key (.inr h)
    simp [z0, z1, h3, hn1, hn2]
    subst hQ
    refine xif (v := true) rfl (fun _ => ?_) (fun h => by cases h)
    refine xseq (xregQ fun Q' hQ => ?_)
    simp
    subst hQ
    exact xret ⟨rfl, _, resX_one _, by simp [gx, stepOk, hn1, hn2, h3], hO1⟩
/-! ### the forms, by kind -/
def adrOf : Fd → Nat
  | .stream => 82 | .qc => 51 | .qb => 52 | .place => 97 | .pos => 98 | .cursor => 104 | .time => 89 | .life => 55 | .seq => 54 | .to => 56 | .ticks => 57
  | _ => 0
/-- a field's two closures -/
def IsFd (m : Mem) (k0 : Nat) (rv pv : Value) : Fd → Prop
  | .data => rv = .func (.func 90) ⟨[]⟩ ⟨[]⟩ ∧ pv = .func (.func 92) ⟨[]⟩ ⟨[]⟩
  | .way => rv = .func (.func 94) ⟨[]⟩ ⟨[]⟩ ∧ pv = .func (.func 96) ⟨[]⟩ ⟨[]⟩
  | .mask => rv = .func (.func 99) ⟨[]⟩ ⟨[]⟩ ∧ pv = .func (.func 101) ⟨[]⟩ ⟨[]⟩
  | .choices => rv = .func (.func 102) ⟨[]⟩ ⟨[]⟩ ∧ pv = .func (.func 103) ⟨[]⟩ ⟨[]⟩
  | .time => ∃ cb, k0 ≤ cb ∧ cb < k0 + 109 ∧ rv = .func (.func 86) ⟨[]⟩ ⟨[.pointer (some ⟨cb, 0, none⟩)]⟩ ∧ pv = .func (.func 88) ⟨[]⟩ ⟨[.pointer (some ⟨cb, 0, none⟩)]⟩ ∧ vw m cb = some ⟨true, 121, false, [.func (.func 89) ⟨[]⟩ ⟨[]⟩]⟩
  | .life => ∃ cb, k0 ≤ cb ∧ cb < k0 + 109 ∧ rv = .func (.func 86) ⟨[]⟩ ⟨[.pointer (some ⟨cb, 0, none⟩)]⟩ ∧ pv = .func (.func 88) ⟨[]⟩ ⟨[.pointer (some ⟨cb, 0, none⟩)]⟩ ∧ vw m cb = some ⟨true, 121, false, [.func (.func 55) ⟨[]⟩ ⟨[]⟩]⟩
  | .seq => ∃ cb, k0 ≤ cb ∧ cb < k0 + 109 ∧ rv = .func (.func 86) ⟨[]⟩ ⟨[.pointer (some ⟨cb, 0, none⟩)]⟩ ∧ pv = .func (.func 88) ⟨[]⟩ ⟨[.pointer (some ⟨cb, 0, none⟩)]⟩ ∧ vw m cb = some ⟨true, 121, false, [.func (.func 54) ⟨[]⟩ ⟨[]⟩]⟩
  | .to => ∃ cb, k0 ≤ cb ∧ cb < k0 + 109 ∧ rv = .func (.func 86) ⟨[]⟩ ⟨[.pointer (some ⟨cb, 0, none⟩)]⟩ ∧ pv = .func (.func 88) ⟨[]⟩ ⟨[.pointer (some ⟨cb, 0, none⟩)]⟩ ∧ vw m cb = some ⟨true, 121, false, [.func (.func 56) ⟨[]⟩ ⟨[]⟩]⟩
  | .ticks => ∃ cb, k0 ≤ cb ∧ cb < k0 + 109 ∧ rv = .func (.func 86) ⟨[]⟩ ⟨[.pointer (some ⟨cb, 0, none⟩)]⟩ ∧ pv = .func (.func 88) ⟨[]⟩ ⟨[.pointer (some ⟨cb, 0, none⟩)]⟩ ∧ vw m cb = some ⟨true, 121, false, [.func (.func 57) ⟨[]⟩ ⟨[]⟩]⟩
  | f => ∃ cb, k0 ≤ cb ∧ cb < k0 + 109 ∧ rv = .func (.func 83) ⟨[]⟩ ⟨[.pointer (some ⟨cb, 0, none⟩)]⟩ ∧ pv = .func (.func 85) ⟨[]⟩ ⟨[.pointer (some ⟨cb, 0, none⟩)]⟩ ∧ vw m cb = some ⟨true, 118, false, [.func (.func (adrOf f)) ⟨[]⟩ ⟨[]⟩]⟩
/-- a kind's word and fields in the table -/
def FormAt (m : Mem) (k0 : Nat) (kind : Nat) : Prop :=
  ∃ tab, vw m (k0 + 108) = some ⟨true, 80, false, tab⟩ ∧ tab[2 * kind]? = some (.string ⟨⟨wordOf kind⟩⟩) ∧ ∃ fs, tab[2 * kind + 1]? = some fs ∧
    ((fs = .slice none 0 0 ∧ fieldsOf kind = []) ∨ ∃ b n cells, fs = .slice (some ⟨b, 0, none⟩) n n ∧ (fieldsOf kind).length = n ∧ k0 ≤ b ∧ b < k0 + 109 ∧ vw m b = some ⟨true, 84, false, cells⟩ ∧ cells.length = 2 * n ∧
      ∀ j f, (fieldsOf kind)[j]? = some f → ∃ rv pv, cells[2 * j]? = some rv ∧ cells[2 * j + 1]? = some pv ∧ IsFd m k0 rv pv f)
theorem form1 {m : Mem} {k0 : Nat} (h : RowsAt formsRows m k0) : FormAt m k0 1 := by
  refine ⟨_, h 108 _ rfl, rfl, _, rfl, .inr ⟨k0 + 19, 1, _, rfl, rfl, by omega, by omega, h 19 _ rfl, rfl, fun j f hj => ?_⟩⟩
  exact match j, hj with
    | 0, hj => by cases hj; exact ⟨_, _, rfl, rfl, k0 + 17, by omega, by omega, rfl, rfl, h 17 _ rfl⟩
    | j + 1, hj => absurd hj (by simp [fieldsOf])
theorem form2 {m : Mem} {k0 : Nat} (h : RowsAt formsRows m k0) : FormAt m k0 2 := by
  refine ⟨_, h 108 _ rfl, rfl, _, rfl, .inr ⟨k0 + 7, 3, _, rfl, rfl, by omega, by omega, h 7 _ rfl, rfl, fun j f hj => ?_⟩⟩
  exact match j, hj with
    | 0, hj => by cases hj; exact ⟨_, _, rfl, rfl, k0 + 1, by omega, by omega, rfl, rfl, h 1 _ rfl⟩
    | 1, hj => by cases hj; exact ⟨_, _, rfl, rfl, k0 + 3, by omega, by omega, rfl, rfl, h 3 _ rfl⟩
    | 2, hj => by cases hj; exact ⟨_, _, rfl, rfl, k0 + 5, by omega, by omega, rfl, rfl, h 5 _ rfl⟩
    | j + 3, hj => absurd hj (by simp [fieldsOf])
theorem form3 {m : Mem} {k0 : Nat} (h : RowsAt formsRows m k0) : FormAt m k0 3 := by
  refine ⟨_, h 108 _ rfl, rfl, _, rfl, .inr ⟨k0 + 23, 1, _, rfl, rfl, by omega, by omega, h 23 _ rfl, rfl, fun j f hj => ?_⟩⟩
  exact match j, hj with
    | 0, hj => by cases hj; exact ⟨_, _, rfl, rfl, k0 + 21, by omega, by omega, rfl, rfl, h 21 _ rfl⟩
    | j + 1, hj => absurd hj (by simp [fieldsOf])
theorem form4 {m : Mem} {k0 : Nat} (h : RowsAt formsRows m k0) : FormAt m k0 4 := by
  refine ⟨_, h 108 _ rfl, rfl, _, rfl, .inr ⟨k0 + 27, 1, _, rfl, rfl, by omega, by omega, h 27 _ rfl, rfl, fun j f hj => ?_⟩⟩
  exact match j, hj with
    | 0, hj => by cases hj; exact ⟨_, _, rfl, rfl, k0 + 25, by omega, by omega, rfl, rfl, h 25 _ rfl⟩
    | j + 1, hj => absurd hj (by simp [fieldsOf])
theorem form5 {m : Mem} {k0 : Nat} (h : RowsAt formsRows m k0) : FormAt m k0 5 := by
  refine ⟨_, h 108 _ rfl, rfl, _, rfl, .inr ⟨k0 + 31, 1, _, rfl, rfl, by omega, by omega, h 31 _ rfl, rfl, fun j f hj => ?_⟩⟩
  exact match j, hj with
    | 0, hj => by cases hj; exact ⟨_, _, rfl, rfl, k0 + 29, by omega, by omega, rfl, rfl, h 29 _ rfl⟩
    | j + 1, hj => absurd hj (by simp [fieldsOf])
theorem form6 {m : Mem} {k0 : Nat} (h : RowsAt formsRows m k0) : FormAt m k0 6 := by
  refine ⟨_, h 108 _ rfl, rfl, _, rfl, .inr ⟨k0 + 39, 4, _, rfl, rfl, by omega, by omega, h 39 _ rfl, rfl, fun j f hj => ?_⟩⟩
  exact match j, hj with
    | 0, hj => by cases hj; exact ⟨_, _, rfl, rfl, k0 + 33, by omega, by omega, rfl, rfl, h 33 _ rfl⟩
    | 1, hj => by cases hj; exact ⟨_, _, rfl, rfl, k0 + 36, by omega, by omega, rfl, rfl, h 36 _ rfl⟩
    | 2, hj => by cases hj; exact ⟨_, _, rfl, rfl, k0 + 11, by omega, by omega, rfl, rfl, h 11 _ rfl⟩
    | 3, hj => by cases hj; exact ⟨_, _, rfl, rfl, rfl, rfl⟩
    | j + 4, hj => absurd hj (by simp [fieldsOf])
theorem form7 {m : Mem} {k0 : Nat} (h : RowsAt formsRows m k0) : FormAt m k0 7 := by
  refine ⟨_, h 108 _ rfl, rfl, _, rfl, .inr ⟨k0 + 43, 2, _, rfl, rfl, by omega, by omega, h 43 _ rfl, rfl, fun j f hj => ?_⟩⟩
  exact match j, hj with
    | 0, hj => by cases hj; exact ⟨_, _, rfl, rfl, k0 + 41, by omega, by omega, rfl, rfl, h 41 _ rfl⟩
    | 1, hj => by cases hj; exact ⟨_, _, rfl, rfl, k0 + 8, by omega, by omega, rfl, rfl, h 8 _ rfl⟩
    | j + 2, hj => absurd hj (by simp [fieldsOf])
theorem form8 {m : Mem} {k0 : Nat} (h : RowsAt formsRows m k0) : FormAt m k0 8 :=
  ⟨_, h 108 _ rfl, rfl, _, rfl, .inl ⟨rfl, rfl⟩⟩
theorem form9 {m : Mem} {k0 : Nat} (h : RowsAt formsRows m k0) : FormAt m k0 9 := by
  refine ⟨_, h 108 _ rfl, rfl, _, rfl, .inr ⟨k0 + 48, 2, _, rfl, rfl, by omega, by omega, h 48 _ rfl, rfl, fun j f hj => ?_⟩⟩
  exact match j, hj with
    | 0, hj => by cases hj; exact ⟨_, _, rfl, rfl, rfl, rfl⟩
    | 1, hj => by cases hj; exact ⟨_, _, rfl, rfl, k0 + 46, by omega, by omega, rfl, rfl, h 46 _ rfl⟩
    | j + 2, hj => absurd hj (by simp [fieldsOf])
theorem form10 {m : Mem} {k0 : Nat} (h : RowsAt formsRows m k0) : FormAt m k0 10 := by
  refine ⟨_, h 108 _ rfl, rfl, _, rfl, .inr ⟨k0 + 53, 2, _, rfl, rfl, by omega, by omega, h 53 _ rfl, rfl, fun j f hj => ?_⟩⟩
  exact match j, hj with
    | 0, hj => by cases hj; exact ⟨_, _, rfl, rfl, rfl, rfl⟩
    | 1, hj => by cases hj; exact ⟨_, _, rfl, rfl, k0 + 51, by omega, by omega, rfl, rfl, h 51 _ rfl⟩
    | j + 2, hj => absurd hj (by simp [fieldsOf])
theorem form11 {m : Mem} {k0 : Nat} (h : RowsAt formsRows m k0) : FormAt m k0 11 := by
  refine ⟨_, h 108 _ rfl, rfl, _, rfl, .inr ⟨k0 + 58, 2, _, rfl, rfl, by omega, by omega, h 58 _ rfl, rfl, fun j f hj => ?_⟩⟩
  exact match j, hj with
    | 0, hj => by cases hj; exact ⟨_, _, rfl, rfl, rfl, rfl⟩
    | 1, hj => by cases hj; exact ⟨_, _, rfl, rfl, k0 + 56, by omega, by omega, rfl, rfl, h 56 _ rfl⟩
    | j + 2, hj => absurd hj (by simp [fieldsOf])
theorem form12 {m : Mem} {k0 : Nat} (h : RowsAt formsRows m k0) : FormAt m k0 12 := by
  refine ⟨_, h 108 _ rfl, rfl, _, rfl, .inr ⟨k0 + 67, 4, _, rfl, rfl, by omega, by omega, h 67 _ rfl, rfl, fun j f hj => ?_⟩⟩
  exact match j, hj with
    | 0, hj => by cases hj; exact ⟨_, _, rfl, rfl, rfl, rfl⟩
    | 1, hj => by cases hj; exact ⟨_, _, rfl, rfl, k0 + 61, by omega, by omega, rfl, rfl, h 61 _ rfl⟩
    | 2, hj => by cases hj; exact ⟨_, _, rfl, rfl, k0 + 64, by omega, by omega, rfl, rfl, h 64 _ rfl⟩
    | 3, hj => by cases hj; exact ⟨_, _, rfl, rfl, rfl, rfl⟩
    | j + 4, hj => absurd hj (by simp [fieldsOf])
theorem form13 {m : Mem} {k0 : Nat} (h : RowsAt formsRows m k0) : FormAt m k0 13 := by
  refine ⟨_, h 108 _ rfl, rfl, _, rfl, .inr ⟨k0 + 71, 1, _, rfl, rfl, by omega, by omega, h 71 _ rfl, rfl, fun j f hj => ?_⟩⟩
  exact match j, hj with
    | 0, hj => by cases hj; exact ⟨_, _, rfl, rfl, k0 + 69, by omega, by omega, rfl, rfl, h 69 _ rfl⟩
    | j + 1, hj => absurd hj (by simp [fieldsOf])
theorem form14 {m : Mem} {k0 : Nat} (h : RowsAt formsRows m k0) : FormAt m k0 14 := by
  refine ⟨_, h 108 _ rfl, rfl, _, rfl, .inr ⟨k0 + 73, 1, _, rfl, rfl, by omega, by omega, h 73 _ rfl, rfl, fun j f hj => ?_⟩⟩
  exact match j, hj with
    | 0, hj => by cases hj; exact ⟨_, _, rfl, rfl, rfl, rfl⟩
    | j + 1, hj => absurd hj (by simp [fieldsOf])
theorem form15 {m : Mem} {k0 : Nat} (h : RowsAt formsRows m k0) : FormAt m k0 15 :=
  ⟨_, h 108 _ rfl, rfl, _, rfl, .inl ⟨rfl, rfl⟩⟩
theorem form16 {m : Mem} {k0 : Nat} (h : RowsAt formsRows m k0) : FormAt m k0 16 := by
  refine ⟨_, h 108 _ rfl, rfl, _, rfl, .inr ⟨k0 + 77, 1, _, rfl, rfl, by omega, by omega, h 77 _ rfl, rfl, fun j f hj => ?_⟩⟩
  exact match j, hj with
    | 0, hj => by cases hj; exact ⟨_, _, rfl, rfl, k0 + 75, by omega, by omega, rfl, rfl, h 75 _ rfl⟩
    | j + 1, hj => absurd hj (by simp [fieldsOf])
theorem form17 {m : Mem} {k0 : Nat} (h : RowsAt formsRows m k0) : FormAt m k0 17 := by
  refine ⟨_, h 108 _ rfl, rfl, _, rfl, .inr ⟨k0 + 81, 1, _, rfl, rfl, by omega, by omega, h 81 _ rfl, rfl, fun j f hj => ?_⟩⟩
  exact match j, hj with
    | 0, hj => by cases hj; exact ⟨_, _, rfl, rfl, k0 + 79, by omega, by omega, rfl, rfl, h 79 _ rfl⟩
    | j + 1, hj => absurd hj (by simp [fieldsOf])
theorem form18 {m : Mem} {k0 : Nat} (h : RowsAt formsRows m k0) : FormAt m k0 18 := by
  refine ⟨_, h 108 _ rfl, rfl, _, rfl, .inr ⟨k0 + 88, 2, _, rfl, rfl, by omega, by omega, h 88 _ rfl, rfl, fun j f hj => ?_⟩⟩
  exact match j, hj with
    | 0, hj => by cases hj; exact ⟨_, _, rfl, rfl, k0 + 83, by omega, by omega, rfl, rfl, h 83 _ rfl⟩
    | 1, hj => by cases hj; exact ⟨_, _, rfl, rfl, k0 + 86, by omega, by omega, rfl, rfl, h 86 _ rfl⟩
    | j + 2, hj => absurd hj (by simp [fieldsOf])
theorem form19 {m : Mem} {k0 : Nat} (h : RowsAt formsRows m k0) : FormAt m k0 19 := by
  refine ⟨_, h 108 _ rfl, rfl, _, rfl, .inr ⟨k0 + 92, 1, _, rfl, rfl, by omega, by omega, h 92 _ rfl, rfl, fun j f hj => ?_⟩⟩
  exact match j, hj with
    | 0, hj => by cases hj; exact ⟨_, _, rfl, rfl, k0 + 90, by omega, by omega, rfl, rfl, h 90 _ rfl⟩
    | j + 1, hj => absurd hj (by simp [fieldsOf])
theorem form20 {m : Mem} {k0 : Nat} (h : RowsAt formsRows m k0) : FormAt m k0 20 := by
  refine ⟨_, h 108 _ rfl, rfl, _, rfl, .inr ⟨k0 + 96, 1, _, rfl, rfl, by omega, by omega, h 96 _ rfl, rfl, fun j f hj => ?_⟩⟩
  exact match j, hj with
    | 0, hj => by cases hj; exact ⟨_, _, rfl, rfl, k0 + 94, by omega, by omega, rfl, rfl, h 94 _ rfl⟩
    | j + 1, hj => absurd hj (by simp [fieldsOf])
theorem form21 {m : Mem} {k0 : Nat} (h : RowsAt formsRows m k0) : FormAt m k0 21 := by
  refine ⟨_, h 108 _ rfl, rfl, _, rfl, .inr ⟨k0 + 100, 1, _, rfl, rfl, by omega, by omega, h 100 _ rfl, rfl, fun j f hj => ?_⟩⟩
  exact match j, hj with
    | 0, hj => by cases hj; exact ⟨_, _, rfl, rfl, k0 + 98, by omega, by omega, rfl, rfl, h 98 _ rfl⟩
    | j + 1, hj => absurd hj (by simp [fieldsOf])
theorem form22 {m : Mem} {k0 : Nat} (h : RowsAt formsRows m k0) : FormAt m k0 22 := by
  refine ⟨_, h 108 _ rfl, rfl, _, rfl, .inr ⟨k0 + 107, 3, _, rfl, rfl, by omega, by omega, h 107 _ rfl, rfl, fun j f hj => ?_⟩⟩
  exact match j, hj with
    | 0, hj => by cases hj; exact ⟨_, _, rfl, rfl, k0 + 102, by omega, by omega, rfl, rfl, h 102 _ rfl⟩
    | 1, hj => by cases hj; exact ⟨_, _, rfl, rfl, k0 + 105, by omega, by omega, rfl, rfl, h 105 _ rfl⟩
    | 2, hj => by cases hj; exact ⟨_, _, rfl, rfl, k0 + 14, by omega, by omega, rfl, rfl, h 14 _ rfl⟩
    | j + 3, hj => absurd hj (by simp [fieldsOf])
theorem form_at {m : Mem} {k0 : Nat} (h : RowsAt formsRows m k0) {kind : Nat} (h1 : 1 ≤ kind) (h2 : kind ≤ 22) : FormAt m k0 kind :=
  match kind, h1, h2 with
  | 1, _, _ => form1 h | 2, _, _ => form2 h | 3, _, _ => form3 h | 4, _, _ => form4 h | 5, _, _ => form5 h | 6, _, _ => form6 h | 7, _, _ => form7 h | 8, _, _ => form8 h
  | 9, _, _ => form9 h | 10, _, _ => form10 h | 11, _, _ => form11 h | 12, _, _ => form12 h | 13, _, _ => form13 h | 14, _, _ => form14 h | 15, _, _ => form15 h | 16, _, _ => form16 h
  | 17, _, _ => form17 h | 18, _, _ => form18 h | 19, _, _ => form19 h | 20, _, _ => form20 h | 21, _, _ => form21 h | 22, _, _ => form22 h
  | 0, h1, _ => absurd h1 (by omega)
  | k + 23, _, h2 => absurd h2 (by omega)
end Go.Proofs.YtgmkbdmgifdfeaaGreatDoor
set_option maxRecDepth 8000
namespace Go.Proofs.YtgmkbdmgifdfeaaGreatDoor
open Go Go.Ev
/-- a setup's cells -/
def stuCells (x : Stu) : List Value := [.int .i64 x.mtu, .int .u64 x.ack, .int .u64 x.retry, .int .i64 x.retries, .int .i64 x.window, .int .i64 x.inbox, .int .i64 x.sectors, .int .i64 x.room, .int .u64 x.start]
theorem stp_len (s : Stp) (d c : Value) : (stpCells s d c).length = 17 := rfl
/-- steps, that lie below 'n0' -/
def StepsOld (n0 : Nat) (m : Mem) (v : Value) (ss : List Stp) : Prop :=
  ∃ cells, SlOld n0 m v ss.length cells ∧ cells.length = ss.length * 17 ∧ ∀ k s, ss[k]? = some s → s.R ∧ ∃ d c, takeN cells (k * 17) 17 = stpCells s d c ∧ SlOld n0 m d s.data.length (u8s s.data) ∧ SlOld n0 m c s.choices.length (i64s s.choices)
theorem StepsOld.old {n0 : Nat} {m m' : Mem} {v : Value} {ss : List Stp} (h : StepsOld n0 m v ss) (k : Old n0 m m') : StepsOld n0 m' v ss := by
  obtain ⟨cells, h1, h2, h3⟩ := h
  refine ⟨cells, h1.old k, h2, fun j s hj => ?_⟩
  obtain ⟨h4, d, c, h5, h6, h7⟩ := h3 j s hj
  exact ⟨h4, d, c, h5, h6.old k, h7.old k⟩
theorem _root_.Go.Ev.SlOld.up {n0 n1 n : Nat} {m : Mem} {v : Value} {cells : List Value} (h : SlOld n0 m v n cells) (k : n0 ≤ n1) : SlOld n1 m v n cells := by
  rcases h with h | ⟨b, o, c, rfl, h1, h2 | ⟨h2, h3⟩⟩
  · exact .inl h
  · exact .inr ⟨b, o, c, rfl, h1, .inl h2⟩
  · exact .inr ⟨b, o, c, rfl, h1, .inr ⟨h2, Nat.lt_of_lt_of_le h3 k⟩⟩
theorem StepsOld.up {n0 n1 : Nat} {m : Mem} {v : Value} {ss : List Stp} (h : StepsOld n0 m v ss) (k : n0 ≤ n1) : StepsOld n1 m v ss := by
  obtain ⟨cells, h1, h2, h3⟩ := h
  refine ⟨cells, h1.up k, h2, fun j s hj => ?_⟩
  obtain ⟨h4, d, c, h5, h6, h7⟩ := h3 j s hj
  exact ⟨h4, d, c, h5, h6.up k, h7.up k⟩
theorem StepsOld.shape {n0 : Nat} {m : Mem} {v : Value} {ss : List Stp} (h : StepsOld n0 m v ss) : ∃ a c, v = .slice a ss.length c := by
  obtain ⟨cells, h1, _⟩ := h
  rcases h1 with ⟨rfl, h1, _⟩ | ⟨b, o, c, rfl, _⟩
  · exact ⟨none, 0, by rw [h1]⟩
  · exact ⟨_, _, rfl⟩
/-- a step, loaded -/
theorem StepsOld.load {n0 : Nat} {m : Mem} {v : Value} {ss : List Stp} (h : StepsOld n0 m v ss) (hn : n0 ≤ m.next) {k : Nat} {s : Stp} (hk : ss[k]? = some s) :
    ∃ b o c, v = .slice (some ⟨b, o, none⟩) ss.length c ∧ s.R ∧ ∃ ad dc ac cc, opLoad tb 36 m (.pointer (some ⟨b, o + k * 17, none⟩)) = .r (.agg ⟨stpCells s (.slice ad s.data.length dc) (.slice ac s.choices.length cc)⟩) ∧
      SlOld n0 m (.slice ad s.data.length dc) s.data.length (u8s s.data) ∧ SlOld n0 m (.slice ac s.choices.length cc) s.choices.length (i64s s.choices) ∧ (stpCells s (.slice ad s.data.length dc) (.slice ac s.choices.length cc)).all oneC = true ∧ n0 ≤ m.next ∧ k < ss.length := by
  obtain ⟨cells, h1, h2, h3⟩ := h
  obtain ⟨h4, d, c, h5, h6, h7⟩ := h3 k s hk
  have hk1 := (List.getElem?_eq_some_iff.1 hk).1
  obtain ⟨b, o, c', h8, h9, h10, h11, h12⟩ := (h1.at hn).loadA (k := k * 17) (sz := 17) (by omega) (by omega)
  obtain ⟨ad, dc, rfl⟩ := (h6.at hn).shape
  obtain ⟨ac, cc, rfl⟩ := (h7.at hn).shape
  refine ⟨b, o, c', h8, h4, ad, dc, ac, cc, ?_, h6, h7, rfl, hn, hk1⟩
  rw [h12 Ty.ti36 Ty.g36 Ty.s36, h5]
/-- an object that is made and written whole -/
theorem alloc_st (m : Mem) (t : TypeId) (n : Nat) (z cells : List Value) (hz : n = z.length) (h1 : cells.length = z.length) (h2 : cells.all oneC = true) :
    ∃ m3, m3 = stM (newObjA m (zeroObj t n z)) m.next 0 cells ∧ m3.next = m.next + 1 ∧ vw m3 m.next = some ⟨true, t, false, cells⟩ ∧ ∀ x, x < m.next → m3.objs.get x = m.objs.get x := by
  subst hz
  have hA : vw (newObjA m (zeroObj t z.length z)) m.next = some ⟨true, t, false, z⟩ := by rw [vw_new, if_pos rfl]; exact vwO_zero1 t z
  have hS : stOk ⟨true, t, false, z⟩ 0 cells = true := by simp [h1, h2]
  refine ⟨_, rfl, by rw [stM_next, next_newObjA], ?_, fun x hx => by rw [stM_get (by omega), get_newObjA, if_neg (by omega)]⟩
  rw [vw_stM_eq hA hS, spl_eq (by simp [h1])]
  simp [h1]
/-- a block that the printer leaves alone -/
def Safe (m : Mem) (p : Nat) (v : Value) (x : Nat) : Prop := x < m.next ∧ x ≠ p ∧ blkV v ≠ some x
theorem Two.safe {m m' : Mem} {p : Nat} {v v' : Value} {x : Nat} (h : Two m m' p v v') (s : Safe m p v x) : Safe m' p v' x ∧ vw m' x = vw m x := by
  obtain ⟨h1, h2⟩ := h.2 x s.1 s.2.1 s.2.2
  exact ⟨⟨Nat.lt_of_lt_of_le s.1 h.1, s.2.1, h2⟩, by unfold vw; rw [h1]⟩
theorem Prn.safe_new {n0 p : Nat} {m m' : Mem} {v : Value} {out : List UInt8} {g : Bool} (h : Prn n0 m p v out g) (hn : m.next < m'.next) : Safe m' p v m.next := by
  obtain ⟨a, hge, hlt, hty, hrow, hadr, hown, hne⟩ := h
  refine ⟨hn, by omega, ?_⟩
  rcases hown with ⟨rfl, _⟩ | ⟨b, rfl, h1, h2, h3⟩
  · intro e; cases e
  · intro e; have e2 : b = m.next := Option.some.inj e; omega
theorem Prn.grow {n0 p : Nat} {m m' : Mem} {v : Value} {out : List UInt8} {g : Bool} (h : Prn n0 m p v out g) (k : ∀ x, x < m.next → m'.objs.get x = m.objs.get x) (hn : m.next ≤ m'.next) : Prn n0 m' p v out g := by
  obtain ⟨a, h⟩ := h
  exact ⟨a, h.lift (fun x _ hx => k x hx) hn⟩
theorem rows_two {m m' : Mem} {p k0 : Nat} {v v' : Value} (h : Two m m' p v v') (hs : ∀ x, k0 ≤ x → x < k0 + 109 → Safe m p v x) (hr : RowsAt formsRows m k0) : (∀ x, k0 ≤ x → x < k0 + 109 → Safe m' p v' x) ∧ RowsAt formsRows m' k0 :=
  ⟨fun x h1 h2 => (h.safe (hs x h1 h2)).1, hr.keep fun x h1 h2 => (h.2 x (hs x h1 h2).1 (hs x h1 h2).2.1 (hs x h1 h2).2.2).1⟩
/-- how long lines are -/
theorem quote_le (l : List UInt8) : (quoteB l).length ≤ 4 * l.length + 2 := by
  have : ∀ l : List UInt8, (l.flatMap qByte).length ≤ 4 * l.length := by
    intro l
    induction l with
    | nil => simp
    | cons b l ih =>
      have : (qByte b).length ≤ 4 := by unfold qByte; repeat (split <;> try simp)
      simp only [List.flatMap_cons, List.length_append, List.length_cons]; omega
  have := this l
  simp only [quoteB, List.length_cons, List.length_append, List.length_nil]; omega
theorem decIs_le (l : List Int) (h : ∀ x ∈ l, i64R x) : (l.flatMap decI).length ≤ 22 * l.length := by
  induction l with
  | nil => simp
  | cons b l ih =>
    have h1 := itoa_le (h b (by simp))
    have h2 := ih fun x hx => h x (by simp [hx])
    simp only [List.flatMap_cons, List.length_append, List.length_cons, decI] at h2 ⊢; omega
theorem decI_le {z : Int} (h : i64R z) : (decI z).length ≤ 22 := by have := itoa_le h; simp only [decI, List.length_cons]; omega
theorem decUl_le {z : Int} (h : u64R z) : (decU z).length ≤ 21 := by have := decU_le h; simp only [decU, List.length_cons]; omega
theorem fd_le {s : Stp} (h : s.R) (f : Fd) : (f.text s).length ≤ 25 + 22 * s.choices.length + 4 * s.data.length := by
  have hm : u64R s.mask := ⟨h.mask.1, by have := h.mask.2; omega⟩
  cases f
  case stream => have := decI_le h.stream; simp only [Fd.text]; omega
  case qc => have := decI_le h.qc; simp only [Fd.text]; omega
  case qb => have := decI_le h.qb; simp only [Fd.text]; omega
  case place => have := decI_le h.place; simp only [Fd.text]; omega
  case pos => have := decI_le h.pos; simp only [Fd.text]; omega
  case cursor => have := decI_le h.cursor; simp only [Fd.text]; omega
  case time => have := decUl_le h.time; simp only [Fd.text]; omega
  case life => have := decUl_le h.life; simp only [Fd.text]; omega
  case seq => have := decUl_le h.seq; simp only [Fd.text]; omega
  case to => have := decUl_le h.to; simp only [Fd.text]; omega
  case ticks => have := decUl_le h.ticks; simp only [Fd.text]; omega
  case mask => have := decUl_le hm; simp only [Fd.text]; omega
  case data => have := quote_le s.data; simp only [Fd.text, List.length_cons]; omega
  case way => simp only [Fd.text]; split <;> simp <;> omega
  case choices => have := decIs_le s.choices h.choices; simp only [Fd.text]; omega
theorem fields4 (k : Nat) : (fieldsOf k).length ≤ 4 := by unfold fieldsOf; split <;> simp
theorem word8 (k : Nat) : (wordOf k).length ≤ 8 := by unfold wordOf; split <;> simp
theorem fds_le {s : Stp} (h : s.R) (l : List Fd) : (l.flatMap fun f => f.text s).length ≤ l.length * (25 + 22 * s.choices.length + 4 * s.data.length) := by
  induction l with
  | nil => simp
  | cons f l ih =>
    have := fd_le h f
    simp only [List.flatMap_cons, List.length_append, List.length_cons]
    rw [Nat.succ_mul]; omega
def weight (s : Stp) : Nat := 400 + 100 * s.choices.length + 20 * s.data.length
theorem line_le {s : Stp} (h : s.R) : (stepLine s).length ≤ weight s := by
  have h1 := fds_le h (fieldsOf s.kind.toNat)
  have h2 := fields4 s.kind.toNat
  have h3 := word8 s.kind.toNat
  have h4 : (fieldsOf s.kind.toNat).length * (25 + 22 * s.choices.length + 4 * s.data.length) ≤ 4 * (25 + 22 * s.choices.length + 4 * s.data.length) := Nat.mul_le_mul_right _ h2
  have h5 := itoa_le h.node
  unfold stepLine weight
  simp only [List.length_append, List.length_cons, List.length_nil]
  split <;> simp only [List.length_nil, List.length_append, List.length_cons] <;> omega
def weights (ss : List Stp) : Nat := (ss.map weight).sum
theorem lines_le (ss : List Stp) (h : ∀ s ∈ ss, s.R) : (ss.flatMap stepLine).length ≤ weights ss := by
  induction ss with
  | nil => simp [weights]
  | cons s ss ih =>
    have h1 := line_le (h s (by simp))
    have h2 := ih fun x hx => h x (by simp [hx])
    simp only [List.flatMap_cons, List.length_append, weights, List.map_cons, List.sum_cons] at h2 ⊢; omega
theorem weights_take (ss : List Stp) {k : Nat} {s : Stp} (h : ss[k]? = some s) : weights (ss.take k) + weight s ≤ weights ss := by
  have hk := (List.getElem?_eq_some_iff.1 h).1
  have : ss = ss.take k ++ s :: ss.drop (k + 1) := by
    rw [← List.getElem?_eq_some_iff.1 h |>.2, List.getElem_cons_drop, List.take_append_drop]
  conv => rhs; rw [this]
  simp only [weights, List.map_append, List.sum_append, List.map_cons, List.sum_cons]; omega
theorem head_le {x : Stu} (h : x.R) : (headLine x).length ≤ 300 := by
  have h1 := decI_le h.sectors; have h2 := decI_le h.room; have h3 := decUl_le h.start; have h4 := decI_le h.mtu; have h5 := decUl_le h.ack; have h6 := decUl_le h.retry
  have h7 := decI_le h.retries; have h8 := decI_le h.window; have h9 := decI_le h.inbox
  simp only [headLine, List.length_append, List.length_cons, List.length_nil]; omega
/-- a field's printing closure, at work -/
theorem field_print {n0 p k0 : Nat} {m : Mem} {rv pv : Value} {f : Fd} (hn : n0 ≤ m.next) (hp : PowAt m) (hp0 : 0 < n0) (h : IsFd m k0 rv pv f) (hk : k0 + 109 ≤ m.next) :
    ∃ fn caps, pv = .func (.func fn) ⟨[]⟩ ⟨caps⟩ ∧ tb.ov.get fn = none ∧ ∀ (s : Stp) (d c v : Value) (out : List UInt8) (g : Bool), (f = .way → s.way = 1 ∨ s.way = 2) → s.R → SlOld n0 m d s.data.length (u8s s.data) → SlOld n0 m c s.choices.length (i64s s.choices) → Prn n0 m p v out g → out.length + 25 * s.choices.length + 10 * s.data.length ≤ 800000000 →
      CallsA tb fn ([.pointer (some ⟨p, 0, none⟩), .agg ⟨stpCells s d c⟩] ++ caps) m (retR fun r m' => ∃ v', Prn n0 m' p v' (out ++ f.text s) (g || f.great s) ∧ Old n0 m m' ∧ Two m m' p v v') := by
  have hi : ∀ (f : Fd) (o : Nat), (∃ cb, k0 ≤ cb ∧ cb < k0 + 109 ∧ rv = .func (.func 83) ⟨[]⟩ ⟨[.pointer (some ⟨cb, 0, none⟩)]⟩ ∧ pv = .func (.func 85) ⟨[]⟩ ⟨[.pointer (some ⟨cb, 0, none⟩)]⟩ ∧ vw m cb = some ⟨true, 118, false, [.func (.func (adrOf f)) ⟨[]⟩ ⟨[]⟩]⟩) → Adr (adrOf f) o →
      (∀ s : Stp, ∀ d c, s.R → ∃ z, (stpCells s d c)[o]? = some (.int .i64 z) ∧ i64R z ∧ f.text s = decI z ∧ f.great s = greatI z) → ∃ fn caps, pv = .func (.func fn) ⟨[]⟩ ⟨caps⟩ ∧ tb.ov.get fn = none ∧ PrK f fn caps n0 p m := by
    rintro f o ⟨cb, h1, h2, _, rfl, h3⟩ ha hf
    exact ⟨_, _, rfl, ov_none (by decide), int_print ha hn hp hp0 h3 (by omega) hf⟩
  have hu : ∀ (f : Fd) (g o : Nat), (∃ cb, k0 ≤ cb ∧ cb < k0 + 109 ∧ rv = .func (.func 86) ⟨[]⟩ ⟨[.pointer (some ⟨cb, 0, none⟩)]⟩ ∧ pv = .func (.func 88) ⟨[]⟩ ⟨[.pointer (some ⟨cb, 0, none⟩)]⟩ ∧ vw m cb = some ⟨true, 121, false, [.func (.func g) ⟨[]⟩ ⟨[]⟩]⟩) → Adr g o →
      (∀ s : Stp, ∀ d c, s.R → ∃ z, (stpCells s d c)[o]? = some (.int .u64 z) ∧ u64R z ∧ f.text s = decU z ∧ f.great s = false) → ∃ fn caps, pv = .func (.func fn) ⟨[]⟩ ⟨caps⟩ ∧ tb.ov.get fn = none ∧ PrK f fn caps n0 p m := by
    rintro f g o ⟨cb, h1, h2, _, rfl, h3⟩ ha hf
    exact ⟨_, _, rfl, ov_none (by decide), nat_print ha hn hp hp0 h3 (by omega) hf⟩
  by_cases hw : f = .way
  · subst hw
    obtain ⟨_, rfl⟩ := h
    refine ⟨96, [], rfl, ov_none (by decide), fun s d c v out g hway _ _ _ hP hb => ?_⟩
    have := way_print hn s d c v out g (hway rfl) hP (by omega)
    simpa [Fd.great] using this
  · suffices hs : ∃ fn caps, pv = .func (.func fn) ⟨[]⟩ ⟨caps⟩ ∧ tb.ov.get fn = none ∧ PrK f fn caps n0 p m by
      obtain ⟨fn, caps, h1, h2, h3⟩ := hs
      exact ⟨fn, caps, h1, h2, fun s d c v out g _ => h3 s d c v out g⟩
    cases f
    case way => exact absurd rfl hw
    case data => exact ⟨92, [], h.2, ov_none (by decide), data_print hn⟩
    case mask => exact ⟨101, [], h.2, ov_none (by decide), mask_print hn hp hp0⟩
    case choices => exact ⟨103, [], h.2, ov_none (by decide), choices_print hn hp hp0⟩
    case stream => exact hi .stream 2 h adr82 fun s d c hR => ⟨_, rfl, hR.stream, rfl, rfl⟩
    case qc => exact hi .qc 7 h adr51 fun s d c hR => ⟨_, rfl, hR.qc, rfl, rfl⟩
    case qb => exact hi .qb 8 h adr52 fun s d c hR => ⟨_, rfl, hR.qb, rfl, rfl⟩
    case place => exact hi .place 10 h adr97 fun s d c hR => ⟨_, rfl, hR.place, rfl, rfl⟩
    case pos => exact hi .pos 11 h adr98 fun s d c hR => ⟨_, rfl, hR.pos, rfl, rfl⟩
    case cursor => exact hi .cursor 15 h adr104 fun s d c hR => ⟨_, rfl, hR.cursor, rfl, rfl⟩
    case time => exact hu .time 89 3 h adr89 fun s d c hR => ⟨_, rfl, hR.time, rfl, rfl⟩
    case life => exact hu .life 55 4 h adr55 fun s d c hR => ⟨_, rfl, hR.life, rfl, rfl⟩
    case seq => exact hu .seq 54 6 h adr54 fun s d c hR => ⟨_, rfl, hR.seq, rfl, rfl⟩
    case to => exact hu .to 56 16 h adr56 fun s d c hR => ⟨_, rfl, hR.to, rfl, rfl⟩
    case ticks => exact hu .ticks 57 13 h adr57 fun s d c hR => ⟨_, rfl, hR.ticks, rfl, rfl⟩
end Go.Proofs.YtgmkbdmgifdfeaaGreatDoor
