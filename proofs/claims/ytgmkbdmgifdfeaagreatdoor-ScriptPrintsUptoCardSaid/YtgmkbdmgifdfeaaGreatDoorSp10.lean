/- sameSteps, copied; what is lent. -/
import Derived.Test.YtgmkbdmgifdfeaaGreatDoorSp9
set_option linter.unusedSimpArgs false
set_option linter.unusedVariables false
set_option maxRecDepth 8000
namespace Go.Proofs.YtgmkbdmgifdfeaaGreatDoor
open Go Go.Ev
theorem num_ok (m : Mem) (z : Int) : CallsA tb 15 [.int .i64 z] m (retR fun r m' => r = .int .i64 z ∧ m' = m) := by
  refine callsS Tryz.func15 e15 rfl rfl ?_
  simp only [s15, List.replicate, List.length_cons, List.length_nil, List.cons_append, List.nil_append, Nat.reduceAdd, Nat.reduceSub]
  refine xseq (xregQ fun Q' hQ => ?_)
  simp
  subst hQ
  refine xseq (xregQ fun Q' hQ => ?_)
  simp
  subst hQ
  exact xret ⟨rfl, _, resX_one _, rfl, rfl⟩
theorem guard32 : (tv 32).guard = false := by kernel_rfl
theorem held32 : (tv 32).held = false := by kernel_rfl
theorem b_neq32 (m : Mem) (x y : Operand) (a b : Int) : binA tb m .neq 32 x y (.agg ⟨[.int .i64 a, .int .i64 b]⟩) (.agg ⟨[.int .i64 a, .int .i64 b]⟩) = some (.bool false) := by
  have h3 : ∀ z : Int, eqA tb m 63 3 (.int .i64 z) (.int .i64 z) = some true := by
    intro z
    unfold eqA
    simp only [Ty.ti3, oB, Ty.d3, eqInt, kEq_self, intEq_eq, beq_self_eq_true]
  have e : eqA tb m 64 32 (.agg ⟨[.int .i64 a, .int .i64 b]⟩) (.agg ⟨[.int .i64 a, .int .i64 b]⟩) = some true := by
    rw [eqA]
    simp only [Ty.ti32, oB, Ty.d32, eqSt, held32, Ty.f32]
    have p0 : partA tb 3 [Value.int IntKind.i64 a, Value.int IntKind.i64 b] 0 = some (.int .i64 a) := by
      unfold partA; simp only [Ty.ti3, Ty.g3, oB]; rfl
    have p1 : partA tb 3 [Value.int IntKind.i64 a, Value.int IntKind.i64 b] 1 = some (.int .i64 b) := by
      unfold partA; simp only [Ty.ti3, Ty.g3, oB]; rfl
    simp only [eqFields, p0, p1, oB, h3]
  unfold binA
  simp only [eqOp, guardOk, Ty.ti32, guard32, Bool.not_false, e, oB, Bool.not_true]
theorem sameStep_ok {m : Mem} {s : Stp} {ad ac ad' ac' : Option Addr} {dc cc dc' cc' : Nat} (hd : SlAt m (.slice ad s.data.length dc) s.data.length (u8s s.data)) (hd' : SlAt m (.slice ad' s.data.length dc') s.data.length (u8s s.data))
    (hc : SlAt m (.slice ac s.choices.length cc) s.choices.length (i64s s.choices)) (hc' : SlAt m (.slice ac' s.choices.length cc') s.choices.length (i64s s.choices)) (hb : s.choices.length ≤ 1000000000) :
    CallsA tb 38 [.agg ⟨stpCells s (.slice ad s.data.length dc) (.slice ac s.choices.length cc)⟩, .agg ⟨stpCells s (.slice ad' s.data.length dc') (.slice ac' s.choices.length cc')⟩] m (retR fun r m' => r = .bool true ∧ Old m.next m m') := by
  refine callsS Tryz.func38 e38 rfl rfl ?_
  simp only [s38, List.replicate, List.length_cons, List.length_nil, List.cons_append, List.nil_append, Nat.reduceAdd, Nat.reduceSub]
  refine xseqP (PS := fun l' ds' m1 => ds' = [] ∧ m1.next = m.next + 2 ∧ Old m.next m m1 ∧ vw m1 m.next = some ⟨true, 36, false, stpCells s (.slice ad s.data.length dc) (.slice ac s.choices.length cc)⟩ ∧ vw m1 (m.next + 1) = some ⟨true, 36, false, stpCells s (.slice ad' s.data.length dc') (.slice ac' s.choices.length cc')⟩ ∧
      Sl [.agg ⟨stpCells s (.slice ad s.data.length dc) (.slice ac s.choices.length cc)⟩, .agg ⟨stpCells s (.slice ad' s.data.length dc') (.slice ac' s.choices.length cc')⟩, .pointer (some ⟨m.next, 0, none⟩), .pointer (some ⟨m.next + 1, 0, none⟩), .bool false] 131 l') ?_ ?_
  · refine xregQ fun Q' hQ => ?_
    simp
    subst hQ
    refine ⟨rfl, rfl, by simp, ?_, ?_, ?_, Sl.mk rfl rfl⟩
    · exact ((Old.refl _ _).new (Nat.le_refl _) _).new (by simp) _
    · simp [vw_new]
    · simp [vw_new]
  rintro l ds m1 ⟨rfl, hnx, hO, hv1, hv2, ⟨ts, hts, rfl⟩⟩
  have hr1 := hv1
  have hr2 := hv2
  have zs : ∀ d c : Value, (stpCells s d c)[0]? = some (.int .i64 s.kind) ∧ (stpCells s d c)[1]? = some (.int .i64 s.node) ∧ (stpCells s d c)[2]? = some (.int .i64 s.stream) ∧ (stpCells s d c)[3]? = some (.int .u64 s.time) ∧ (stpCells s d c)[4]? = some (.int .u64 s.life) ∧ (stpCells s d c)[5]? = some d ∧ (stpCells s d c)[6]? = some (.int .u64 s.seq) ∧ takeN (stpCells s d c) 7 2 = [.int .i64 s.qc, .int .i64 s.qb] ∧ 9 ≤ (stpCells s d c).length := fun _ _ => ⟨rfl, rfl, rfl, rfl, rfl, rfl, rfl, rfl, by rw [stp_len]; omega⟩
  have zt : ∀ d c : Value, (stpCells s d c)[9]? = some (.int .i64 s.way) ∧ (stpCells s d c)[10]? = some (.int .i64 s.place) ∧ (stpCells s d c)[11]? = some (.int .i64 s.pos) ∧ (stpCells s d c)[12]? = some (.int .u32 s.mask) ∧ (stpCells s d c)[13]? = some (.int .u64 s.ticks) ∧ (stpCells s d c)[14]? = some c ∧ (stpCells s d c)[15]? = some (.int .i64 s.cursor) ∧ (stpCells s d c)[16]? = some (.int .u64 s.to) := fun _ _ => ⟨rfl, rfl, rfl, rfl, rfl, rfl, rfl, rfl⟩
  have hd1 := SlAt.old hd hO
  have hd2 := SlAt.old hd' hO
  have hc1 := SlAt.old hc hO
  have hc2 := SlAt.old hc' hO
  refine xseqP (PS := fun l' ds' m' => ds' = [] ∧ m' = m1 ∧ Sl [.agg ⟨stpCells s (.slice ad s.data.length dc) (.slice ac s.choices.length cc)⟩, .agg ⟨stpCells s (.slice ad' s.data.length dc') (.slice ac' s.choices.length cc')⟩, .pointer (some ⟨m.next, 0, none⟩), .pointer (some ⟨m.next + 1, 0, none⟩), .bool false] 131 l') ?_ ?_
  · refine xseq (xregQ fun Q' hQ => ?_)
    simp [hts, hv1, hv2, zs, c29_9 hd1, c29_9 hd2, b_neq32]
    subst hQ
    rw [thenA_normal]
    refine xif (v := false) ?_ (fun h => by cases h) (fun h => xskip ?_)
    · rw [evL_tmp']
      simp [hts]
    exact ⟨rfl, rfl, rfl, Sl.mk rfl (by simp [hts])⟩
  rintro l ds m2 ⟨rfl, rfl, ⟨ts, hts, rfl⟩⟩
  refine xseqP (PS := fun l' ds' m' => ds' = [] ∧ m' = m2 ∧ Sl [.agg ⟨stpCells s (.slice ad s.data.length dc) (.slice ac s.choices.length cc)⟩, .agg ⟨stpCells s (.slice ad' s.data.length dc') (.slice ac' s.choices.length cc')⟩, .pointer (some ⟨m.next, 0, none⟩), .pointer (some ⟨m.next + 1, 0, none⟩), .bool false] 131 l') ?_ ?_
  · refine xseq (xregQ fun Q' hQ => ?_)
    simp [hts, hv1, hv2, zt]
    subst hQ
    rw [thenA_normal]
    refine xif (v := false) ?_ (fun h => by cases h) (fun h => xskip ?_)
    · rw [evL_tmp']
      simp [hts]
    exact ⟨rfl, rfl, rfl, Sl.mk rfl (by simp [hts])⟩
  rintro l ds m3 ⟨rfl, rfl, ⟨ts, hts, rfl⟩⟩
  refine xseq (xseq (xregQ fun Q' hQ => ?_))
  simp [hts]
  subst hQ
  obtain ⟨x5, ts', rfl, hts'⟩ := len_succ (n := 130) hts
  refine xblock (xwhile (N := s.choices.length) (I := fun n l ds m2 => ∃ k, n = s.choices.length - k ∧ k ≤ s.choices.length ∧ ds = [] ∧ m2 = m3 ∧ Sl [.agg ⟨stpCells s (.slice ad s.data.length dc) (.slice ac s.choices.length cc)⟩, .agg ⟨stpCells s (.slice ad' s.data.length dc') (.slice ac' s.choices.length cc')⟩, .pointer (some ⟨m.next, 0, none⟩), .pointer (some ⟨m.next + 1, 0, none⟩), .bool false, .int .i64 (k : Nat)] 130 l) ?_ ?_)
  · exact ⟨0, rfl, by omega, rfl, rfl, ts', hts', rfl⟩
  rintro n l ds m4 ⟨k, rfl, hk, rfl, rfl, ⟨us, hus, rfl⟩⟩
  refine xseq (xseq (xregQ fun Q' hQ => ?_))
  simp [hus, hv1, zt]
  subst hQ
  refine xif (v := decide ((k : Int) < (s.choices.length : Int))) (by first | rfl | simp [hus]) (fun h => xskip ?_) (fun h => xexit ?_)
  · simp only [decide_eq_true_eq] at h
    have hk2 : k < s.choices.length := by omega
    have q : (i64s s.choices)[k]? = some (.int .i64 (s.choices[k])) := by rw [i64s_get, List.getElem?_eq_getElem hk2]; rfl
    obtain ⟨b1, o1, c1, h1, h2, h3, -, h4⟩ := hc1.load q
    obtain ⟨b2, o2, c2, g1, g2, g3, -, g4⟩ := hc2.load q
    simp only [Value.slice.injEq] at h1 g1
    obtain ⟨rfl, -, rfl⟩ := h1
    obtain ⟨rfl, -, rfl⟩ := g1
    have ql := h4 (t := 3) (s := none) Ty.ti3 Ty.g3
    have qg := g4 (t := 3) (s := none) Ty.ti3 Ty.g3
    refine xseq (xblock (xseq (xdrw 1 fun Q' hQ => ?_)))
    simp [hus, hv1, hv2, zt, ql, qg, hk2, h]
    subst hQ
    refine xif (v := false) (by first | rfl | simp [hus]) (fun h => by cases h) (fun h => xskip ?_)
    refine xregQ fun Q' hQ => ?_
    simp [hus]
    rw [wr64 _ (by omega) (by omega)]
    subst hQ
    exact ⟨s.choices.length - (k + 1), by omega, k + 1, rfl, by omega, rfl, rfl, Sl.mk (by simp) (by simp [hus])⟩
  · refine xseq (xregQ fun Q' hQ => ?_)
    simp [hus]
    subst hQ
    refine xret ?_
    exact ⟨rfl, _, resX_one _, by simp [hus], hO⟩
end Go.Proofs.YtgmkbdmgifdfeaaGreatDoor
set_option maxRecDepth 8000
namespace Go.Proofs.YtgmkbdmgifdfeaaGreatDoor
open Go Go.Ev
theorem sameSteps_ok {m : Mem} {v w : Value} {ss : List Stp} (hv : StepsOld m.next m v ss) (hw : StepsOld m.next m w ss) (hb : weights ss ≤ 500000000) :
    CallsA tb 16 [v, w] m (retR fun r m' => r = .bool true ∧ Old m.next m m') := by
  have hlen := weights_len ss
  obtain ⟨av, cv, rfl⟩ := hv.shape
  obtain ⟨aw, cw, rfl⟩ := hw.shape
  refine callsS Tryz.func16 e16 rfl rfl ?_
  simp only [s16, List.replicate, List.length_cons, List.length_nil, List.cons_append, List.nil_append, Nat.reduceAdd, Nat.reduceSub]
  refine xseq (xregQ fun Q' hQ => ?_)
  simp
  subst hQ
  refine xseq (xseq (xregQ fun Q' hQ => ?_))
  simp
  subst hQ
  refine xif (v := false) rfl (fun h => by cases h) (fun _ => xskip ?_)
  refine xseq (xseq (xregQ fun Q' hQ => ?_))
  simp
  subst hQ
  refine xblock (xwhile (N := ss.length) (I := fun n l ds m2 => ∃ k, n = ss.length - k ∧ k ≤ ss.length ∧ ds = [] ∧ Old m.next m m2 ∧ Sl [.slice av ss.length cv, .slice aw ss.length cw, undef, undef, .bool false, .int .i64 (k : Nat)] 21 l) ?_ ?_)
  · exact ⟨0, rfl, by omega, rfl, .refl _ _, Sl.mk rfl rfl⟩
  rintro n l ds m2 ⟨k, rfl, hk, rfl, hO, ⟨us, hus, rfl⟩⟩
  refine xseq (xseq (xregQ fun Q' hQ => ?_))
  simp [hus]
  subst hQ
  refine xif (v := decide ((k : Int) < (ss.length : Int))) (by simp [hus]) (fun h => xskip ?_) (fun h => xexit ?_)
  · simp only [decide_eq_true_eq] at h
    have hk2 : k < ss.length := by omega
    have hks : ss[k]? = some ss[k] := List.getElem?_eq_getElem hk2
    generalize ss[k] = s at hks
    obtain ⟨b1, o1, c1, h1, hR, ad, dc, ac, cc, h2, h3, h4, -, -, -⟩ := (hv.old hO).load hO.1 hks
    obtain ⟨b2, o2, c2, g1, -, ad', dc', ac', cc', g2, g3, g4, -, -, -⟩ := (hw.old hO).load hO.1 hks
    simp only [Value.slice.injEq] at h1 g1
    obtain ⟨rfl, -, rfl⟩ := h1
    obtain ⟨rfl, -, rfl⟩ := g1
    have hwt := weights_take ss hks
    have hcl : s.choices.length ≤ 1000000000 := by unfold weight at hwt; omega
    refine xseq (xblock (xseq (xdrw 2 fun Q' hQ => ?_)))
    simp [hus, h2, g2, hk2, h]
    refine xcall (ov_none (by decide)) (sameStep_ok (h3.at hO.1) (g3.at hO.1) (h4.at hO.1) (g4.at hO.1) hcl) ?_ (fun ch m' h => h.elim)
    rintro r m3 ⟨rfl, hO3⟩
    simp [hus]
    subst hQ
    refine xif (v := false) (by simp [hus]) (fun h => by cases h) (fun h => xskip ?_)
    refine xregQ fun Q' hQ => ?_
    simp [hus]
    rw [wr64 _ (by omega) (by omega)]
    subst hQ
    exact ⟨ss.length - (k + 1), by omega, k + 1, rfl, by omega, rfl, hO.trans (hO3.le hO.1), Sl.mk rfl (by simp [hus])⟩
  · refine xseq (xregQ fun Q' hQ => ?_)
    simp [hus]
    subst hQ
    refine xret ?_
    exact ⟨rfl, _, resX_one _, by simp [hus], hO⟩
end Go.Proofs.YtgmkbdmgifdfeaaGreatDoor
set_option maxRecDepth 8000
namespace Go.Proofs.YtgmkbdmgifdfeaaGreatDoor
open Go Go.Ev
/-- what is put behind an empty slice -/
theorem app_new {m : Mem} {b : Nat} {V : Vw} (e : TypeId) (sz n : Nat) (new : List Value) (hv : vw m b = some V) (hx : V.ext = false) (h0 : n = 0 → new = []) :
    ∃ a c m', appendTo m e sz (.slice (some ⟨b, 0, none⟩) 0 0) n new = some (.slice a n c, m') ∧ Old m.next m m' := by
  cases n with
  | zero => rw [h0 rfl]; exact ⟨_, _, _, ap_zero _ _ (Nat.le_refl _), .refl _ _⟩
  | succ n =>
    have e1 := ap_fix (b := b) (o := 0) (sl := 0) (sc := 0) e sz (n + 1) new none hv hx (by omega) (.inl (by omega))
    rw [Nat.zero_add] at e1
    exact ⟨_, _, _, e1, (Old.refl _ _).new (Nat.le_refl _) _⟩
/-- the same steps, the slices in them whatever they are -/
def StepCells (cells : List Value) (ss : List Stp) : Prop := cells.length = ss.length * 17 ∧ ∀ k s, ss[k]? = some s → ∃ d c, takeN cells (k * 17) 17 = stpCells s d c ∧ oneC d = true ∧ oneC c = true
theorem spl_full {Z l : List Value} (h : Z.length = l.length) : spl Z 0 l = l := by
  rw [spl_eq (by omega)]; simp [← h]
theorem stp_one (s : Stp) {d c : Value} (hd : oneC d = true) (hc : oneC c = true) : (stpCells s d c).all oneC = true := by
  have hi : ∀ k n, oneC (.int k n) = true := fun _ _ => rfl
  simp only [stpCells, List.all_cons, hd, hc, List.all_nil, hi, Bool.and_true]
theorem StepCells.snoc {cells : List Value} {ss : List Stp} {s : Stp} {d c : Value} (h : StepCells cells ss) (hd : oneC d = true) (hc : oneC c = true) : StepCells (cells ++ stpCells s d c) (ss ++ [s]) := by
  obtain ⟨h1, h2⟩ := h
  refine ⟨by simp [h1, stp_len]; omega, fun k t hk => ?_⟩
  by_cases hlt : k < ss.length
  · rw [List.getElem?_append_left hlt] at hk
    obtain ⟨d', c', h3, h4, h5⟩ := h2 k t hk
    refine ⟨d', c', ?_, h4, h5⟩
    rw [← h3]; unfold takeN
    rw [List.drop_append_of_le_length (by omega), List.take_append_of_le_length (by simp; omega)]
  · rw [List.getElem?_append_right (by omega)] at hk
    have hk2 := (List.getElem?_eq_some_iff.1 hk).1
    simp only [List.length_cons, List.length_nil] at hk2
    obtain rfl : k = ss.length := by omega
    simp only [Nat.sub_self, List.getElem?_cons_zero, Option.some.injEq] at hk
    subst hk
    refine ⟨d, c, ?_, hd, hc⟩
    unfold takeN
    rw [← h1, List.drop_left, List.take_of_length_le (by rw [stp_len]; omega)]
theorem copied_ok {m : Mem} {v : Value} {ss : List Stp} (hv : StepsOld m.next m v ss) (hb : weights ss ≤ 500000000) :
    CallsA tb 10 [v] m (retR fun r m' => Old m.next m m' ∧ ∃ cells, Own m.next m' r 36 ss.length cells ∧ StepCells cells ss) := by
  have hlen := weights_len ss
  obtain ⟨av, cv, rfl⟩ := hv.shape
  refine callsS Tryz.func10 e10 rfl rfl ?_
  simp only [s10, List.replicate, List.length_cons, List.length_nil, List.cons_append, List.nil_append, Nat.reduceAdd, Nat.reduceSub]
  refine xseq (xregQ fun Q' hQ => ?_)
  simp
  subst hQ
  refine xseq (xregQ fun Q' hQ => ?_)
  simp
  subst hQ
  refine xseq (xseq (xregQ fun Q' hQ => ?_))
  simp
  subst hQ
  refine xblock (xwhile (N := ss.length) (I := fun n l ds m2 => ∃ k w cells, n = ss.length - k ∧ k ≤ ss.length ∧ ds = [] ∧ Old m.next m m2 ∧ Own m.next m2 w 36 k cells ∧ StepCells cells (ss.take k) ∧ Sl [.slice av ss.length cv, undef, .slice none 0 0, w, .int .i64 (k : Nat)] 26 l) ?_ ?_)
  · exact ⟨0, _, [], rfl, by omega, rfl, .refl _ _, .inl ⟨rfl, rfl, rfl⟩, ⟨by simp, by simp⟩, Sl.mk rfl rfl⟩
  rintro n l ds m2 ⟨k, w, cells, rfl, hk, rfl, hO, hw, hcs, ⟨us, hus, rfl⟩⟩
  refine xseq (xseq (xregQ fun Q' hQ => ?_))
  simp [hus]
  subst hQ
  refine xif (v := decide ((k : Int) < (ss.length : Int))) (by simp [hus]) (fun h => xskip ?_) (fun h => xexit ?_)
  · simp only [decide_eq_true_eq] at h
    have hk2 : k < ss.length := by omega
    have hks : ss[k]? = some ss[k] := List.getElem?_eq_getElem hk2
    generalize ss[k] = s at hks
    obtain ⟨b1, o1, c1, h1, hR, ad, dc, ac, cc, h2, h3, h4, h5, -, -⟩ := (hv.old hO).load hO.1 hks
    simp only [Value.slice.injEq] at h1
    obtain ⟨rfl, -, rfl⟩ := h1
    have hwt := weights_take ss hks
    have hcl : s.choices.length ≤ 5000000 := by unfold weight at hwt; omega
    have hdl : s.data.length ≤ 25000000 := by unfold weight at hwt; omega
    refine xseq (xblock (xseqP (PS := fun l' ds' m' => ds' = [] ∧ m'.next = m2.next + 1 ∧ vw m' m2.next = some ⟨true, 36, false, stpCells s (.slice ad s.data.length dc) (.slice ac s.choices.length cc)⟩ ∧ (∀ x, x < m2.next → m'.objs.get x = m2.objs.get x) ∧
       Sl [.slice (some ⟨b1, o1, none⟩) ss.length cv, undef, .slice none 0 0, w, .int .i64 (k : Nat), .pointer (some ⟨m2.next, 0, none⟩)] 25 l') ?_ ?_))
    · refine xregQ fun Q' hQ => ?_
      obtain ⟨x5, ts', rfl, hts'⟩ := len_succ (n := 25) hus
      simp [hts', h2, hk2, h]
      rw [if_pos ⟨stp_len _ _ _, by rw [stp_len]; exact Nat.le_refl _, fun x hx => List.all_eq_true.1 h5 x hx⟩]
      obtain ⟨m3, e3, f1, f2, f3⟩ := alloc_st m2 36 17 (tv 36).zc (stpCells s (.slice ad s.data.length dc) (.slice ac s.choices.length cc)) (by rw [Ty.z36]; rfl) (by rw [Ty.z36]; rfl) h5
      rw [Ty.z36] at e3
      rw [← e3]
      simp [hts']
      subst hQ
      exact ⟨rfl, rfl, f1, f2, f3, Sl.mk rfl (by simp [hts'])⟩
    rintro l ds m3 ⟨rfl, hn3, hv3, hx3, ⟨ts, hts, rfl⟩⟩
    have hO3 : Old m2.next m2 m3 := ⟨by omega, hx3⟩
    -- the data
    refine xseqP (PS := fun l' ds' m' => ds' = [] ∧ ∃ d, oneC d = true ∧ Old m2.next m2 m' ∧ m2.next < m'.next ∧ vw m' m2.next = some ⟨true, 36, false, stpCells s d (.slice ac s.choices.length cc)⟩ ∧
       Sl [.slice (some ⟨b1, o1, none⟩) ss.length cv, undef, .slice none 0 0, w, .int .i64 (k : Nat), .pointer (some ⟨m2.next, 0, none⟩)] 25 l') ?_ ?_
    · refine xregQ fun Q' hQ => ?_
      have hne : ¬ m2.next = m3.next := by omega
      have hA : vw (newObjA m3 (.row ⟨.lf, 0, [.int .u8 0], 5, .none, false⟩)) m3.next = some ⟨true, 5, false, []⟩ := by
        rw [vw_new, if_pos rfl]; exact vwO_zeroObj 5 [.int .u8 0] 0
      have hO4 : Old m2.next m2 (newObjA m3 (.row ⟨.lf, 0, [.int .u8 0], 5, .none, false⟩)) := hO3.new (by omega) _
      have hO5 : Old m.next m (newObjA m3 (.row ⟨.lf, 0, [.int .u8 0], 5, .none, false⟩)) := hO.trans (hO4.le hO.1)
      have h3' : SlOld m.next (newObjA m3 (.row ⟨.lf, 0, [.int .u8 0], 5, .none, false⟩)) (.slice ad s.data.length dc) s.data.length (u8s s.data) := h3.old (hO4.le hO.1)
      have hfi := (h3'.at hO5.1).first (u8s_length s.data) s.data.length
      obtain ⟨a2, c2, m5, g1, g2⟩ := app_new 5 1 s.data.length (u8s s.data) hA rfl (fun h0 => by rw [List.length_eq_zero_iff.1 h0]; rfl)
      have hw5 : vw m5 m2.next = some ⟨true, 36, false, stpCells s (.slice ad s.data.length dc) (.slice ac s.choices.length cc)⟩ := by
        rw [g2.vw (by rw [next_newObjA]; omega), vw_new, if_neg hne]; exact hv3
      have zd : ∀ d c : Value, (stpCells s d c)[5]? = some d := fun _ _ => rfl
      simp [-at_W, hts, hv3, hne, zd, hfi, fits_true _ 0 0 s.data.length 1 (by omega), g1, hw5]
      rw [if_pos (by rw [stp_len]; omega)]
      simp [hts]
      subst hQ
      refine ⟨rfl, rfl, .slice a2 s.data.length c2, rfl, ?_, ?_, ?_, Sl.mk rfl (by simp [hts])⟩
      · exact (hO4.trans (g2.le (by rw [next_newObjA]; omega))).trans ((Old.refl _ _).st (Nat.le_refl _) _ _)
      · rw [stM_next]; have := g2.1; rw [next_newObjA] at this; omega
      · rw [vw_stM_eq hw5 (by simp [stOk, stp_len, oneC])]; rfl
    rintro l ds m4 ⟨rfl, d, hd1, hO4, hn4, hv4, ⟨ts, hts, rfl⟩⟩
    -- the choices
    refine xseqP (PS := fun l' ds' m' => ds' = [] ∧ ∃ c, oneC c = true ∧ Old m2.next m2 m' ∧ m2.next < m'.next ∧ vw m' m2.next = some ⟨true, 36, false, stpCells s d c⟩ ∧
       Sl [.slice (some ⟨b1, o1, none⟩) ss.length cv, undef, .slice none 0 0, w, .int .i64 (k : Nat), .pointer (some ⟨m2.next, 0, none⟩)] 25 l') ?_ ?_
    · refine xregQ fun Q' hQ => ?_
      have hne : ¬ m2.next = m4.next := by omega
      have hA : vw (newObjA m4 (.row ⟨.lf, 0, [.int .i64 0], 3, .none, false⟩)) m4.next = some ⟨true, 3, false, []⟩ := by
        rw [vw_new, if_pos rfl]; exact vwO_zeroObj 3 [.int .i64 0] 0
      have hO6 : Old m2.next m2 (newObjA m4 (.row ⟨.lf, 0, [.int .i64 0], 3, .none, false⟩)) := hO4.new (by omega) _
      have hO5 : Old m.next m (newObjA m4 (.row ⟨.lf, 0, [.int .i64 0], 3, .none, false⟩)) := hO.trans (hO6.le hO.1)
      have h3' : SlOld m.next (newObjA m4 (.row ⟨.lf, 0, [.int .i64 0], 3, .none, false⟩)) (.slice ac s.choices.length cc) s.choices.length (i64s s.choices) := h4.old (hO6.le hO.1)
      have hfi := (h3'.at hO5.1).first (i64s_length s.choices) s.choices.length
      obtain ⟨a2, c2, m5, g1, g2⟩ := app_new 3 1 s.choices.length (i64s s.choices) hA rfl (fun h0 => by rw [List.length_eq_zero_iff.1 h0]; rfl)
      have hw5 : vw m5 m2.next = some ⟨true, 36, false, stpCells s d (.slice ac s.choices.length cc)⟩ := by
        rw [g2.vw (by rw [next_newObjA]; omega), vw_new, if_neg hne]; exact hv4
      have zd : ∀ d c : Value, (stpCells s d c)[14]? = some c := fun _ _ => rfl
      simp [-at_W, hts, hv4, hne, zd, hfi, fits_true _ 0 0 s.choices.length 8 (by omega), g1, hw5]
      rw [if_pos (by rw [stp_len]; omega)]
      simp [hts]
      subst hQ
      refine ⟨rfl, rfl, .slice a2 s.choices.length c2, rfl, ?_, ?_, ?_, Sl.mk rfl (by simp [hts])⟩
      · exact (hO6.trans (g2.le (by rw [next_newObjA]; omega))).trans ((Old.refl _ _).st (Nat.le_refl _) _ _)
      · rw [stM_next]; have := g2.1; rw [next_newObjA] at this; omega
      · rw [vw_stM_eq hw5 (by simp [stOk, stp_len, oneC])]; rfl
    rintro l ds m5 ⟨rfl, c, hc1, hO5, hn5, hv5, ⟨ts, hts, rfl⟩⟩
    -- the step, put behind
    refine xregQ fun Q' hQ => ?_
    have hone : (stpCells s d c).all oneC = true := stp_one s hd1 hc1
    have ht17 : takeN (stpCells s d c) 0 17 = stpCells s d c := rfl
    have hsp : spl [.int .i64 0, .int .i64 0, .int .i64 0, .int .u64 0, .int .u64 0, .slice none 0 0, .int .u64 0, .int .i64 0, .int .i64 0, .int .i64 0, .int .i64 0, .int .i64 0, .int .u32 0, .int .u64 0, .slice none 0 0, .int .i64 0, .int .u64 0] 0 (stpCells s d c) = stpCells s d c := spl_full rfl
    have hO7 : Old m2.next m2 (newObjA m5 (.row ⟨T.setL (stpCells s d c) 0 .lf, 17, [.int .i64 0, .int .i64 0, .int .i64 0, .int .u64 0, .int .u64 0, .slice none 0 0, .int .u64 0, .int .i64 0, .int .i64 0, .int .i64 0, .int .i64 0, .int .i64 0, .int .u32 0, .int .u64 0, .slice none 0 0, .int .i64 0, .int .u64 0], 36, .none, false⟩)) := hO5.new (by omega) _
    obtain ⟨w', m6, f1, f2, f3, f4, f5⟩ := hw.append (k := 0) (sz := 17) (new := stpCells s d c) hO7 hO.1 (by rw [hcs.1, List.length_take, Nat.min_eq_left hk]) (by rw [stp_len]) hone
    obtain ⟨aw, rfl⟩ := hw.shape
    simp [-at_W, hts, hv5, stp_len, ht17, hsp, fits_true _ k k 1 168 (by omega), f1]
    subst hQ
    refine (xregQ fun Q' hQ => ?_)
    simp [hts]
    rw [wr64 _ (by omega) (by omega)]
    subst hQ
    refine ⟨ss.length - (k + 1), by omega, k + 1, w', _, rfl, by omega, rfl, hO.trans ((hO7.le hO.1).trans f4), f2, ?_, Sl.mk rfl (by simp [hts])⟩
    rw [List.take_add_one, hks]
    exact hcs.snoc hd1 hc1
  · simp only [decide_eq_false_iff_not] at h
    obtain rfl : k = ss.length := by omega
    rw [List.take_length] at hcs
    refine xseq (xregQ fun Q' hQ => ?_)
    simp [hus]
    subst hQ
    refine xret ?_
    exact ⟨rfl, _, resX_one _, by simp [hus]; exact ⟨hO, _, hw, hcs⟩⟩
end Go.Proofs.YtgmkbdmgifdfeaaGreatDoor
set_option maxRecDepth 8000
namespace Go.Proofs.YtgmkbdmgifdfeaaGreatDoor
open Go Go.Ev
/-! ### cells by steps -/
theorem takeN_spl {cells l : List Value} {n k j off : Nat} (hc : cells.length = n * 17) (hk : k < n) (hl : off + l.length ≤ 17) (hj : j < n) :
    takeN (spl cells (k * 17 + off) l) (j * 17) 17 = if j = k then spl (takeN cells (k * 17) 17) off l else takeN cells (j * 17) 17 := by
  have hb : k * 17 + off + l.length ≤ cells.length := by omega
  apply List.ext_getElem?
  intro i
  by_cases hi : i < 17
  · rw [takeN_get hi, spl_get _ _ _ _ hb]
    by_cases e : j = k
    · subst e
      rw [if_pos rfl, spl_get _ _ _ _ (by rw [takeN_length (by omega)]; omega), takeN_get hi]
      by_cases h2 : off ≤ i ∧ i < off + l.length
      · rw [if_pos (by omega), if_pos h2]; congr 1; omega
      · rw [if_neg (by omega), if_neg h2]
    · rw [if_neg e, takeN_get hi, if_neg]
      rcases Nat.lt_or_gt_of_ne e with e | e <;> omega
  · rw [List.getElem?_eq_none (by rw [takeN_length (by rw [spl_length]; omega)]; omega)]
    split
    · rw [List.getElem?_eq_none (by rw [spl_length, takeN_length (by omega)]; omega)]
    · rw [List.getElem?_eq_none (by rw [takeN_length (by omega)]; omega)]
theorem spl5 (s : Stp) (d c d' : Value) : spl (stpCells s d c) 5 [d'] = stpCells s d' c := rfl
theorem spl14 (s : Stp) (d c c' : Value) : spl (stpCells s d c) 14 [c'] = stpCells s d c' := rfl
/-- bytes that are lent, and the room behind them -/
def LentB (n2 : Nat) (m : Mem) (d : Value) (data : List UInt8) : Prop := ∃ b, d = .slice (some ⟨b, 0, none⟩) data.length (data.length + 4) ∧ n2 ≤ b ∧ b < m.next ∧ vw m b = some ⟨true, 5, true, u8s data ++ List.replicate 4 (.int .u8 81)⟩
def LentI (n2 : Nat) (m : Mem) (d : Value) (data : List Int) : Prop := ∃ b, d = .slice (some ⟨b, 0, none⟩) data.length (data.length + 4) ∧ n2 ≤ b ∧ b < m.next ∧ vw m b = some ⟨true, 3, true, i64s data ++ List.replicate 4 (.int .i64 82)⟩
theorem LentB.keep {n2 : Nat} {m m' : Mem} {d : Value} {data : List UInt8} (h : LentB n2 m d data) (hn : m.next ≤ m'.next) (k : ∀ x, n2 ≤ x → x < m.next → m'.objs.get x = m.objs.get x) : LentB n2 m' d data := by
  obtain ⟨b, h1, h2, h3, h4⟩ := h
  exact ⟨b, h1, h2, Nat.lt_of_lt_of_le h3 hn, by unfold vw; rw [k b h2 h3]; exact h4⟩
theorem LentI.keep {n2 : Nat} {m m' : Mem} {d : Value} {data : List Int} (h : LentI n2 m d data) (hn : m.next ≤ m'.next) (k : ∀ x, n2 ≤ x → x < m.next → m'.objs.get x = m.objs.get x) : LentI n2 m' d data := by
  obtain ⟨b, h1, h2, h3, h4⟩ := h
  exact ⟨b, h1, h2, Nat.lt_of_lt_of_le h3 hn, by unfold vw; rw [k b h2 h3]; exact h4⟩
theorem LentB.old {n2 n : Nat} {m : Mem} {d : Value} {data : List UInt8} (h : LentB n2 m d data) (hn : m.next ≤ n) : SlOld n m d data.length (u8s data) := by
  obtain ⟨b, rfl, h2, h3, h4⟩ := h
  refine .inr ⟨b, 0, _, rfl, by omega, .inr ⟨?_, by omega⟩⟩
  rw [rd_vw h4 (by simp)]
  simp [takeN]
theorem LentI.old {n2 n : Nat} {m : Mem} {d : Value} {data : List Int} (h : LentI n2 m d data) (hn : m.next ≤ n) : SlOld n m d data.length (i64s data) := by
  obtain ⟨b, rfl, h2, h3, h4⟩ := h
  refine .inr ⟨b, 0, _, rfl, by omega, .inr ⟨?_, by omega⟩⟩
  rw [rd_vw h4 (by simp)]
  simp [takeN]
/-- the steps' cells, the first 'k' of them with what is lent -/
def Mine (n2 : Nat) (m : Mem) (cells : List Value) (ss : List Stp) (k : Nat) : Prop := cells.length = ss.length * 17 ∧ ∀ j s, ss[j]? = some s → ∃ d c, takeN cells (j * 17) 17 = stpCells s d c ∧ oneC d = true ∧ oneC c = true ∧ (j < k → LentB n2 m d s.data ∧ LentI n2 m c s.choices)
theorem Mine.keep {n2 k : Nat} {m m' : Mem} {cells : List Value} {ss : List Stp} (h : Mine n2 m cells ss k) (hn : m.next ≤ m'.next) (hk : ∀ x, n2 ≤ x → x < m.next → m'.objs.get x = m.objs.get x) : Mine n2 m' cells ss k := by
  refine ⟨h.1, fun j s hj => ?_⟩
  obtain ⟨d, c, h1, h2, h3, h4⟩ := h.2 j s hj
  exact ⟨d, c, h1, h2, h3, fun e => ⟨(h4 e).1.keep hn hk, (h4 e).2.keep hn hk⟩⟩
theorem Mine.data {n2 k : Nat} {m : Mem} {cells : List Value} {ss : List Stp} {s : Stp} {d : Value} (h : Mine n2 m cells ss k) (hs : ss[k]? = some s) (hd : LentB n2 m d s.data) :
    ∃ c, Mine n2 m (spl cells (k * 17 + 5) [d]) ss k ∧ takeN (spl cells (k * 17 + 5) [d]) (k * 17) 17 = stpCells s d c ∧ oneC c = true := by
  have hk := (List.getElem?_eq_some_iff.1 hs).1
  have hone : oneC d = true := by obtain ⟨b, rfl, _⟩ := hd; rfl
  obtain ⟨d0, c0, h1, h2, h3, h4⟩ := h.2 k s hs
  refine ⟨c0, ⟨by rw [spl_length]; exact h.1, fun j t hj => ?_⟩, ?_, h3⟩
  · have hj2 := (List.getElem?_eq_some_iff.1 hj).1
    rw [takeN_spl h.1 hk (by simp) hj2]
    by_cases e : j = k
    · subst e
      rw [hs] at hj; cases hj
      rw [if_pos rfl, h1, spl5]
      exact ⟨_, _, rfl, hone, h3, fun e => by omega⟩
    · rw [if_neg e]; exact h.2 j t hj
  · rw [takeN_spl h.1 hk (by simp) hk, if_pos rfl, h1, spl5]
theorem Mine.chs {n2 k : Nat} {m : Mem} {cells : List Value} {ss : List Stp} {s : Stp} {d c c0 : Value} (h : Mine n2 m cells ss k) (hs : ss[k]? = some s) (h1 : takeN cells (k * 17) 17 = stpCells s d c0) (hd : LentB n2 m d s.data) (hc : LentI n2 m c s.choices) :
    Mine n2 m (spl cells (k * 17 + 14) [c]) ss (k + 1) := by
  have hk := (List.getElem?_eq_some_iff.1 hs).1
  have hone : oneC d = true := by obtain ⟨b, rfl, _⟩ := hd; rfl
  have hone2 : oneC c = true := by obtain ⟨b, rfl, _⟩ := hc; rfl
  refine ⟨by rw [spl_length]; exact h.1, fun j t hj => ?_⟩
  have hj2 := (List.getElem?_eq_some_iff.1 hj).1
  rw [takeN_spl h.1 hk (by simp) hj2]
  by_cases e : j = k
  · subst e
    rw [hs] at hj; cases hj
    rw [if_pos rfl, h1, spl14]
    exact ⟨_, _, rfl, hone, hone2, fun e => ⟨hd, hc⟩⟩
  · rw [if_neg e]
    obtain ⟨d1, c1, h4, h5, h6, h7⟩ := h.2 j t hj
    exact ⟨d1, c1, h4, h5, h6, fun e2 => h7 (by omega)⟩
theorem Mine.of {n2 : Nat} {m : Mem} {cells : List Value} {ss : List Stp} (h : StepCells cells ss) : Mine n2 m cells ss 0 :=
  ⟨h.1, fun j s hj => by obtain ⟨d, c, h1, h2, h3⟩ := h.2 j s hj; exact ⟨d, c, h1, h2, h3, fun e => by omega⟩⟩
/-- cells that are, up to 'k', those of another row -/
def Same (cells other : List Value) (ss : List Stp) (k : Nat) : Prop := cells.length = ss.length * 17 ∧ ∀ j s, ss[j]? = some s → j < k → takeN cells (j * 17) 17 = takeN other (j * 17) 17
theorem Same.step {cells other l : List Value} {ss : List Stp} {k : Nat} (h : Same cells other ss k) (ho : other.length = ss.length * 17) (hk : k < ss.length) (hl : l = takeN other (k * 17) 17) : Same (spl cells (k * 17) l) other ss (k + 1) := by
  have hll : l.length = 17 := by rw [hl, takeN_length (by omega)]
  refine ⟨by rw [spl_length]; exact h.1, fun j s hj e => ?_⟩
  have hj2 := (List.getElem?_eq_some_iff.1 hj).1
  have e1 := takeN_spl (j := j) (off := 0) h.1 hk (l := l) (by omega) hj2
  rw [Nat.add_zero] at e1
  rw [e1]
  by_cases e : j = k
  · subst e
    rw [if_pos rfl, spl_full (by rw [hll, takeN_length (by have := h.1; omega)]), hl]
  · rw [if_neg e]; exact h.2 j s hj (by omega)
theorem Same.eq {cells other : List Value} {ss : List Stp} (h : Same cells other ss ss.length) (ho : other.length = ss.length * 17) : cells = other := by
  have hc := h.1
  apply List.ext_getElem?
  intro i
  by_cases hi : i < ss.length * 17
  · have hj : i / 17 < ss.length := by omega
    have e := h.2 (i / 17) _ (List.getElem?_eq_getElem hj) hj
    have e2 := congrArg (fun l : List Value => l[i % 17]?) e
    simp only [takeN_get (Nat.mod_lt i (by omega : 17 > 0))] at e2
    rw [show i / 17 * 17 + i % 17 = i from by omega] at e2
    exact e2
  · rw [List.getElem?_eq_none (by omega), List.getElem?_eq_none (by omega)]
theorem _root_.Go.Ev.Own.put {n0 n i : Nat} {m : Mem} {w : Value} {e : TypeId} {cells l : List Value} (h : Own n0 m w e n cells) (hb : i + l.length ≤ cells.length) (ho : l.all oneC = true) (hne : l ≠ []) :
    ∃ b, w = .slice (some ⟨b, 0, none⟩) n n ∧ n0 ≤ b ∧ b < m.next ∧ vw m b = some ⟨true, e, true, cells⟩ ∧ Own n0 (stM m b i l) w e n (spl cells i l) := by
  rcases h with ⟨rfl, rfl, rfl⟩ | ⟨b, rfl, h1, h2, h3⟩
  · cases l with
    | nil => exact absurd rfl hne
    | cons => simp at hb
  · exact ⟨b, rfl, h1, h2, h3, .inr ⟨b, rfl, h1, by rw [stM_next]; exact h2, by rw [vw_stM_eq h3 (by simp only [stOk, Bool.and_eq_true, ho, and_true, Nat.ble_eq, true_and]; exact hb)]⟩⟩
/-- the steps of a row -/
theorem StepsOld.of {n2 n : Nat} {m : Mem} {b c : Nat} {cells rest : List Value} {ss : List Stp} (h : Mine n2 m cells ss ss.length) (hv : vw m b = some ⟨true, 36, true, cells ++ rest⟩) (hb : b < m.next) (hn : m.next ≤ n) (hc : ss.length ≤ c) (hR : ∀ s ∈ ss, s.R) :
    StepsOld n m (.slice (some ⟨b, 0, none⟩) ss.length c) ss := by
  refine ⟨cells, .inr ⟨b, 0, c, rfl, hc, .inr ⟨?_, by omega⟩⟩, h.1, fun k s hk => ?_⟩
  · rw [rd_vw hv (by simp)]; simp [takeN]
  · obtain ⟨d, c', h1, h2, h3, h4⟩ := h.2 k s hk
    obtain ⟨h5, h6⟩ := h4 (List.getElem?_eq_some_iff.1 hk).1
    exact ⟨hR s (List.mem_of_getElem? hk), d, c', h1, h5.old hn, h6.old hn⟩
end Go.Proofs.YtgmkbdmgifdfeaaGreatDoor
