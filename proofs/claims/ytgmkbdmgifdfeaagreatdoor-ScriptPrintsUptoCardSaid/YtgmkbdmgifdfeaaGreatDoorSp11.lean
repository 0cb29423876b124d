/- ScriptPrints itself, on the machine. -/
import Derived.Test.YtgmkbdmgifdfeaaGreatDoorSp10
set_option linter.unusedSimpArgs false
set_option linter.unusedVariables false
set_option maxRecDepth 8000
namespace Go.Proofs.YtgmkbdmgifdfeaaGreatDoor
open Go Go.Ev
/-- what stands while the lent steps are made -/
structure Lnd (n0 N : Nat) (x : Stu) (ss : List Stp) (m m3 : Mem) (w : Value) (cells : List Value) (k : Nat) : Prop where
  old : Old m.next m m3
  nx : n0 = m.next + 1
  stu : vw m3 m.next = some ⟨true, 26, false, stuCells x⟩
  le : N ≤ m3.next
  lo : n0 ≤ N
  own : Own n0 m3 w 36 ss.length cells
  blk : ∀ b, blkV w = some b → b < N
  mine : Mine N m3 cells ss k
theorem lnd_call {n0 N k : Nat} {x : Stu} {ss : List Stp} {m m3 m4 : Mem} {w : Value} {cells : List Value} (h : Lnd n0 N x ss m m3 w cells k) (hO : Old m3.next m3 m4) : Lnd n0 N x ss m m4 w cells k := by
  have := h.lo; have := h.le; have := h.nx
  refine ⟨h.old.trans (hO.le h.old.1), h.nx, by rw [hO.vw (by omega)]; exact h.stu, Nat.le_trans h.le hO.1, h.lo, ?_, h.blk, h.mine.keep hO.1 (fun y _ hy => hO.2 y hy)⟩
  rcases h.own with h1 | ⟨b, h1, h2, h3, h4⟩
  · exact .inl h1
  · exact .inr ⟨b, h1, h2, Nat.lt_of_lt_of_le h3 hO.1, by rw [hO.vw h3]; exact h4⟩
/-- a store into the row of the lent steps -/
theorem lnd_put {n0 N k k' i : Nat} {x : Stu} {ss : List Stp} {m m3 : Mem} {w : Value} {cells l : List Value} (h : Lnd n0 N x ss m m3 w cells k) (hb : i + l.length ≤ cells.length) (ho : l.all oneC = true) (hne : l ≠ [])
    (hM : Mine N m3 (spl cells i l) ss k') : ∃ b, w = .slice (some ⟨b, 0, none⟩) ss.length ss.length ∧ n0 ≤ b ∧ b < m3.next ∧ vw m3 b = some ⟨true, 36, true, cells⟩ ∧ Lnd n0 N x ss m (stM m3 b i l) w (spl cells i l) k' := by
  obtain ⟨b, h1, h2, h3, h4, h5⟩ := h.own.put hb ho hne
  have hbN : b < N := h.blk b (by rw [h1]; rfl)
  have := h.nx
  refine ⟨b, h1, h2, h3, h4, h.old.trans ((Old.refl _ _).st (by omega) _ _), h.nx, by rw [vw_stM_ne (by omega)]; exact h.stu, by rw [stM_next]; exact h.le, h.lo, h5, h.blk, hM.keep (by rw [stM_next]; exact Nat.le_refl _) (fun y hy _ => stM_get (by omega))⟩
theorem ex0 (a b : Value) : opExtract (.tuple ⟨[a, b]⟩) 0 = .r a := _root_.id rfl
theorem ex1 (a b : Value) : opExtract (.tuple ⟨[a, b]⟩) 1 = .r b := _root_.id rfl
theorem vEq_t2 (d : Nat) (a : ByteArray) (k : IntKind) (n : Int) : vEq (d + 2) (.tuple ⟨[.string a, .int k n]⟩) (.tuple ⟨[.string a, .int k n]⟩) = true := by
  simp [vEq, bytesEq_eq, intEq_eq, kEq_self]
set_option maxHeartbeats 1000000 in
theorem prints_ok {m : Mem} {v : Value} {x : Stu} {ss : List Stp} (hm : 8 ≤ m.next) (hp : PowAt m) (hx : x.R) (hs : StepsOld m.next m v ss) (hb : weights ss ≤ 400000000) :
    CallsA tb 3 [.agg ⟨stuCells x⟩, v] m (retR fun r m' => r = .bool true) := by
  have hwl := weights_len ss
  have hR : ∀ s ∈ ss, s.R := fun s h => by
    obtain ⟨k, hk⟩ := List.getElem?_of_mem h
    exact (hs.load (Nat.le_refl _) hk).choose_spec.choose_spec.choose_spec.2.1
  obtain ⟨av, cv, rfl⟩ := hs.shape
  refine callsS Tryz.func3 e3 rfl rfl ?_
  simp only [s3, List.replicate, List.length_cons, List.length_nil, List.cons_append, List.nil_append, Nat.reduceAdd, Nat.reduceSub]
  refine xseqP (PS := fun l' ds' m1 => ds' = [] ∧ Sl [.agg ⟨stuCells x⟩, .slice av ss.length cv, .pointer (some ⟨m.next, 0, none⟩), undef, .bool false] 130 l' ∧ vw m1 m.next = some ⟨true, 26, false, stuCells x⟩ ∧ m1.next = m.next + 1 ∧ Old m.next m m1) ?_ ?_
  · refine xregQ fun Q' hQ => ?_
    simp
    subst hQ
    exact ⟨rfl, rfl, Sl.mk rfl rfl, by simp [vw_new], by simp, (Old.refl _ _).new (Nat.le_refl _) _⟩
  rintro l ds m1 ⟨rfl, ⟨ts, hts, rfl⟩, hv1, hn1, hO1⟩
  refine xseqP (PS := fun l' ds' m2 => ds' = [] ∧ ∃ w cells, Lnd m1.next m2.next x ss m m2 w cells 0 ∧ Sl [.agg ⟨stuCells x⟩, .slice av ss.length cv, .pointer (some ⟨m.next, 0, none⟩), undef, .bool false, w] 129 l') ?_ ?_
  · refine xregQ fun Q' hQ => ?_
    obtain ⟨y5, ts', rfl, hts'⟩ := len_succ (n := 129) hts
    simp [hts']
    refine xcall (ov_none (by decide)) (copied_ok ((hs.old hO1).up hO1.1) (by omega)) ?_ (fun ch m' h => h.elim)
    rintro r m2 ⟨hO2, cells, hw, hcs⟩
    subst hQ
    refine ⟨rfl, rfl, r, cells, ⟨hO1.trans (hO2.le hO1.1), hn1, by rw [hO2.vw (by omega)]; exact hv1, Nat.le_refl _, hO2.1, hw, ?_, .of hcs⟩, Sl.mk rfl (by simp [hts'])⟩
    rcases hw with ⟨rfl, _⟩ | ⟨b, rfl, _, h, _⟩
    · intro b h; cases h
    · rintro b' h'; cases h'; exact h
  clear ts hts
  rintro l ds m2 ⟨rfl, w, cells0, hL0, ⟨ts, hts, rfl⟩⟩
  obtain ⟨aw, rfl⟩ := hL0.own.shape
  -- the first loop
  refine xseqP (PS := fun l' ds' m3 => ds' = [] ∧ ∃ cells, Lnd m1.next m2.next x ss m m3 (.slice aw ss.length ss.length) cells ss.length ∧ ∃ y, Sl [.agg ⟨stuCells x⟩, .slice av ss.length cv, .pointer (some ⟨m.next, 0, none⟩), undef, .bool false, .slice aw ss.length ss.length, y] 128 l') ?_ ?_
  · refine xseq (xregQ fun Q' hQ => ?_)
    simp [hts]
    subst hQ
    obtain ⟨y6, ts', rfl, hts'⟩ := len_succ (n := 128) hts
    refine xblock (xwhile (N := ss.length) (I := fun n l ds m3 => ∃ k cells, n = ss.length - k ∧ k ≤ ss.length ∧ ds = [] ∧ Lnd m1.next m2.next x ss m m3 (.slice aw ss.length ss.length) cells k ∧ Sl [.agg ⟨stuCells x⟩, .slice av ss.length cv, .pointer (some ⟨m.next, 0, none⟩), undef, .bool false, .slice aw ss.length ss.length, .int .i64 (k : Nat)] 128 l) ?_ ?_)
    · exact ⟨0, cells0, rfl, by omega, rfl, hL0, ts', hts', rfl⟩
    clear hts' ts' y6 hts
    rintro n l ds m3 ⟨k, cells, rfl, hk, rfl, hL, ⟨ts, hts, rfl⟩⟩
    refine xseq (xseq (xregQ fun Q' hQ => ?_))
    simp [hts]
    subst hQ
    refine xif (v := decide ((k : Int) < (ss.length : Int))) (by simp [hts]) (fun h => xskip ?_) (fun h => xexit ?_)
    · simp only [decide_eq_true_eq] at h
      have hk2 : k < ss.length := by omega
      have hks : ss[k]? = some ss[k] := List.getElem?_eq_getElem hk2
      generalize ss[k] = s at hks
      have hwt := weights_take ss hks
      have hcl : s.choices.length ≤ 5000000 := by unfold weight at hwt; omega
      have hdl : s.data.length ≤ 25000000 := by unfold weight at hwt; omega
      have hclen := hL.mine.1
      refine xseq (xblock (xseqP (PS := fun l' ds' m4 => ds' = [] ∧ ∃ d c cells, LentB m2.next m4 d s.data ∧ takeN cells (k * 17) 17 = stpCells s d c ∧ Lnd m1.next m2.next x ss m m4 (.slice aw ss.length ss.length) cells k ∧ Sl [.agg ⟨stuCells x⟩, .slice av ss.length cv, .pointer (some ⟨m.next, 0, none⟩), undef, .bool false, .slice aw ss.length ss.length, .int .i64 (k : Nat)] 128 l') ?_ ?_))
      · refine xregQ fun Q' hQ => ?_
        obtain ⟨b, o, c, h1, hRs, ad, dc, ac, cc, hld, hd, hc, hfl, _⟩ := (hs.old hL.old).flds hL.old.1 hks
        simp only [Value.slice.injEq] at h1
        obtain ⟨rfl, -, rfl⟩ := h1
        have hf5 := hfl (off := 5) (t := 29) rfl Ty.ti29 Ty.g29
        simp [hts, hk2, h, hf5]
        refine xcall (ov_none (by decide)) (lendBytes_ok (hd.at hL.old.1) (by omega)) ?_ (fun ch m' h => h.elim)
        rintro r m4 ⟨b4, rfl, hb4, hb4', hv4, hO4⟩
        have hL4 := lnd_call hL hO4
        have hLB : LentB m2.next m4 (.slice (some ⟨b4, 0, none⟩) s.data.length (s.data.length + 4)) s.data := ⟨b4, rfl, Nat.le_trans hL.le hb4, hb4', hv4⟩
        obtain ⟨c5, hM5, ht5, hc5⟩ := hL4.mine.data hks hLB
        obtain ⟨b1, e1, hb1, hb1', hvb, hL5⟩ := lnd_put hL4 (by simp; omega) rfl (by simp) hM5
        simp only [Value.slice.injEq] at e1
        obtain ⟨rfl, -⟩ := e1
        simp [hts, hk2, h, hvb]
        rw [if_pos (by omega)]
        simp [hts]
        subst hQ
        exact ⟨rfl, rfl, _, c5, _, hLB.keep (by rw [stM_next]; exact Nat.le_refl _) (fun y hy _ => stM_get (by have := hL.blk _ rfl; simp only [Option.some.injEq] at this; omega)), ht5, hL5, Sl.mk rfl (by simp [hts])⟩
      rintro l ds m4 ⟨rfl, d, c, cells4, hLB, ht4, hL4, ⟨ts, hts, rfl⟩⟩
      have hclen4 := hL4.mine.1
      refine xregQ fun Q' hQ => ?_
      obtain ⟨b, o, c2, h1, hRs, ad, dc, ac, cc, hld, hd, hc, hfl, _⟩ := (hs.old hL4.old).flds hL4.old.1 hks
      simp only [Value.slice.injEq] at h1
      obtain ⟨rfl, -, rfl⟩ := h1
      have hf14 := hfl (off := 14) (t := 34) rfl Ty.ti34 Ty.g34
      simp [hts, hk2, h, hf14]
      refine xcall (ov_none (by decide)) (lendInts_ok (hc.at hL4.old.1) (by omega)) ?_ (fun ch m' h => h.elim)
      rintro r m5 ⟨b4, rfl, hb4, hb4', hv4, hO4⟩
      have hL5 := lnd_call hL4 hO4
      have hLI : LentI m2.next m5 (.slice (some ⟨b4, 0, none⟩) s.choices.length (s.choices.length + 4)) s.choices := ⟨b4, rfl, Nat.le_trans hL4.le hb4, hb4', hv4⟩
      have hLB5 := hLB.keep hO4.1 (fun y _ hy => hO4.2 y hy)
      have hM5 := hL5.mine.chs hks ht4 hLB5 hLI
      obtain ⟨b1, e1, hb1, hb1', hvb, hL6⟩ := lnd_put hL5 (by simp; omega) rfl (by simp) hM5
      simp only [Value.slice.injEq] at e1
      obtain ⟨rfl, -⟩ := e1
      simp [hts, hk2, h, hvb]
      rw [if_pos (by omega)]
      simp [hts]
      subst hQ
      refine xregQ fun Q' hQ => ?_
      simp [hts]
      rw [wr64 _ (by omega) (by omega)]
      subst hQ
      exact ⟨ss.length - (k + 1), by omega, k + 1, _, rfl, by omega, rfl, hL6, Sl.mk rfl (by simp [hts])⟩
    · simp only [decide_eq_false_iff_not] at h
      obtain rfl : k = ss.length := by omega
      exact ⟨rfl, rfl, _, hL, _, Sl.mk rfl (by simp [hts])⟩
  clear ts hts
  rintro l ds m3 ⟨rfl, cells3, hL3, y6, ⟨ts, hts, rfl⟩⟩
  have hc3 := hL3.mine.1
  -- the second copy
  refine xseqP (PS := fun l' ds' m4 => ds' = [] ∧ ∃ w2 cells, Old m3.next m3 m4 ∧ Own m3.next m4 w2 36 ss.length cells ∧ StepCells cells ss ∧ Sl [.agg ⟨stuCells x⟩, .slice av ss.length cv, .pointer (some ⟨m.next, 0, none⟩), undef, .bool false, .slice aw ss.length ss.length, y6, w2] 127 l') ?_ ?_
  · refine xregQ fun Q' hQ => ?_
    obtain ⟨y7, ts', rfl, hts'⟩ := len_succ (n := 127) hts
    simp [hts']
    refine xcall (ov_none (by decide)) (copied_ok ((hs.old hL3.old).up hL3.old.1) (by omega)) ?_ (fun ch m' h => h.elim)
    rintro r m4 ⟨hO4, cells, hw, hcs⟩
    subst hQ
    exact ⟨rfl, rfl, r, cells, hO4, hw, hcs, Sl.mk rfl (by simp [hts'])⟩
  clear ts hts
  rintro l ds m4 ⟨rfl, w2, cells4, hO4, hw4, hcs4, ⟨ts, hts, rfl⟩⟩
  obtain ⟨aw2, rfl⟩ := hw4.shape
  -- the second loop
  refine xseqP (PS := fun l' ds' m5 => ds' = [] ∧ Old m3.next m3 m5 ∧ Own m3.next m5 (.slice aw2 ss.length ss.length) 36 ss.length cells3 ∧ ∃ y8, Sl [.agg ⟨stuCells x⟩, .slice av ss.length cv, .pointer (some ⟨m.next, 0, none⟩), undef, .bool false, .slice aw ss.length ss.length, y6, .slice aw2 ss.length ss.length, y8] 126 l') ?_ ?_
  · refine xseq (xregQ fun Q' hQ => ?_)
    simp [hts]
    subst hQ
    obtain ⟨y8, ts', rfl, hts'⟩ := len_succ (n := 126) hts
    refine xblock (xwhile (N := ss.length) (I := fun n l ds m5 => ∃ k cells, n = ss.length - k ∧ k ≤ ss.length ∧ ds = [] ∧ Old m3.next m3 m5 ∧ Own m3.next m5 (.slice aw2 ss.length ss.length) 36 ss.length cells ∧ Same cells cells3 ss k ∧ Sl [.agg ⟨stuCells x⟩, .slice av ss.length cv, .pointer (some ⟨m.next, 0, none⟩), undef, .bool false, .slice aw ss.length ss.length, y6, .slice aw2 ss.length ss.length, .int .i64 (k : Nat)] 126 l) ?_ ?_)
    · exact ⟨0, cells4, rfl, by omega, rfl, hO4, hw4, ⟨hcs4.1, fun _ _ _ h => by omega⟩, ts', hts', rfl⟩
    clear hts' ts' y8 hts
    rintro n l ds m5 ⟨k, cells, rfl, hk, rfl, hO5, hw5, hsm, ⟨ts, hts, rfl⟩⟩
    refine xseq (xseq (xregQ fun Q' hQ => ?_))
    simp [hts]
    subst hQ
    refine xif (v := decide ((k : Int) < (ss.length : Int))) (by simp [hts]) (fun h => xskip ?_) (fun h => xexit ?_)
    · simp only [decide_eq_true_eq] at h
      have hk2 : k < ss.length := by omega
      obtain ⟨d, c, hst, hd1, hc1, -⟩ := hL3.mine.2 k _ (List.getElem?_eq_getElem hk2)
      have hone : (takeN cells3 (k * 17) 17).all oneC = true := by rw [hst]; exact stp_one _ hd1 hc1
      have htl : (takeN cells3 (k * 17) 17).length = 17 := takeN_length (by omega)
      have hclen := hsm.1
      obtain ⟨b2, e2, hb2, hb2', hvb2, hw6⟩ := hw5.put (i := k * 17) (l := takeN cells3 (k * 17) 17) (by omega) hone (by intro e; rw [e] at htl; cases htl)
      simp only [Value.slice.injEq] at e2
      obtain ⟨rfl, -⟩ := e2
      obtain ⟨b1, e1, hb1, hb1', hvb1⟩ : ∃ b1, aw = some ⟨b1, 0, none⟩ ∧ m1.next ≤ b1 ∧ b1 < m3.next ∧ vw m5 b1 = some ⟨true, 36, true, cells3⟩ := by
        rcases hL3.own with ⟨_, h0, _⟩ | ⟨b1, h1, h2, h3, h4⟩
        · omega
        · simp only [Value.slice.injEq] at h1
          exact ⟨b1, h1.1, h2, h3, by rw [hO5.vw h3]; exact h4⟩
      subst e1
      have hsm' := hsm.step hc3 hk2 rfl
      refine xseq (xblock (xregQ fun Q' hQ => ?_))
      have hk17 : k * 17 + 17 ≤ cells3.length := by omega
      have hk18 : k * 17 + 17 ≤ cells.length := by omega
      generalize htk : takeN cells3 (k * 17) 17 = tk at *
      simp [hts, hk2, h, hvb1, hvb2, hk17, hk18, htk]
      rw [if_pos ⟨htl, by omega, fun y hy => List.all_eq_true.1 hone y hy⟩]
      simp [hts]
      subst hQ
      refine xregQ fun Q' hQ => ?_
      simp [hts]
      rw [wr64 _ (by omega) (by omega)]
      subst hQ
      exact ⟨ss.length - (k + 1), by omega, k + 1, _, rfl, by omega, rfl, hO5.trans ((Old.refl _ _).st (by omega) _ _), hw6, hsm', Sl.mk rfl (by simp [hts])⟩
    · simp only [decide_eq_false_iff_not] at h
      obtain rfl : k = ss.length := by omega
      obtain rfl := hsm.eq hc3
      exact ⟨rfl, rfl, hO5, hw5, _, Sl.mk rfl (by simp [hts])⟩
  clear ts hts
  rintro l ds m5 ⟨rfl, hO5, hw5, y8, ⟨ts, hts, rfl⟩⟩
  -- one step more
  refine xseqP (PS := fun l' ds' m6 => ds' = [] ∧ Old m3.next m3 m6 ∧ (∃ b8 rest, m5.next ≤ b8 ∧ b8 < m6.next ∧ vw m6 b8 = some ⟨true, 36, true, cells3 ++ .int .i64 77 :: rest⟩ ∧ rest.length = 16 ∧ Sl [.agg ⟨stuCells x⟩, .slice av ss.length cv, .pointer (some ⟨m.next, 0, none⟩), undef, .bool false, .slice aw ss.length ss.length, y6, .slice (some ⟨b8, 0, none⟩) (ss.length + 1) (ss.length + 1), y8] 126 l')) ?_ ?_
  · refine xregQ fun Q' hQ => ?_
    obtain ⟨w', m6, f1, f2, f3, f4, b8, rfl, f5⟩ := hw5.append (k := 0) (sz := 17) (new := [.int .i64 77, .int .i64 0, .int .i64 0, .int .u64 0, .int .u64 0, .slice none 0 0, .int .u64 0, .int .i64 0, .int .i64 0, .int .i64 0, .int .i64 0, .int .i64 0, .int .u32 0, .int .u64 0, .slice none 0 0, .int .i64 0, .int .u64 0]) ((Old.refl m5.next m5).new (Nat.le_refl _) (.row ⟨T.setL [.int .i64 77, .int .i64 0, .int .i64 0, .int .u64 0, .int .u64 0, .slice none 0 0, .int .u64 0, .int .i64 0, .int .i64 0, .int .i64 0, .int .i64 0, .int .i64 0, .int .u32 0, .int .u64 0, .slice none 0 0, .int .i64 0, .int .u64 0] 0 .lf, 17, [.int .i64 0, .int .i64 0, .int .i64 0, .int .u64 0, .int .u64 0, .slice none 0 0, .int .u64 0, .int .i64 0, .int .i64 0, .int .i64 0, .int .i64 0, .int .i64 0, .int .u32 0, .int .u64 0, .slice none 0 0, .int .i64 0, .int .u64 0], 36, .none, false⟩)) hO5.1 hc3 rfl rfl
    rcases f2 with ⟨f2, _⟩ | ⟨b8', e8, g1, g2, g3⟩
    · cases f2
    simp only [Value.slice.injEq, Option.some.injEq, Addr.mk.injEq, and_true] at e8
    obtain ⟨rfl, -⟩ := e8
    rw [next_newObjA] at f5
    simp [-at_W, hts, fits_true _ ss.length ss.length 1 168 (by omega), f1]
    subst hQ
    exact ⟨rfl, rfl, hO5.trans (((Old.refl _ _).new hO5.1 _).trans f4), b8, _, by omega, g2, g3, rfl, Sl.mk rfl (by simp [hts])⟩
  clear ts hts
  rintro l ds m6 ⟨rfl, hO6, b8, rest, hb8, hb8', hv8, hrest, ⟨ts, hts, rfl⟩⟩
  have hn1' := hL3.lo
  have hn2' := hL3.le
  have hst6 : vw m6 m.next = some ⟨true, 26, false, stuCells x⟩ := by rw [hO6.vw (by omega)]; exact hL3.stu
  have hM6 := hL3.mine.keep hO6.1 (fun y _ hy => hO6.2 y hy)
  have hS6 : ∀ {m7 : Mem}, Old m6.next m6 m7 → StepsOld m7.next m7 (.slice (some ⟨b8, 0, none⟩) ss.length (ss.length + 1)) ss := fun k7 =>
    (StepsOld.of hM6 hv8 hb8' (Nat.le_refl _) (by omega) hR).old k7 |>.up k7.1
  have hO06 : Old m.next m m6 := hL3.old.trans (hO6.le hL3.old.1)
  have hSv : ∀ {m7 : Mem}, Old m6.next m6 m7 → StepsOld m7.next m7 (.slice av ss.length cv) ss := fun k7 => ((hs.old hO06).up hO06.1).old k7 |>.up k7.1
  have hlt6 : m.next < m6.next := by have := hO6.1; omega
  have hpos0 : 0 < m.next := by omega
  have hpos6 : 0 < m6.next := by have := hO06.1; omega
  have hP6 : ∀ {m7 : Mem}, Old m6.next m6 m7 → PowAt m7 := fun k7 => PowAt.old (PowAt.old hp hO06 hpos0) k7 hpos6
  have hst7 : ∀ {m7 : Mem}, Old m6.next m6 m7 → vw m7 m.next = some ⟨true, 26, false, stuCells x⟩ := fun k7 => by rw [k7.vw hlt6]; exact hst6
  have hv7 : ∀ {m7 : Mem}, Old m6.next m6 m7 → vw m7 b8 = some ⟨true, 36, true, cells3 ++ .int .i64 77 :: rest⟩ := fun k7 => by rw [k7.vw hb8']; exact hv8
  have hm6 : 8 ≤ m6.next := by have := hO06.1; omega
  -- Print
  refine xseqP (PS := fun l' ds' m7 => ds' = [] ∧ Old m6.next m6 m7 ∧ Sl [.agg ⟨stuCells x⟩, .slice av ss.length cv, .pointer (some ⟨m.next, 0, none⟩), undef, .bool false, .slice aw ss.length ss.length, y6, .slice (some ⟨b8, 0, none⟩) (ss.length + 1) (ss.length + 1), y8, .string ⟨⟨(printOut x ss).1⟩⟩, .int .i64 (printOut x ss).2] 124 l') ?_ ?_
  · refine xdrw 4 fun Q' hQ => ?_
    obtain ⟨y9, ts1, rfl, hts1⟩ := len_succ (n := 125) hts
    obtain ⟨y10, ts2, rfl, hts2⟩ := len_succ (n := 124) hts1
    have hstl : (stuCells x).length = 9 := rfl
    have ht9 : takeN (stuCells x) 0 9 = stuCells x := rfl
    simp [hts2, hst6, hv8, hstl, ht9]
    refine xcall (ov_none (by decide)) (print_ok hm6 (hP6 (.refl _ _)) hx (hS6 (.refl _ _)) (by omega)) ?_ (fun ch m' h => h.elim)
    rintro r m7 ⟨rfl, hO7⟩
    simp [ex0, ex1, hts2, vEq_t2 98]
    subst hQ
    exact ⟨rfl, rfl, hO7, Sl.mk rfl (by simp [hts2])⟩
  clear ts hts
  rintro l ds m7 ⟨rfl, hO7, ⟨ts, hts, rfl⟩⟩
  -- the reference's Print
  refine xseqP (PS := fun l' ds' m8 => ds' = [] ∧ Old m6.next m6 m8 ∧ Sl [.agg ⟨stuCells x⟩, .slice av ss.length cv, .pointer (some ⟨m.next, 0, none⟩), undef, .bool false, .slice aw ss.length ss.length, y6, .slice (some ⟨b8, 0, none⟩) (ss.length + 1) (ss.length + 1), y8, .string ⟨⟨(printOut x ss).1⟩⟩, .int .i64 (printOut x ss).2, .string ⟨⟨(printOut x ss).1⟩⟩, .int .i64 (printOut x ss).2] 122 l') ?_ ?_
  · refine xregQ fun Q' hQ => ?_
    obtain ⟨y9, ts1, rfl, hts1⟩ := len_succ (n := 123) hts
    obtain ⟨y10, ts2, rfl, hts2⟩ := len_succ (n := 122) hts1
    have hstl : (stuCells x).length = 9 := rfl
    have ht9 : takeN (stuCells x) 0 9 = stuCells x := rfl
    have hst7' := hst7 hO7
    simp [hts2, hst7', hstl, ht9]
    refine xcall (ov_none (by decide)) (rprint_ok (Nat.le_trans hm6 hO7.1) (hP6 hO7) hx (hSv hO7) (by omega)) ?_ (fun ch m' h => h.elim)
    rintro r m8 ⟨rfl, hO8⟩
    simp [hts2, ex0, ex1]
    subst hQ
    exact ⟨rfl, rfl, hO7.trans (hO8.le hO7.1), Sl.mk rfl (by simp [hts2])⟩
  clear ts hts
  rintro l ds m8 ⟨rfl, hO8, ⟨ts, hts, rfl⟩⟩
  -- the two are alike, and the steps are as they were
  refine xseqP (PS := fun l' ds' m9 => ds' = [] ∧ Old m6.next m6 m9 ∧ Sl [.agg ⟨stuCells x⟩, .slice av ss.length cv, .pointer (some ⟨m.next, 0, none⟩), undef, .bool false, .slice aw ss.length ss.length, y6, .slice (some ⟨b8, 0, none⟩) (ss.length + 1) (ss.length + 1), y8, .string ⟨⟨(printOut x ss).1⟩⟩, .int .i64 (printOut x ss).2, .string ⟨⟨(printOut x ss).1⟩⟩, .int .i64 (printOut x ss).2] 122 l') ?_ ?_
  · refine xseq (xregQ fun Q' hQ => ?_)
    simp [hts]
    refine xcall (ov_none (by decide)) (num_ok _ _) ?_ (fun ch m' h => h.elim)
    rintro r m8' ⟨rfl, rfl⟩
    have hv8' := hv7 hO8
    simp [hts, hv8']
    refine xcall (ov_none (by decide)) (sameSteps_ok (hS6 hO8) (hSv hO8) (by omega)) ?_ (fun ch m' h => h.elim)
    rintro r m9 ⟨rfl, hO9⟩
    have hO9' := hO8.trans (hO9.le hO8.1)
    have hv9 := hv7 hO9'
    have q77 : (cells3 ++ .int .i64 77 :: rest)[ss.length * 17]? = some (.int .i64 77) := by
      rw [List.getElem?_append_right (by omega), hc3, Nat.sub_self]; rfl
    have hlt : (ss.length : Int) < (ss.length : Int) + 1 := by omega
    generalize cells3 ++ .int .i64 77 :: rest = c8 at hv9 q77
    simp [hts, hv9, q77, hlt]
    subst hQ
    refine xif (v := false) (by simp [hts]) (fun h => by cases h) (fun _ => xskip ?_)
    exact ⟨rfl, rfl, hO9', Sl.mk rfl (by simp [hts])⟩
  clear ts hts
  rintro l ds m9 ⟨rfl, hO9, ⟨ts, hts, rfl⟩⟩
  -- what was lent is as it was
  have hv9 := hv7 hO9
  refine xseqP (PS := fun l' ds' m' => ds' = [] ∧ m' = m9 ∧ ∃ y13, Sl [.agg ⟨stuCells x⟩, .slice av ss.length cv, .pointer (some ⟨m.next, 0, none⟩), undef, .bool false, .slice aw ss.length ss.length, y6, .slice (some ⟨b8, 0, none⟩) (ss.length + 1) (ss.length + 1), y8, .string ⟨⟨(printOut x ss).1⟩⟩, .int .i64 (printOut x ss).2, .string ⟨⟨(printOut x ss).1⟩⟩, .int .i64 (printOut x ss).2, y13] 121 l') ?_ ?_
  · refine xseq (xregQ fun Q' hQ => ?_)
    simp [hts]
    subst hQ
    obtain ⟨y13, ts', rfl, hts'⟩ := len_succ (n := 121) hts
    refine xblock (xwhile (N := ss.length) (I := fun n l ds m' => ∃ k, n = ss.length - k ∧ k ≤ ss.length ∧ ds = [] ∧ m' = m9 ∧ Sl [.agg ⟨stuCells x⟩, .slice av ss.length cv, .pointer (some ⟨m.next, 0, none⟩), undef, .bool false, .slice aw ss.length ss.length, y6, .slice (some ⟨b8, 0, none⟩) (ss.length + 1) (ss.length + 1), y8, .string ⟨⟨(printOut x ss).1⟩⟩, .int .i64 (printOut x ss).2, .string ⟨⟨(printOut x ss).1⟩⟩, .int .i64 (printOut x ss).2, .int .i64 (k : Nat)] 121 l) ?_ ?_)
    · exact ⟨0, rfl, by omega, rfl, rfl, ts', hts', rfl⟩
    clear hts' hts ts' y13
    rintro n l ds m10 ⟨k, rfl, hk, rfl, rfl, ⟨ts, hts, rfl⟩⟩
    refine xseq (xseq (xregQ fun Q' hQ => ?_))
    simp [hts]
    subst hQ
    refine xif (v := decide ((k : Int) < (ss.length : Int))) (by simp [hts]) (fun h => xskip ?_) (fun h => xexit ?_)
    · simp only [decide_eq_true_eq] at h
      have hk2 : k < ss.length := by omega
      have hks : ss[k]? = some ss[k] := List.getElem?_eq_getElem hk2
      generalize ss[k] = s at hks
      have hwt := weights_take ss hks
      have hcl : s.choices.length ≤ 5000000 := by unfold weight at hwt; omega
      have hdl : s.data.length ≤ 25000000 := by unfold weight at hwt; omega
      obtain ⟨d, c, hst, -, -, hlent⟩ := hM6.2 k s hks
      obtain ⟨⟨bd, rfl, hbd, hbd', hvd⟩, ⟨bc, rfl, hbc, hbc', hvc⟩⟩ := hlent hk2
      have hvd9 : vw m10 bd = _ := (hO9.vw hbd').trans hvd
      have hvc9 : vw m10 bc = _ := (hO9.vw hbc').trans hvc
      obtain ⟨b, o, c1, h1, hRs, ad, dc, ac, cc, hld, hd, hc, hfl, _⟩ := (hSv hO9).flds (Nat.le_refl _) hks
      simp only [Value.slice.injEq] at h1
      obtain ⟨rfl, -, rfl⟩ := h1
      have hf5 := hfl (off := 5) (t := 29) rfl Ty.ti29 Ty.g29
      have hf14 := hfl (off := 14) (t := 34) rfl Ty.ti34 Ty.g34
      have q5 : (cells3 ++ .int .i64 77 :: rest)[k * 17 + 5]? = some (.slice (some ⟨bd, 0, none⟩) s.data.length (s.data.length + 4)) := by
        rw [List.getElem?_append_left (by omega), ← takeN_get (n := 17) (by omega), hst]; rfl
      have q14 : (cells3 ++ .int .i64 77 :: rest)[k * 17 + 14]? = some (.slice (some ⟨bc, 0, none⟩) s.choices.length (s.choices.length + 4)) := by
        rw [List.getElem?_append_left (by omega), ← takeN_get (n := 17) (by omega), hst]; rfl
      generalize cells3 ++ .int .i64 77 :: rest = c8 at hv9 q5 q14
      have hk3 : (k : Int) < (ss.length : Int) + 1 := by omega
      have hk4 : k < ss.length + 1 := by omega
      refine xseq (xblock (xseq (xdrw 4 fun Q' hQ => ?_)))
      simp [hts, hv9, q5, q14, hf5, hf14, hk2, hk3, hk4, h]
      refine xcall (ov_none (by decide)) (keptBytes_ok (e := true) (x := true) (SlOld.at hd (Nat.le_refl _)) (by omega) rfl hvd9) ?_ (fun ch m' h => h.elim)
      rintro r m11 ⟨rfl, rfl⟩
      simp [hts, hv9, q5, q14, hf5, hf14, hk2, hk3, hk4, h]
      refine xcall (ov_none (by decide)) (keptInts_ok (e := true) (x := true) (SlOld.at hc (Nat.le_refl _)) (by omega) rfl hvc9) ?_ (fun ch m' h => h.elim)
      rintro r m12 ⟨rfl, rfl⟩
      simp [hts, hf5, hf14, hv9, q5, q14, hk2, hk3, hk4, h]
      subst hQ
      refine xif (v := false) (by simp [hts]) (fun h => by cases h) (fun _ => xskip ?_)
      refine xregQ fun Q' hQ => ?_
      simp [hts]
      rw [wr64 _ (by omega) (by omega)]
      subst hQ
      exact ⟨ss.length - (k + 1), by omega, k + 1, rfl, by omega, rfl, rfl, Sl.mk rfl (by simp [hts])⟩
    · exact ⟨rfl, rfl, rfl, _, Sl.mk rfl (by simp [hts])⟩
  rintro l ds m10 ⟨rfl, rfl, y13, ⟨ts, hts, rfl⟩⟩
  refine xseq (xregQ fun Q' hQ => ?_)
  simp [hts]
  subst hQ
  refine xret ?_
  exact ⟨rfl, _, resX_one _, by simp [hts]⟩
end Go.Proofs.YtgmkbdmgifdfeaaGreatDoor
