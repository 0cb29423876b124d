/- What the reading of the arguments gives. -/
import Derived.Test.YtgmkbdmgifdfeaaGreatDoorSp5
import Derived.Deep.Slices
import Derived.ChangeArms
import Derived.DataReads
import Derived.OpenShut
import Derived.Test.YtgmkbdmgifdfeaaGreatDoorRows
set_option linter.unusedSimpArgs false
set_option linter.unusedVariables false
set_option maxRecDepth 4000
namespace Go.Proofs.YtgmkbdmgifdfeaaGreatDoor
open Go Go.Ev Go.Deep
/-- a value, as the abstract memory has it -/
def absC (N : Nat) : Value → Option Value
  | .int k n => some (.int k n)
  | .slice none l c => some (.slice none l c)
  | .slice (some a) l c => if l = 0 ∧ c = 0 then some (.slice (some ⟨0, 0, none⟩) 0 0) else if a.spot = none ∧ a.block < N then some (.slice (some a) l c) else none
  | _ => none
theorem globs_at {N b : Nat} (h : b < N) : Env.globs N b = some ⟨b, 0, 0⟩ := by unfold Env.globs; rw [if_pos h]
theorem absC_vr {N : Nat} (hN : 0 < N) {v v' : Value} (h : absC N v = some v') : VR (Env.globs N) v' v := by
  unfold absC at h
  split at h
  · cases h; exact .int _ _
  · cases h; exact .slNil _ _
  · rename_i a l c
    split at h
    · rename_i h0
      obtain ⟨rfl, rfl⟩ := h0
      cases h
      exact .slD _ (globs_at hN)
    · split at h
      · rename_i h1
        obtain ⟨b, o, s⟩ := a
        obtain ⟨h1, h2⟩ := h1
        simp only at h1 h2; subst h1
        cases h
        have := VR.sl (E := Env.globs N) (o := o) l c (globs_at h2)
        simpa using this
      · cases h
  · cases h
noncomputable def absT (N : Nat) : List Value → Nat → T Value
  | [], _ => .lf
  | v :: l, i => match absC N v with | some v' => T.set (absT N l (i + 1)) i v' | none => absT N l (i + 1)
theorem absT_lt (N : Nat) : ∀ (l : List Value) (i j : Nat), j < i → (absT N l i).get j = none
  | [], i, j, h => rfl
  | v :: l, i, j, h => by
    unfold absT
    split
    · rw [T.get_set, if_neg (by omega)]; exact absT_lt N l (i + 1) j (by omega)
    · exact absT_lt N l (i + 1) j (by omega)
theorem absT_get (N : Nat) : ∀ (l : List Value) (i j : Nat), i ≤ j → (absT N l i).get j = (l[j - i]?).bind (absC N)
  | [], i, j, h => rfl
  | v :: l, i, j, h => by
    unfold absT
    by_cases e : j = i
    · subst e
      simp only [Nat.sub_self, List.getElem?_cons_zero, Option.bind_some]
      split
      · rename_i v' hv; rw [T.get_set, if_pos rfl, hv]
      · rename_i hv; rw [absT_lt N l (j + 1) j (by omega), hv]
    · have e2 : j - i = (j - (i + 1)) + 1 := by omega
      rw [e2, List.getElem?_cons_succ]
      split
      · rw [T.get_set, if_neg e]; exact absT_get N l (i + 1) j (by omega)
      · exact absT_get N l (i + 1) j (by omega)
noncomputable def absRow (N : Nat) (c : Array Value) (t : TypeId) (fr : Nat × Nat) : Row := ⟨absT N c.toList 0, c.size, [], t, if fr.1 = fr.2 then .none else .rng fr.1 fr.2, false⟩
theorem absRow_cell (N : Nat) (c : Array Value) (t : TypeId) (fr : Nat × Nat) (j : Nat) : cellAt (absRow N c t fr) j = (c[j]?).bind (absC N) := by
  unfold cellAt absRow
  simp only
  cases hb : Nat.blt j c.size with
  | false =>
    have : ¬ j < c.size := by rw [← Nat.blt_eq, hb]; simp
    rw [Array.getElem?_eq_none (by omega)]; rfl
  | true =>
    have : j < c.size := by rw [← Nat.blt_eq, hb]
    simp only [absT_get N c.toList 0 j (Nat.zero_le _), Nat.sub_zero, Array.getElem?_toList]
    cases h : (c[j]?).bind (absC N) <;> simp
noncomputable def absO (N : Nat) : List Obj → Nat → T AObj
  | [], _ => .lf
  | .cells c t fr :: l, i => T.set (absO N l (i + 1)) i (.glob (absRow N c t fr))
  | _ :: l, i => absO N l (i + 1)
theorem absO_lt (N : Nat) : ∀ (l : List Obj) (i j : Nat), j < i → (absO N l i).get j = none
  | [], i, j, h => rfl
  | o :: l, i, j, h => by
    cases o <;> unfold absO <;> first | (rw [T.get_set, if_neg (by omega)]; exact absO_lt N l (i + 1) j (by omega)) | exact absO_lt N l (i + 1) j (by omega)
noncomputable def rowOfObj (N : Nat) : Obj → Option AObj
  | .cells c t fr => some (.glob (absRow N c t fr))
  | _ => none
theorem absO_get (N : Nat) : ∀ (l : List Obj) (i j : Nat), i ≤ j → (absO N l i).get j = (l[j - i]?).bind (rowOfObj N)
  | [], i, j, h => rfl
  | o :: l, i, j, h => by
    by_cases e : j = i
    · subst e
      simp only [Nat.sub_self, List.getElem?_cons_zero, Option.bind_some]
      cases o <;> unfold absO rowOfObj <;> first | (rw [T.get_set, if_pos rfl]) | exact absO_lt N l (j + 1) j (by omega)
    · have e2 : j - i = (j - (i + 1)) + 1 := by omega
      rw [e2, List.getElem?_cons_succ, ← absO_get N l (i + 1) j (by omega)]
      cases o <;> simp only [absO] <;> rw [T.get_set, if_neg e]
noncomputable def absM (W : World) : Mem := ⟨absO W.heap.size W.heap.toList 0, W.heap.size⟩
theorem absM_get (W : World) (b : Nat) : (absM W).objs.get b = (W.heap[b]?).bind (rowOfObj W.heap.size) := by
  show (absO W.heap.size W.heap.toList 0).get b = _
  rw [absO_get _ _ 0 b (Nat.zero_le _), Nat.sub_zero, Array.getElem?_toList]
theorem absM_some {W : World} {b : Nat} {o : AObj} (h : (absM W).objs.get b = some o) : ∃ c t fr, W.heap[b]? = some (.cells c t fr) ∧ o = .glob (absRow W.heap.size c t fr) := by
  rw [absM_get] at h
  obtain ⟨ob, h1, h2⟩ := Option.bind_eq_some_iff.1 h
  cases ob with
  | cells c t fr => simp only [rowOfObj, Option.some.injEq] at h2; exact ⟨_, _, _, h1, h2.symm⟩
  | _ => cases h2
/-- any world is met by its abstract memory -/
theorem absM_met (W : World) (h0 : 0 < W.heap.size) : MR Tryz.prog W.heap.size W (Env.globs W.heap.size) (absM W) W := by
  have hE : ∀ {b i}, Env.globs W.heap.size b = some i → b < W.heap.size ∧ i = ⟨b, 0, 0⟩ := by
    intro b i h
    unfold Env.globs at h
    split at h
    · rename_i hb; simp only [Option.some.injEq] at h; exact ⟨hb, h.symm⟩
    · simp at h
  refine ⟨fun b i o hb ho _ => ?_, fun b i hb => ?_, fun b hb => ?_, fun b b' i i' o o' hne hb hb' ho ho' _ _ => ?_, fun b i o hb ho hown => ?_, .refl _ _, Nat.le_refl _⟩
  · obtain ⟨c, t, fr, h1, rfl⟩ := absM_some ho
    obtain ⟨_, rfl⟩ := hE hb
    refine ⟨_, h1, .glob ⟨rfl, fun j v hv => ?_, ?_, fun _ => ⟨rfl, rfl⟩, ?_⟩ rfl⟩
    · rw [absRow_cell] at hv
      obtain ⟨u, k1, k2⟩ := Option.bind_eq_some_iff.1 hv
      exact ⟨u, by simpa using k1, absC_vr h0 k2⟩
    · simp [absRow]
    · show FzR (if fr.1 = fr.2 then Fz.none else Fz.rng fr.1 fr.2) 0 c.size fr
      by_cases e : fr.1 = fr.2
      · rw [if_pos e]; exact e
      · rw [if_neg e]; show fr = (0 + fr.1, 0 + fr.2); simp
  · exact (hE hb).2 ▸ (hE hb).1
  · refine ⟨?_, by unfold Env.globs; rw [if_neg (by exact Nat.not_lt.2 hb)]⟩
    have hb' : W.heap.size ≤ b := hb
    rw [absM_get, Array.getElem?_eq_none hb']; rfl
  · obtain ⟨_, rfl⟩ := hE hb
    obtain ⟨_, rfl⟩ := hE hb'
    exact hne
  · obtain ⟨_, _, _, _, rfl⟩ := absM_some ho
    simp [AObj.own] at hown
/-- a cell that is read, in the abstract memory -/
theorem absM_cell {W : World} {b j : Nat} {v v' : Value} (h : W.cell? ⟨b, j, none⟩ = some v) (hv : absC W.heap.size v = some v') : ∃ c t fr, W.heap[b]? = some (.cells c t fr) ∧ rowOf (absM W) b = some (absRow W.heap.size c t fr) ∧ cellAt (absRow W.heap.size c t fr) j = some v' := by
  unfold World.cell? at h
  split at h
  · rename_i c t fr hb
    simp only [Option.isSome_none, Bool.false_eq_true, if_false] at h
    refine ⟨c, t, fr, hb, ?_, ?_⟩
    · unfold rowOf; rw [absM_get, hb]; rfl
    · rw [absRow_cell, h]; exact hv
  · cases h
theorem absM_rd {W : World} {b o : Nat} {l : List Value} (hl : l ≠ []) (h : ∀ i v', l[i]? = some v' → ∃ v, W.cell? ⟨b, o + i, none⟩ = some v ∧ absC W.heap.size v = some v') : rd (absM W) b o l.length = some l ∧ b < W.heap.size := by
  cases l with
  | nil => exact absurd rfl hl
  | cons x l =>
    obtain ⟨v, h1, h2⟩ := h 0 x rfl
    obtain ⟨c, t, fr, g1, g2, g3⟩ := absM_cell h1 h2
    refine ⟨rd_of g2 fun k v' hk => ?_, (Array.getElem?_eq_some_iff.1 g1).1⟩
    obtain ⟨u, h3, h4⟩ := h k v' hk
    obtain ⟨c', t', fr', k1, k2, k3⟩ := absM_cell h3 h4
    rw [g1] at k1; cases k1
    exact k3
end Go.Proofs.YtgmkbdmgifdfeaaGreatDoor
set_option maxRecDepth 8000
namespace Go.Proofs.YtgmkbdmgifdfeaaGreatDoor
open Go Go.Ev Go.Deep
section
variable {H : Type}
theorem bulk_one (d : DataW H) : 1 ≤ Rows.uptoBulk d := by
  cases d with
  | lit l => cases l <;> simp [Rows.uptoBulk]
  | nil => simp [Rows.uptoBulk]
  | ptr d => simp [Rows.uptoBulk]
  | slice elems spare => simp [Rows.uptoBulk]
  | agg parts => simp [Rows.uptoBulk]
  | iface t d => simp [Rows.uptoBulk]
  | map entries => simp [Rows.uptoBulk]
  | held h => simp [Rows.uptoBulk]
theorem bulk_app (l r : List (DataW H)) : Rows.uptoBulkAll (l ++ r) = Rows.uptoBulkAll l + Rows.uptoBulkAll r := by
  induction l with
  | nil => simp [Rows.uptoBulkAll]
  | cons x l ih => simp only [List.cons_append, Rows.uptoBulkAll, ih]; omega
theorem bulk_len (l : List (DataW H)) : l.length ≤ Rows.uptoBulkAll l := by
  induction l with
  | nil => simp
  | cons x r ih => have := bulk_one x; simp only [Rows.uptoBulkAll, List.length_cons]; omega
end
theorem add_pl (b o i : Nat) : (⟨b, o, none⟩ : Addr).add i = ⟨b, o + i, none⟩ := by
  unfold Addr.add
  split
  · rename_i h; subst h; rfl
  · rfl
def intOf : Value → Int
  | .int _ n => n
  | _ => 0
theorem spot_none {W : World} {a : Addr} {v : Value} (h : W.cell? a = some v) : a.spot = none ∧ a.block < W.heap.size := by
  obtain ⟨b, o, s⟩ := a
  unfold World.cell? at h
  split at h
  · rename_i c t fr hb
    simp only at hb h
    refine ⟨?_, (Array.getElem?_eq_some_iff.1 hb).1⟩
    cases s with
    | none => rfl
    | some s => simp at h
  · cases h
section
variable {H : Type} {enc : TypeId × Value → H} {W : World} {held : Bool}
theorem read_ints {t e : TypeId} {k : IntKind} {fuel : Nat} {v : Value} {x : DataW H × List MemPlace} (ht : Tryz.prog.underlying t = some (.slice e)) (he : Tryz.prog.underlying e = some (.int k)) (hc : Tryz.prog.cellsOf e = 1)
    (h : DataW.trod enc Tryz.prog W 0 (fun _ => true) held fuel t [v] = some x) :
    ∃ (zs : List Int) (v' : Value), absC W.heap.size v = some v' ∧ (∀ z ∈ zs, (Lit.int k z).wf = true) ∧ SlOld W.heap.size (absM W) v' zs.length (zs.map (Value.int k ·)) ∧ zs.length + 1 ≤ Rows.uptoBulk x.1 := by
  rcases open_slice1 ht hc h with ⟨e1, rfl⟩ | ⟨a, len, cap, m, n, V, D, Pl, e1, hb, hl, hm, hmm, rfl, hx⟩
  · cases e1
    exact ⟨[], _, rfl, by simp, .inl ⟨rfl, rfl, rfl⟩, by simp [Rows.uptoBulk]⟩
  · cases e1
    simp only [if_true] at hmm
    subst hmm
    have hV : ∀ i, i < m → W.cell? (a.add i) = some (.int k (intOf (V i))) ∧ (Lit.int k (intOf (V i))).wf = true := by
      intro i hi
      obtain ⟨h1, h2⟩ := hx i hi
      obtain ⟨z, h3, _, h4⟩ := DataW.trod_int he h2
      simp only [List.cons.injEq, and_true] at h3
      rw [h3] at h1
      rw [h3]
      exact ⟨h1, h4⟩
    by_cases h0 : m = 0
    · subst h0
      obtain rfl : len = 0 := by omega
      refine ⟨[], .slice (some ⟨0, 0, none⟩) 0 0, by unfold absC; simp, by simp, .inr ⟨0, 0, 0, rfl, Nat.le_refl _, .inl rfl⟩, ?_⟩
      simp [Rows.uptoBulk]
    · have hs := spot_none (hV 0 (by omega)).1
      obtain ⟨b, o, s⟩ := a
      have hsb : s = none ∧ b < W.heap.size := by
        simpa [Addr.add] using hs
      obtain ⟨rfl, hb2⟩ := hsb
      refine ⟨(List.range len).map fun i => intOf (V i), .slice (some ⟨b, o, none⟩) len m, ?_, ?_, ?_, ?_⟩
      · unfold absC; simp [h0, hb2]
      · intro z hz
        obtain ⟨i, hi, rfl⟩ := List.mem_map.1 hz
        exact (hV i (by have := List.mem_range.1 hi; omega)).2
      · simp only [List.length_map, List.length_range]
        by_cases h1 : len = 0
        · subst h1
          exact .inr ⟨b, o, m, rfl, by omega, .inl rfl⟩
        · refine .inr ⟨b, o, m, rfl, hl, .inr ?_⟩
          refine absM_rd (by simp; omega) fun i v' hi => ?_
          have hlt := (List.getElem?_eq_some_iff.1 hi).1
          simp only [List.length_map, List.length_range] at hlt
          have := (hV i (by omega)).1
          rw [add_pl] at this
          refine ⟨_, this, ?_⟩
          simp [hlt] at hi
          rw [← hi]; rfl
      · have h1 := bulk_len ((List.range len).map D)
        simp only [List.length_map, List.length_range] at h1
        simp only [Rows.uptoBulk, List.length_map, List.length_range]
        omega
theorem u8_map : ∀ {zs : List Int}, (∀ z ∈ zs, (Lit.int .u8 z).wf = true) → ∃ bs : List UInt8, bs.length = zs.length ∧ u8s bs = zs.map (Value.int .u8 ·)
  | [], _ => ⟨[], rfl, rfl⟩
  | z :: zs, h => by
    obtain ⟨bs, h1, h2⟩ := u8_map (zs := zs) fun y hy => h y (List.mem_cons_of_mem _ hy)
    have hz : 0 ≤ z ∧ z ≤ 255 := by simpa [Lit.wf, IntKind.min, IntKind.max, IntKind.signed, IntKind.bits] using h z (List.mem_cons_self ..)
    refine ⟨UInt8.ofNat z.toNat :: bs, by simp [h1], ?_⟩
    rw [u8s_map] at h2 ⊢
    simp only [List.map_cons, h2, List.cons.injEq, and_true]
    congr 1
    rw [UInt8.toNat_ofNat', Nat.mod_eq_of_lt (by omega)]
    omega
theorem wf64 {z : Int} (h : (Lit.int .i64 z).wf = true) : i64R z := by simpa [Lit.wf, IntKind.min, IntKind.max, IntKind.signed, IntKind.bits, i64R] using h
theorem wfu64 {z : Int} (h : (Lit.int .u64 z).wf = true) : u64R z := by simpa [Lit.wf, IntKind.min, IntKind.max, IntKind.signed, IntKind.bits, u64R] using h
theorem wfu32 {z : Int} (h : (Lit.int .u32 z).wf = true) : u32R z := by simpa [Lit.wf, IntKind.min, IntKind.max, IntKind.signed, IntKind.bits, u32R] using h
theorem int_cell {t : TypeId} {k : IntKind} {n : Nat} {c : Value} {x : DataW H × List MemPlace} (ht : Tryz.prog.underlying t = some (.int k)) (h : DataW.trod enc Tryz.prog W 0 (fun _ => true) held n t [c] = some x) : ∃ z, c = .int k z ∧ (Lit.int k z).wf = true := by
  obtain ⟨z, h1, _, h2⟩ := DataW.trod_int ht h
  simp only [List.cons.injEq, and_true] at h1
  exact ⟨z, h1, h2⟩
theorem cl3 : Tryz.prog.cellsOf 3 = 1 := by kernel_rfl
theorem cl5 : Tryz.prog.cellsOf 5 = 1 := by kernel_rfl
theorem cl22 : Tryz.prog.cellsOf 22 = 1 := by kernel_rfl
theorem cl29 : Tryz.prog.cellsOf 29 = 1 := by kernel_rfl
theorem cl32 : Tryz.prog.cellsOf 32 = 2 := by kernel_rfl
theorem cl33 : Tryz.prog.cellsOf 33 = 1 := by kernel_rfl
theorem cl34 : Tryz.prog.cellsOf 34 = 1 := by kernel_rfl
theorem cl36 : Tryz.prog.cellsOf 36 = 17 := by kernel_rfl
theorem cl26 : Tryz.prog.cellsOf 26 = 9 := by kernel_rfl
theorem cl24 : Tryz.prog.cellsOf 24 = 6 := by kernel_rfl
theorem read_step {fuel : Nat} {cs : List Value} {x : DataW H × List MemPlace} (h : DataW.trod enc Tryz.prog W 0 (fun _ => true) held fuel 36 cs = some x) :
    ∃ s d c d' c', s.R ∧ cs = stpCells s d c ∧ absC W.heap.size d = some d' ∧ absC W.heap.size c = some c' ∧ SlOld W.heap.size (absM W) d' s.data.length (u8s s.data) ∧ SlOld W.heap.size (absM W) c' s.choices.length (i64s s.choices) ∧
      s.data.length + s.choices.length + 16 ≤ Rows.uptoBulk x.1 := by
  obtain ⟨xs, n, rfl, rfl, hcl, hxl, hf⟩ := DataW.trod_struct Tryz.underlying36 h
  rw [cl36] at hcl
  match cs, hcl with
  | [c0, c1, c2, c3, c4, c5, c6, c7, c8, c9, c10, c11, c12, c13, c14, c15, c16], _ =>
  match xs, hxl with
  | [x0, x1, x2, x3, x4, x5, x6, x7, x8, x9, x10, x11, x12, x13, x14, x15], _ =>
  have h0 := hf 0 _ rfl
  have h1 := hf 1 _ rfl
  have h2 := hf 2 _ rfl
  have h3 := hf 3 _ rfl
  have h4 := hf 4 _ rfl
  have h5 := hf 5 _ rfl
  have h6 := hf 6 _ rfl
  have h7 := hf 7 _ rfl
  have h8 := hf 8 _ rfl
  have h9 := hf 9 _ rfl
  have h10 := hf 10 _ rfl
  have h11 := hf 11 _ rfl
  have h12 := hf 12 _ rfl
  have h13 := hf 13 _ rfl
  have h14 := hf 14 _ rfl
  have h15 := hf 15 _ rfl
  clear hf h
  simp only [cl3, cl22, cl29, cl32, cl33, cl34, List.drop_succ_cons, List.drop_zero, List.take_succ_cons, List.take_zero, List.getElem?_cons_succ, List.getElem?_cons_zero] at h0 h1 h2 h3 h4 h5 h6 h7 h8 h9 h10 h11 h12 h13 h14 h15
  obtain ⟨kind, rfl, w0⟩ := int_cell Tryz.underlying3 h0
  obtain ⟨node, rfl, w1⟩ := int_cell Tryz.underlying3 h1
  obtain ⟨stream, rfl, w2⟩ := int_cell Tryz.underlying3 h2
  obtain ⟨time, rfl, w3⟩ := int_cell Tryz.underlying22 h3
  obtain ⟨life, rfl, w4⟩ := int_cell Tryz.underlying22 h4
  obtain ⟨zs, d', hd, wd, sd, bd⟩ := read_ints Tryz.underlying29 Tryz.underlying5 cl5 h5
  obtain ⟨bs, hbl, hbs⟩ := u8_map wd
  obtain ⟨seq, rfl, w6⟩ := int_cell Tryz.underlying22 h6
  obtain ⟨ys, n2, _, _, _, hyl, hq⟩ := DataW.trod_struct Tryz.underlying32 h7
  match ys, hyl with
  | [y0, y1], _ =>
  have q0 := hq 0 _ rfl
  have q1 := hq 1 _ rfl
  simp only [cl3, List.drop_succ_cons, List.drop_zero, List.take_succ_cons, List.take_zero, List.getElem?_cons_succ, List.getElem?_cons_zero] at q0 q1
  obtain ⟨qc, rfl, wq0⟩ := int_cell Tryz.underlying3 q0
  obtain ⟨qb, rfl, wq1⟩ := int_cell Tryz.underlying3 q1
  obtain ⟨way, rfl, w8⟩ := int_cell Tryz.underlying3 h8
  obtain ⟨place, rfl, w9⟩ := int_cell Tryz.underlying3 h9
  obtain ⟨pos, rfl, w10⟩ := int_cell Tryz.underlying3 h10
  obtain ⟨mask, rfl, w11⟩ := int_cell Tryz.underlying33 h11
  obtain ⟨ticks, rfl, w12⟩ := int_cell Tryz.underlying22 h12
  obtain ⟨ch, c', hc, wc, sc, bc⟩ := read_ints Tryz.underlying34 Tryz.underlying3 cl3 h13
  obtain ⟨cursor, rfl, w14⟩ := int_cell Tryz.underlying3 h14
  obtain ⟨to, rfl, w15⟩ := int_cell Tryz.underlying22 h15
  refine ⟨⟨kind, node, stream, time, life, bs, seq, qc, qb, way, place, pos, mask, ticks, ch, cursor, to⟩, c5, c14, d', c',
    ⟨wf64 w0, wf64 w1, wf64 w2, wfu64 w3, wfu64 w4, wfu64 w6, wf64 wq0, wf64 wq1, wf64 w8, wf64 w9, wf64 w10, wfu32 w11, wfu64 w12, fun z hz => wf64 (wc z hz), wf64 w14, wfu64 w15⟩, rfl, hd, hc, ?_, sc, ?_⟩
  · show SlOld W.heap.size (absM W) d' bs.length (u8s bs)
    rw [hbl, hbs]; exact sd
  · have b0 := bulk_one x0.1
    have b1 := bulk_one x1.1
    have b2 := bulk_one x2.1
    have b3 := bulk_one x3.1
    have b4 := bulk_one x4.1
    have b6 := bulk_one x6.1
    have b7 := bulk_one x7.1
    have b8 := bulk_one x8.1
    have b9 := bulk_one x9.1
    have b10 := bulk_one x10.1
    have b11 := bulk_one x11.1
    have b12 := bulk_one x12.1
    have b14 := bulk_one x14.1
    have b15 := bulk_one x15.1
    simp only [Rows.uptoBulk, Rows.uptoBulkAll, List.map_cons, List.map_nil]
    omega
end
end Go.Proofs.YtgmkbdmgifdfeaaGreatDoor
set_option maxRecDepth 8000
namespace Go.Proofs.YtgmkbdmgifdfeaaGreatDoor
open Go Go.Ev Go.Deep
def stp0 : Stp := ⟨0, 0, 0, 0, 0, [], 0, 0, 0, 0, 0, 0, 0, 0, [], 0, 0⟩
instance : Inhabited Stp := ⟨stp0⟩
section
variable {H : Type} {enc : TypeId × Value → H} {W : World} {held : Bool}
theorem absC_stp {N : Nat} {s : Stp} {d c d' c' : Value} (hd : absC N d = some d') (hc : absC N c = some c') {r : Nat} {v' : Value} (h : (stpCells s d' c')[r]? = some v') : ∃ v, (stpCells s d c)[r]? = some v ∧ absC N v = some v' := by
  have hr : r < 17 := (List.getElem?_eq_some_iff.1 h).1
  match r, hr with
  | 0, _ => cases h; exact ⟨_, rfl, rfl⟩
  | 1, _ => cases h; exact ⟨_, rfl, rfl⟩
  | 2, _ => cases h; exact ⟨_, rfl, rfl⟩
  | 3, _ => cases h; exact ⟨_, rfl, rfl⟩
  | 4, _ => cases h; exact ⟨_, rfl, rfl⟩
  | 5, _ => cases h; exact ⟨_, rfl, hd⟩
  | 6, _ => cases h; exact ⟨_, rfl, rfl⟩
  | 7, _ => cases h; exact ⟨_, rfl, rfl⟩
  | 8, _ => cases h; exact ⟨_, rfl, rfl⟩
  | 9, _ => cases h; exact ⟨_, rfl, rfl⟩
  | 10, _ => cases h; exact ⟨_, rfl, rfl⟩
  | 11, _ => cases h; exact ⟨_, rfl, rfl⟩
  | 12, _ => cases h; exact ⟨_, rfl, rfl⟩
  | 13, _ => cases h; exact ⟨_, rfl, rfl⟩
  | 14, _ => cases h; exact ⟨_, rfl, hc⟩
  | 15, _ => cases h; exact ⟨_, rfl, rfl⟩
  | 16, _ => cases h; exact ⟨_, rfl, rfl⟩
theorem flat17_length {f : Nat → List Value} (hf : ∀ i, (f i).length = 17) : ∀ n, ((List.range n).flatMap f).length = n * 17
  | 0 => rfl
  | n + 1 => by rw [List.range_succ, List.flatMap_append, List.length_append, flat17_length hf n]; simp [hf]; omega
theorem flat17_get {f : Nat → List Value} (hf : ∀ i, (f i).length = 17) : ∀ n k r, k < n → r < 17 → ((List.range n).flatMap f)[k * 17 + r]? = (f k)[r]?
  | 0, k, r, h, _ => by omega
  | n + 1, k, r, h, hr => by
    rw [List.range_succ, List.flatMap_append]
    by_cases e : k < n
    · rw [List.getElem?_append_left (by rw [flat17_length hf]; omega)]; exact flat17_get hf n k r e hr
    · obtain rfl : k = n := by omega
      rw [List.getElem?_append_right (by rw [flat17_length hf]; omega), flat17_length hf]
      simp
theorem weights_app (a b : List Stp) : weights (a ++ b) = weights a + weights b := by simp [weights]
/-- the steps, read -/
theorem read_steps {fuel : Nat} {v : Value} {x : DataW H × List MemPlace} (h : DataW.trod enc Tryz.prog W 0 (fun _ => true) held fuel 27 [v] = some x) :
    ∃ ss v', absC W.heap.size v = some v' ∧ StepsOld W.heap.size (absM W) v' ss ∧ weights ss ≤ 100 * Rows.uptoBulk x.1 := by
  rcases open_slice Tryz.underlying27 h with ⟨e1, rfl⟩ | ⟨a, len, cap, m, n, D, Pl, e1, hb, hl, hm, hmm, rfl, hx⟩
  · cases e1
    exact ⟨[], _, rfl, ⟨[], .inl ⟨rfl, rfl, rfl⟩, rfl, by simp⟩, by simp [weights]⟩
  · cases e1
    simp only [if_true] at hmm
    subst hmm
    rw [cl36] at hx
    obtain ⟨F, hF⟩ := choose_lt (α := Stp × (Value × Value) × (Value × Value)) (n := m) (p := fun i q => q.1.R ∧ W.cells? 0 (a.add (i * 17)) 17 = some (stpCells q.1 q.2.1.1 q.2.1.2) ∧ absC W.heap.size q.2.1.1 = some q.2.2.1 ∧ absC W.heap.size q.2.1.2 = some q.2.2.2 ∧
        SlOld W.heap.size (absM W) q.2.2.1 q.1.data.length (u8s q.1.data) ∧ SlOld W.heap.size (absM W) q.2.2.2 q.1.choices.length (i64s q.1.choices) ∧ q.1.data.length + q.1.choices.length + 16 ≤ Rows.uptoBulk (D i)) (fun i hi => by
      obtain ⟨cs', h1, h2⟩ := hx i hi
      obtain ⟨s, d, c, d', c', k1, rfl, k3, k4, k5, k6, k7⟩ := read_step h2
      exact ⟨⟨s, (d, c), (d', c')⟩, k1, h1, k3, k4, k5, k6, k7⟩)
    have hw : ∀ k, k ≤ m → weights ((List.range k).map fun i => (F i).1) ≤ 100 * Rows.uptoBulkAll ((List.range k).map D) := by
      intro k
      induction k with
      | zero => intro _; simp [weights]
      | succ k ih =>
        intro hk
        have h1 := ih (by omega)
        have h2 := (hF k (by omega)).2.2.2.2.2.2
        rw [List.range_succ, List.map_append, weights_app, List.map_append, bulk_app]
        simp only [List.map_cons, List.map_nil, Rows.uptoBulkAll]
        have h3 : weights [(F k).1] = weight (F k).1 := by simp [weights]
        rw [h3]
        unfold weight
        omega
    have hw2 := hw len hl
    by_cases h0 : m = 0
    · subst h0
      obtain rfl : len = 0 := by omega
      refine ⟨[], .slice (some ⟨0, 0, none⟩) 0 0, by unfold absC; simp, ⟨[], .inr ⟨0, 0, 0, rfl, Nat.le_refl _, .inl rfl⟩, rfl, by simp⟩, by simp [weights]⟩
    · obtain ⟨_, k0, _⟩ := hF 0 (by omega)
      obtain ⟨_, _, g0⟩ := World.cells?_some k0
      have g1 := g0 0 (by omega)
      have hs := spot_none (g1.trans rfl)
      obtain ⟨b, o, s⟩ := a
      have hsb : s = none ∧ b < W.heap.size := by
        simpa [Addr.add] using hs
      obtain ⟨rfl, hb2⟩ := hsb
      have hlen : ∀ i, (stpCells (F i).1 (F i).2.2.1 (F i).2.2.2).length = 17 := fun i => rfl
      refine ⟨(List.range len).map fun i => (F i).1, .slice (some ⟨b, o, none⟩) len m, ?_, ⟨(List.range len).flatMap fun i => stpCells (F i).1 (F i).2.2.1 (F i).2.2.2, ?_, ?_, ?_⟩, ?_⟩
      · unfold absC; simp [h0, hb2]
      · simp only [List.length_map, List.length_range]
        by_cases h1 : len = 0
        · subst h1
          exact .inr ⟨b, o, m, rfl, by omega, .inl rfl⟩
        · refine .inr ⟨b, o, m, rfl, hl, .inr ?_⟩
          have hL := flat17_length hlen len
          refine absM_rd (by intro e; rw [e] at hL; simp at hL; omega) fun j v' hj => ?_
          have hlt := (List.getElem?_eq_some_iff.1 hj).1
          rw [hL] at hlt
          have hk : j / 17 < len := by omega
          have hjr : j = j / 17 * 17 + j % 17 := by omega
          rw [hjr, flat17_get hlen len (j / 17) (j % 17) hk (by omega)] at hj
          obtain ⟨_, k2, k3, k4, _⟩ := hF (j / 17) (by omega)
          obtain ⟨u, p1, p2⟩ := absC_stp (d := (F (j / 17)).2.1.1) (c := (F (j / 17)).2.1.2) k3 k4 hj
          obtain ⟨_, _, g2⟩ := World.cells?_some k2
          have g3 := g2 (j % 17) (by omega)
          rw [p1, add_pl, add_pl] at g3
          refine ⟨u, ?_, p2⟩
          rw [← g3]
          congr 2
          omega
      · simp [flat17_length hlen len]
      · intro k t hk
        have hlt := (List.getElem?_eq_some_iff.1 hk).1
        simp only [List.length_map, List.length_range] at hlt
        simp only [List.getElem?_map, List.getElem?_range hlt, Option.map_some, Option.some.injEq] at hk
        subst hk
        obtain ⟨k1, k2, k3, k4, k5, k6, _⟩ := hF k (by omega)
        refine ⟨k1, _, _, ?_, k5, k6⟩
        have hL := flat17_length hlen len
        apply List.ext_getElem?
        intro r
        by_cases hr : r < 17
        · rw [takeN_get hr, flat17_get hlen len k r hlt hr]
        · rw [List.getElem?_eq_none (by rw [takeN_length (by omega)]; omega), List.getElem?_eq_none (by rw [stp_len]; omega)]
      · refine Nat.le_trans hw2 (Nat.mul_le_mul_left _ ?_)
        simp only [Rows.uptoBulk]
        omega
/-- the setup, read -/
theorem read_stu {fuel : Nat} {cs : List Value} {x : DataW H × List MemPlace} (h : DataW.trod enc Tryz.prog W 0 (fun _ => true) held fuel 26 cs = some x) : ∃ y : Stu, y.R ∧ cs = stuCells y := by
  obtain ⟨xs, n, rfl, rfl, hcl, hxl, hf⟩ := DataW.trod_struct Tryz.underlying26 h
  rw [cl26] at hcl
  match cs, hcl with
  | [c0, c1, c2, c3, c4, c5, c6, c7, c8], _ =>
  match xs, hxl with
  | [x0, x1, x2, x3], _ =>
  have h0 := hf 0 _ rfl
  have h1 := hf 1 _ rfl
  have h2 := hf 2 _ rfl
  have h3 := hf 3 _ rfl
  clear hf h
  simp only [cl3, cl22, cl24, List.drop_succ_cons, List.drop_zero, List.take_succ_cons, List.take_zero, List.getElem?_cons_succ, List.getElem?_cons_zero] at h0 h1 h2 h3
  obtain ⟨ys, n2, _, _, _, hyl, hq⟩ := DataW.trod_struct Tryz.underlying24 h0
  match ys, hyl with
  | [y0, y1, y2, y3, y4, y5], _ =>
  have q0 := hq 0 _ rfl
  have q1 := hq 1 _ rfl
  have q2 := hq 2 _ rfl
  have q3 := hq 3 _ rfl
  have q4 := hq 4 _ rfl
  have q5 := hq 5 _ rfl
  simp only [cl3, cl22, List.drop_succ_cons, List.drop_zero, List.take_succ_cons, List.take_zero, List.getElem?_cons_succ, List.getElem?_cons_zero] at q0 q1 q2 q3 q4 q5
  obtain ⟨mtu, rfl, w0⟩ := int_cell Tryz.underlying3 q0
  obtain ⟨ack, rfl, w1⟩ := int_cell Tryz.underlying22 q1
  obtain ⟨retry, rfl, w2⟩ := int_cell Tryz.underlying22 q2
  obtain ⟨retries, rfl, w3⟩ := int_cell Tryz.underlying3 q3
  obtain ⟨window, rfl, w4⟩ := int_cell Tryz.underlying3 q4
  obtain ⟨inbox, rfl, w5⟩ := int_cell Tryz.underlying3 q5
  obtain ⟨sectors, rfl, w6⟩ := int_cell Tryz.underlying3 h1
  obtain ⟨room, rfl, w7⟩ := int_cell Tryz.underlying3 h2
  obtain ⟨start, rfl, w8⟩ := int_cell Tryz.underlying22 h3
  exact ⟨⟨mtu, ack, retry, retries, window, inbox, sectors, room, start⟩, ⟨wf64 w0, wfu64 w1, wfu64 w2, wf64 w3, wf64 w4, wf64 w5, wf64 w6, wf64 w7, wfu64 w8⟩, rfl⟩
end
end Go.Proofs.YtgmkbdmgifdfeaaGreatDoor
