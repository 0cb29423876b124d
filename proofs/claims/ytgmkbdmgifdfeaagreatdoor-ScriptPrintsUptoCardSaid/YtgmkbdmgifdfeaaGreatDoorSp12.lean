/- The machine with its overrides is met by the model. -/
import Derived.Test.YtgmkbdmgifdfeaaGreatDoorSp0
import Derived.Test.YtgmkbdmgifdfeaaGreatDoorSp1
import Derived.Test.YtgmkbdmgifdfeaaGreatDoorSp2
set_option linter.unusedSimpArgs false
set_option linter.unusedVariables false
namespace Go.Proofs.YtgmkbdmgifdfeaaGreatDoor
open Go Go.Ev Go.RowKit
theorem mr_below {P : Program} {N : Nat} {w0 w w' : World} {E : Env} {m : Mem} (HM : MR P N w0 E m w) (hb : Below w.heap.size w w') : MR P N w0 E m w' :=
  ⟨fun b i o hb1 ho hl => by rw [hb.block _ (HM.ub b i hb1)]; exact HM.objs b i o hb1 ho hl, fun b i h => Nat.lt_of_lt_of_le (HM.ub b i h) hb.size, HM.dom, HM.inj, HM.own, HM.base.trans (hb.mono HM.size), Nat.le_trans HM.size hb.size⟩
theorem pow_gName : Tryz.prog.globalNamed "internal/strconv.uint64pow10" = some 0 := by kernel_rfl
theorem tab_of {N : Nat} {w0 w : World} {E : Env} {m : Mem} (HM : MR Tryz.prog N w0 E m w) (HG : GlobE 8 E) (hp : PowAt m) : Lib.TabIs Tryz.prog w "internal/strconv.uint64pow10" .u64 Lib.pow10Tab := by
  obtain ⟨_, e, hv⟩ := hp
  obtain ⟨r, h1, h2, h3, h4, h5, h6, _⟩ := vw_spec hv
  have hE := HG 0 (by omega)
  have hrow : ∃ cells elem fr, w.heap[0]? = some (.cells cells elem fr) ∧ RowR (Tryz.prog.cellsOf r.elem) E r ⟨0, 0, 0⟩ cells elem fr := by
    rcases rowOf_some h1 with ho | ho
    · obtain ⟨ob, g1, g2⟩ := HM.objs 0 _ _ hE ho rfl
      cases g2 with
      | row h => exact ⟨_, _, _, g1, h⟩
    · obtain ⟨ob, g1, g2⟩ := HM.objs 0 _ _ hE ho rfl
      cases g2 with
      | glob h hx => exact ⟨_, _, _, g1, h⟩
  obtain ⟨cells, elem, fr, g1, g2⟩ := hrow
  have hsz : cells.size = 20 := by
    rw [g2.size, h2]; simp [pow10Cells]
  have hc : cells = (Lib.pow10Tab.map fun z => Value.int .u64 z).toArray := by
    apply Array.ext'
    apply List.ext_getElem?
    intro j
    by_cases hj : j < 20
    · have hcell := h6 j
      have hl : j < pow10Cells.length := by simpa [pow10Cells] using hj
      rw [List.getElem?_eq_getElem hl] at hcell
      obtain ⟨v', k1, k2⟩ := g2.cell j _ hcell
      simp only [Nat.zero_add] at k1
      have k3 : pow10Cells[j] = .int .u64 ((10 ^ j : Nat) : Int) := by simp [pow10Cells]
      rw [k3] at k2
      cases k2
      rw [Array.getElem?_toList, k1]
      simp [Lib.pow10Tab, hj]
    · rw [List.getElem?_eq_none (by simp [hsz]; omega), List.getElem?_eq_none (by simp [Lib.pow10Tab]; omega)]
  unfold Lib.TabIs World.var?
  rw [pow_gName, Option.bind_some, g1, hc]
theorem arr_eq (l : List UInt8) : (⟨l.toArray⟩ : ByteArray) = ⟨⟨l⟩⟩ := rfl
theorem ov_cases {f : Nat} {g : List Value → Mem → Option (Value × Mem)} (h : ovs.get f = some g) : (f = 31 ∧ g = itoaOv) ∨ (f = 48 ∧ g = fmtOv) ∨ (f = 30 ∧ g = closedOv formsV formsRows) ∨ (f = 67 ∧ g = closedOv rrowsV rrowsRows) := by
  rw [ovs, T.get_set] at h
  split at h
  · cases h; exact .inr (.inr (.inr ⟨‹_›, rfl⟩))
  rw [T.get_set] at h
  split at h
  · cases h; exact .inr (.inr (.inl ⟨‹_›, rfl⟩))
  rw [T.get_set] at h
  split at h
  · cases h; exact .inr (.inl ⟨‹_›, rfl⟩)
  rw [T.get_set] at h
  split at h
  · cases h; exact .inl ⟨‹_›, rfl⟩
  rw [T.get_lf] at h; cases h
theorem closedOv_some {V : Value} {rows : List CRow} {args : List Value} {m m' : Mem} {v : Value} (h : closedOv V rows args m = some (v, m')) : args = [] ∧ 8 ≤ m.next ∧ v = renV 8 m.next V ∧ m' = layRows m (rows.map (CRow.ren 8 m.next)) := by
  unfold closedOv at h
  split at h
  · split at h
    · rename_i hb
      simp only [Option.some.injEq, Prod.mk.injEq] at h
      exact ⟨rfl, by simpa using hb, h.1.symm, h.2.symm⟩
    · cases h
  · cases h
theorem itoaOv_some {args : List Value} {m m' : Mem} {v : Value} (h : itoaOv args m = some (v, m')) : ∃ n, args = [.int .i64 n] ∧ (-9223372036854775808 ≤ n ∧ n ≤ 9223372036854775807 ∧ PowAt m) ∧ v = .string ⟨⟨Lib.itoa n⟩⟩ ∧ m' = m := by
  unfold itoaOv at h
  split at h
  · split at h
    · simp only [Option.some.injEq, Prod.mk.injEq] at h
      exact ⟨_, rfl, ‹_›, h.1.symm, h.2.symm⟩
    · cases h
  · cases h
theorem fmtOv_some {args : List Value} {m m' : Mem} {v : Value} (h : fmtOv args m = some (v, m')) : ∃ n z, args = [.int .u64 n, .int .i64 z] ∧ (0 ≤ n ∧ n ≤ 18446744073709551615 ∧ z = 10 ∧ PowAt m) ∧ v = .string ⟨⟨Lib.decDigits n.toNat⟩⟩ ∧ m' = m := by
  unfold fmtOv at h
  split at h
  · split at h
    · simp only [Option.some.injEq, Prod.mk.injEq] at h
      exact ⟨_, _, rfl, ‹_›, h.1.symm, h.2.symm⟩
    · cases h
  · cases h
theorem pkTb (N : Nat) (w0 : World) : ProgOk tb N 8 w0 := by
  have pk : ∀ N' w0', ProgOk (mkTabs Tryz.prog 8 .lf) N' 8 w0' := fun N' w0' => progOk_of good
  refine progOk_ov (pk N w0) fun f g hg => ?_
  rcases ov_cases hg with ⟨rfl, rfl⟩ | ⟨rfl, rfl⟩ | ⟨rfl, rfl⟩ | ⟨rfl, rfl⟩
  · refine ⟨⟨_, _, Tryz.func31, rfl⟩, fun args m v m' hr E args' w HM HG ha => ?_⟩
    obtain ⟨n, rfl, hc, rfl, rfl⟩ := itoaOv_some hr
    cases ha with
    | cons h1 t =>
      cases t; cases h1
      refine (Tryz.strconv_Itoa n hc.1 hc.2.1 w (tab_of HM HG hc.2.2)).mono ?_
      rintro e w' ⟨rfl, k, os, rfl⟩
      exact ⟨_, E, rfl, .string _, mr_below HM (Lib.below_grow _ w (Nat.le_refl _) k os), .refl _ _ _⟩
  · refine ⟨⟨_, _, Tryz.func48, rfl⟩, fun args m v m' hr E args' w HM HG ha => ?_⟩
    obtain ⟨n, z, rfl, ⟨h0, h1, rfl, h3⟩, rfl, rfl⟩ := fmtOv_some hr
    obtain ⟨u, rfl⟩ : ∃ u : Nat, n = u := ⟨n.toNat, by omega⟩
    cases ha with
    | cons h1' t =>
      cases h1'
      cases t with
      | cons h2' t =>
        cases h2'; cases t
        refine (Tryz.formatUint48 u (by omega) w (tab_of HM HG h3)).mono ?_
        rintro e w' ⟨rfl, k, os, rfl⟩
        exact ⟨_, E, rfl, .string _, mr_below HM (Lib.below_grow _ w (Nat.le_refl _) k os), .refl _ _ _⟩
  · refine ⟨⟨_, _, Tryz.func30, rfl⟩, fun args m v m' hr E args' w HM HG ha => ?_⟩
    obtain ⟨rfl, hn, rfl, rfl⟩ := closedOv_some hr
    cases ha
    exact closed_calls pk forms_ran HM HG hn
  · refine ⟨⟨_, _, Tryz.func67, rfl⟩, fun args m v m' hr E args' w HM HG ha => ?_⟩
    obtain ⟨rfl, hn, rfl, rfl⟩ := closedOv_some hr
    cases ha
    exact closed_calls pk rrows_ran HM HG hn
#print axioms pkTb
end Go.Proofs.YtgmkbdmgifdfeaaGreatDoor
