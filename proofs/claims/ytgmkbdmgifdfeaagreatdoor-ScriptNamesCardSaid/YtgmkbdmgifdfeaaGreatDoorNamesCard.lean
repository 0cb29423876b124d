/- 'halyardlaw21.ScriptNames' returns true: a closed call. The row lists seven variables of Go's library; the card ties them to the text. -/
import Derived.Test.YtgmkbdmgifdfeaaGreatDoorNamesTrue
import Derived.Test.YtgmkbdmgifdfeaaGreatDoorRows
import Derived.Test.YtgmkbdmgifdfeaaGreatDoorCards
import Derived.Test.YtgmkbdmgifdfeaaGreatDoorTie
import Derived.ProofKit
import Derived.OpenShut
import Derived.LaidMore
import Derived.Lay
import Derived.SevenTiedAt
import Derived.Stop.Joined
import Derived.Lib.LaidTab
namespace Go.Proofs.YtgmkbdmgifdfeaaGreatDoor
open Go Go.Ev Go.ChangeShapes Go.WideShapes Go.ChangeAt Go.RowKit

/-- a listed variable: how it reads, and its block, that no string shares -/
theorem laidVars_row {P : Program} {w : World} : ∀ {l : List (String × DataW Unit)} {ps : List MemPlace}, DataW.LaidVars P w l ps → ∀ n d, (n, d) ∈ l →
    ∃ g t cs fuel p, P.globalNamed n = some g ∧ (P.globals[g]?).map (·.type) = some t ∧ w.var? P n = some cs ∧ DataW.trod (fun _ => ()) P w 0 (fun _ => true) false fuel t cs.toList = some (d, p) ∧ ∀ x ∈ MemPlace.row ⟨g, 0, none⟩ cs.size, x ∈ ps
  | [], _, _, _, _, hm => by cases hm
  | (n', d') :: r, ps, h, n, d, hm => by
    obtain ⟨g, t, cs, fuel, p, q, h1, h2, h3, h4, h5, h6⟩ := h
    rcases List.mem_cons.1 hm with e | e
    · cases e
      exact ⟨g, t, cs, fuel, p, h1, h2, h3, h4, fun x hx => by rw [h6]; simp [hx]⟩
    · obtain ⟨g', t', cs', fuel', p', k1, k2, k3, k4, k5⟩ := laidVars_row h5 n d e
      exact ⟨g', t', cs', fuel', p', k1, k2, k3, k4, fun x hx => by rw [h6]; simp [k5 x hx]⟩
theorem laid_row {P : Program} {w : World} {l : List (String × DataW Unit)} (h : laidMet P l w) {n : String} {d : DataW Unit} (hm : (n, d) ∈ l) {g0 : Nat} (hg : P.globalNamed n = some g0) :
    ∃ t cs fuel p, (P.globals[g0]?).map (·.type) = some t ∧ w.var? P n = some cs ∧ DataW.trod (fun _ => ()) P w 0 (fun _ => true) false fuel t cs.toList = some (d, p) ∧ (0 < cs.size → ∃ t', w.heap[g0]? = some (.cells cs t' (0, 0))) := by
  obtain ⟨ps, hv, hn, hr⟩ := h
  obtain ⟨g, t, cs, fuel, p, k1, k2, k3, k4, k5⟩ := laidVars_row hv n d hm
  obtain rfl := Option.some.inj (hg.symm.trans k1)
  refine ⟨t, cs, fuel, p, k2, k3, k4, fun hpos => ?_⟩
  obtain ⟨⟨c, t', hc⟩, _⟩ := hr g0 0 (k5 _ (MemPlace.mem_row.2 ⟨0, hpos, by simp⟩))
  have := k3
  simp only [World.var?, hg, Option.bind_some, hc, Option.some.injEq] at this
  subst this
  exact ⟨t', hc⟩

theorem pow10_data : (Rows.laid_internal_strconv_uint64pow10 : DataW Unit) = Lib.tabData .u64 ((List.range 20).map fun i => ((10 ^ i : Nat) : Int)) := by kernel_rfl
theorem und177 : Tryz.prog.underlying 177 = some (.array 20 22) := by kernel_rfl
theorem und22 : Tryz.prog.underlying 22 = some (.int .u64) := by kernel_rfl
theorem cells22 : Tryz.prog.cellsOf 22 = 1 := by kernel_rfl
theorem cells177 : Tryz.prog.cellsOf 177 = 20 := by kernel_rfl
theorem gPow10 : Tryz.prog.globalNamed "internal/strconv.uint64pow10" = some 0 := by kernel_rfl
theorem tPow10 : (Tryz.prog.globals[0]?).map (·.type) = some 177 := by kernel_rfl
theorem gErrRange : Tryz.prog.globalNamed "strconv.ErrRange" = some 7 := by kernel_rfl
/-- what the condition gives the run -/
theorem of_laid {laid : List (String × DataW Unit)} {W : World} (h : laidMet Tryz.prog laid W) (h1 : ("internal/strconv.uint64pow10", Rows.laid_internal_strconv_uint64pow10) ∈ laid) (h2 : ("strconv.ErrRange", Rows.laid_strconv_ErrRange) ∈ laid) :
    8 ≤ W.heap.size ∧ ∃ t, W.heap[0]? = some (.cells ⟨pow10Cells⟩ t (0, 0)) := by
  constructor
  · obtain ⟨t, cs, fuel, p, _, hv, _⟩ := laid_row h h2 gErrRange
    simp only [World.var?, gErrRange, Option.bind_some] at hv
    split at hv <;> first | (simp at hv; done) | skip
    rename_i hb
    have := (Array.getElem?_eq_some_iff.1 hb).1
    omega
  · obtain ⟨t, cs, fuel, p, ht, hv, hd, hr⟩ := laid_row h h1 gPow10
    obtain rfl := Option.some.inj (tPow10.symm.trans ht)
    rw [pow10_data] at hd
    have hc := Lib.cells_of_tab und177 und22 cells22 cells177 hd
    have hc2 : cs = ⟨pow10Cells⟩ := by
      apply Array.ext'
      rw [hc, List.map_map]
      rfl
    subst hc2
    exact hr (by simp [pow10Cells])
theorem mem0_get (t b : Nat) : (mem0 t).objs.get b = if b = 0 then some (.glob (pow10Row t)) else none := by
  unfold mem0
  rw [T.get_set, T.get_lf]
theorem cellAt_pow10 {t j : Nat} {v : Value} (h : cellAt (pow10Row t) j = some v) : pow10Cells[j]? = some v ∧ VR (Env.globs 8) v v := by
  have hj : j < 20 := cellAt_lt h
  simp only [cellAt, pow10Row, T.get_ofList] at h
  have hl : j < pow10Cells.length := by simpa [pow10Cells] using hj
  rw [List.getElem?_eq_getElem hl] at h
  split at h
  · simp only [Option.some.injEq] at h; subst h
    refine ⟨List.getElem?_eq_getElem hl, ?_⟩
    simp only [pow10Cells, List.getElem_map]
    exact .int _ _
  · simp at h
/-- the run's first memory is met by the world -/
theorem mem0_met {W : World} {t : Nat} (h8 : 8 ≤ W.heap.size) (h0 : W.heap[0]? = some (.cells ⟨pow10Cells⟩ t (0, 0))) : MR tb.p W.heap.size W (Env.globs 8) (mem0 t) W := by
  have hE : ∀ {b i}, Env.globs 8 b = some i → b < 8 ∧ i = ⟨b, 0, 0⟩ := by
    intro b i h
    unfold Env.globs at h
    split at h
    · rename_i hb; simp only [Option.some.injEq] at h; exact ⟨hb, h.symm⟩
    · simp at h
  have hO : ∀ {b o}, (mem0 t).objs.get b = some o → b = 0 ∧ o = .glob (pow10Row t) := by
    intro b o h
    rw [mem0_get] at h
    split at h
    · rename_i hb; simp only [Option.some.injEq] at h; exact ⟨hb, h.symm⟩
    · simp at h
  refine ⟨fun b i o hb ho _ => ?_, fun b i hb => ?_, fun b hb => ?_, fun b b' i i' o o' hne hb hb' ho ho' _ _ => ?_, fun b i o hb ho hown => ?_, .refl _ _, Nat.le_refl _⟩
  · obtain ⟨rfl, rfl⟩ := hO ho
    obtain ⟨_, rfl⟩ := hE hb
    refine ⟨_, h0, .glob ⟨rfl, fun j v hv => ?_, ?_, fun _ => ⟨rfl, rfl⟩, rfl⟩ rfl⟩
    · obtain ⟨k1, k2⟩ := cellAt_pow10 hv
      exact ⟨v, by simpa using k1, k2⟩
    · simp [pow10Row, pow10Cells]
  · obtain ⟨h1, rfl⟩ := hE hb
    show b < W.heap.size
    omega
  · have hb' : 8 ≤ b := hb
    exact ⟨by rw [mem0_get, if_neg (by omega)], by unfold Env.globs; rw [if_neg (by omega)]⟩
  · obtain ⟨rfl, _⟩ := hO ho
    obtain ⟨rfl, _⟩ := hO ho'
    exact absurd rfl hne
  · obtain ⟨_, rfl⟩ := hO ho
    simp [AObj.own] at hown
/-- THE CALL -/
theorem names_calls {laid : List (String × DataW Unit)} {W : World} (h : laidMet Tryz.prog laid W) (h1 : ("internal/strconv.uint64pow10", Rows.laid_internal_strconv_uint64pow10) ∈ laid) (h2 : ("strconv.ErrRange", Rows.laid_strconv_ErrRange) ∈ laid) :
    Calls Tryz.prog 5 #[] W fun e w' => e = .returned (.bool true) ∧ Below W.heap.size W w' := by
  obtain ⟨h8, t, h0⟩ := of_laid h h1 h2
  have hr := names_true t
  unfold runsTrue at hr
  split at hr
  · rename_i m' hrun
    refine (calls_of_runF (progOk_of good) (mem0_met h8 h0) (globs_ok 8) .nil 10000 hrun).mono ?_
    rintro e w' ⟨v', E', rfl, hv, hm⟩
    cases hv
    exact ⟨rfl, hm.base⟩
  · simp at hr

theorem own : ownKnob Tryz.prog.godebug = none := by kernel_rfl
abbrev laidNames : List (String × DataW Unit) := Rows.scriptNamesRow.laid
set_option maxRecDepth 100000 in
theorem lifted (os : Os) (started : os.Started) (H : Type) (enc : TypeId × Value → H) :
    ReturnsInHanded {} Tryz.checked os 5 .any (fun w args => (Rows.scriptNamesSpec.pre enc Tryz.prog Tryz.f5 [] false w args ∧ laidMetH Tryz.prog laidNames w) ∧ sizedMet enc Tryz.prog Tryz.f5 (OpenSpec.ofChange Rows.scriptNamesSpec) false w args)
      (Rows.scriptNamesSpec.post enc Tryz.prog Tryz.f5 false true false false) := by
  refine returnsInHanded_of_change_and (C := Tryz.checked) (X := fun w _ => laidMetH Tryz.prog laidNames w) (fun _ _ _ hh h => h.of_heap hh) own started (by kernel_rfl) Tryz.func5
    (ChangeSpec.witness_shaped (enc := enc) (C := Tryz.checked) (os := os) (X := fun w _ => laidMetH Tryz.prog laidNames w) false (World.laidAll Tryz.prog os laidNames) #[] 8 (World.laidAll_os _ _ _)
      (World.shaped_of_ZipB (by kernel_rfl) (by kernel_rfl)) (by kernel_rfl) (by kernel_rfl) (by kernel_rfl)
      (by rw [MakeChecks.laidMetH_plain _ _ _ (by kernel_rfl)]; exact laidMet_laidAll _ (by kernel_rfl) (by kernel_rfl))) ?_
  intro W base args ds gs before hval0 hW _ _ hL _
  have hW' := hW
  obtain ⟨p, q, hA0, hV, rfl, _, _⟩ := hW
  have hA : DataW.TrodAll enc Tryz.prog W 0 (fun _ => true) true Tryz.f5.params.toList args.toList ds p := hA0
  rw [Tryz.params5] at hA
  obtain ⟨args⟩ := args
  cases args with
  | cons x l => cases ds <;> exact absurd hA (by simp [DataW.TrodAll])
  | nil =>
  cases ds with
  | cons d l => exact absurd hA (by simp [DataW.TrodAll])
  | nil =>
  obtain ⟨rfl, rfl⟩ := trodVars_none hV
  simp only [List.append_nil] at hW'
  rw [MakeChecks.laidMetH_plain _ _ _ (by kernel_rfl)] at hL
  refine (names_calls hL (by simp [laidNames, Rows.scriptNamesRow]) (by simp [laidNames, Rows.scriptNamesRow])).mono fun e W' ⟨he, hb⟩ => ?_
  subst he
  exact ⟨_, rfl, _, _, _, [], [], [], hW', trodAll_mk1 (shut_bool Tryz.underlying4 _), rfl, rfl, hb.frame _, fun h => by cases h⟩

theorem scriptNames_holds : Rows.ScriptNamesSaid :=
  OpenClaim.holds_of_wide 5 Tryz.f5 rfl rfl rfl rfl rfl rfl rfl ⟨rfl, rfl, rfl, rfl, rfl⟩ rfl rfl rfl rfl rfl (by kernel_rfl) Tryz.func5 (by kernel_rfl)
    (of_decide_eq_true (by kernel_rfl)) (by unfold Func.isWrapper; first | (rw [if_pos (by decide +kernel)]; kernel_rfl) | (rw [if_neg (by decide +kernel)]; exact ⟨rfl, rfl⟩))
    (fun os started H enc _ => lifted os started H enc)
theorem scriptNames_card : Rows.ScriptNamesCardSaid :=
  Claim7.holds_tied_plain_at .later [] [.data, .data, .data, .data, .sentinel, .sentinel, .pinned] true (true, "b4e646ca9fcc339808fd29f59bb9d14cac4671c189ce8fae234b548da67be303") true
    scriptNames_holds (fun _ h => by cases h) (by kernel_rfl) (fun _ h => by cases h) scriptNames_row_tie rfl ⟨rfl, rfl⟩ (by kernel_rfl) rfl
    (fun f fn hf hfn => by
      obtain rfl : f = 5 := Option.some.inj ((show Tryz.prog.funcNamed "halyard/halyardlaw21.ScriptNames" = some 5 by kernel_rfl).symm.trans hf) |>.symm
      obtain rfl : fn = Tryz.f5 := (Option.some.inj (Tryz.func5.symm.trans hfn)).symm
      exact ⟨by kernel_rfl, fun j t ht => by
        rw [Tryz.params5] at ht
        simp at ht⟩)
    (by kernel_rfl)
#print axioms scriptNames_card
end Go.Proofs.YtgmkbdmgifdfeaaGreatDoor
