/- 'halyardlaw21.ScriptPrints' returns true, and its arguments read as they did: of every setup and every steps that are together of bulk at most 1048576 (the second form), in every world that holds the five listed variables of Go's library. The card. -/
import Derived.Test.YtgmkbdmgifdfeaaGreatDoorSp11
import Derived.Test.YtgmkbdmgifdfeaaGreatDoorSp12
import Derived.Test.YtgmkbdmgifdfeaaGreatDoorSp13
import Derived.Test.YtgmkbdmgifdfeaaGreatDoorRows
import Derived.Test.YtgmkbdmgifdfeaaGreatDoorCards
import Derived.Test.YtgmkbdmgifdfeaaGreatDoorTie
import Derived.ProofKit
import Derived.OpenShut
import Derived.ReadAgain
import Derived.LaidMore
import Derived.LaidLaws
import Derived.Lay
import Derived.SevenTiedAt
import Derived.Stop.Joined
import Derived.Lib.LaidTab
import Derived.Deep.DeepHandedRow
set_option linter.unusedSimpArgs false
set_option linter.unusedVariables false
set_option maxRecDepth 100000
namespace Go.Proofs.YtgmkbdmgifdfeaaGreatDoor
open Go Go.Ev Go.ChangeShapes Go.WideShapes Go.ChangeAt Go.RowKit
theorem laidVars_row {P : Program} {w : World} : ∀ {l : List (String × DataW Unit)} {ps : List MemPlace}, DataW.LaidVars P w l ps → ∀ n d, (n, d) ∈ l →
    ∃ g t cs fuel p, P.globalNamed n = some g ∧ (P.globals[g]?).map (·.type) = some t ∧ w.var? P n = some cs ∧ DataW.trod (fun _ => ()) P w 0 (fun _ => true) false fuel t cs.toList = some (d, p) ∧ ∀ x ∈ MemPlace.row ⟨g, 0, none⟩ cs.size, x ∈ ps
  | [], _, _, _, _, hm => by cases hm
  | (n', d') :: r, ps, h, n, d, hm => by
    obtain ⟨g, t, cs, fuel, p, q, h1, h2, h3, h4, h5, h6⟩ := h
    rcases List.mem_cons.1 hm with e | e
    · cases e
      exact ⟨g, t, cs, fuel, p, h1, h2, h3, h4, fun x hx => by rw [h6]; simp [hx]⟩
    · obtain ⟨g', t', cs', fuel', p', k1, k2, k3, k4, k5⟩ := laidVars_row h5 n d e
      exact ⟨g', t', cs', fuel', p', k1, k2, k3, k4, fun x hx => by rw [h6]; simp [k5 x hx]⟩
theorem laid_row {P : Program} {w : World} {l : List (String × DataW Unit)} (h : laidMet P l w) {n : String} {d : DataW Unit} (hm : (n, d) ∈ l) {g0 : Nat} (hg : P.globalNamed n = some g0) :
    ∃ t cs fuel p, (P.globals[g0]?).map (·.type) = some t ∧ w.var? P n = some cs ∧ DataW.trod (fun _ => ()) P w 0 (fun _ => true) false fuel t cs.toList = some (d, p) ∧ (0 < cs.size → ∃ t', w.heap[g0]? = some (.cells cs t' (0, 0))) := by
  obtain ⟨ps, hv, hn, hr⟩ := h
  obtain ⟨g, t, cs, fuel, p, k1, k2, k3, k4, k5⟩ := laidVars_row hv n d hm
  obtain rfl := Option.some.inj (hg.symm.trans k1)
  refine ⟨t, cs, fuel, p, k2, k3, k4, fun hpos => ?_⟩
  obtain ⟨⟨c, t', hc⟩, _⟩ := hr g0 0 (k5 _ (MemPlace.mem_row.2 ⟨0, hpos, by simp⟩))
  have := k3
  simp only [World.var?, hg, Option.bind_some, hc, Option.some.injEq] at this
  subst this
  exact ⟨t', hc⟩
theorem pow10_data : (Rows.laid_internal_strconv_uint64pow10 : DataW Unit) = Lib.tabData .u64 ((List.range 20).map fun i => ((10 ^ i : Nat) : Int)) := by kernel_rfl
theorem und165 : Tryz.prog.underlying 177 = some (.array 20 22) := by kernel_rfl
theorem cells177 : Tryz.prog.cellsOf 177 = 20 := by kernel_rfl
theorem tPow10 : (Tryz.prog.globals[0]?).map (·.type) = some 177 := by kernel_rfl
theorem gErrRange : Tryz.prog.globalNamed "strconv.ErrRange" = some 7 := by kernel_rfl
theorem of_laid {laid : List (String × DataW Unit)} {W : World} (h : laidMet Tryz.prog laid W) (h1 : ("internal/strconv.uint64pow10", Rows.laid_internal_strconv_uint64pow10) ∈ laid) (h2 : ("strconv.ErrRange", Rows.laid_strconv_ErrRange) ∈ laid) :
    8 ≤ W.heap.size ∧ ∃ t, W.heap[0]? = some (.cells ⟨pow10Cells⟩ t (0, 0)) := by
  constructor
  · obtain ⟨t, cs, fuel, p, _, hv, _⟩ := laid_row h h2 gErrRange
    simp only [World.var?, gErrRange, Option.bind_some] at hv
    split at hv <;> first | (simp at hv; done) | skip
    rename_i hb
    have := (Array.getElem?_eq_some_iff.1 hb).1
    omega
  · obtain ⟨t, cs, fuel, p, ht, hv, hd, hr⟩ := laid_row h h1 pow_gName
    obtain rfl := Option.some.inj (tPow10.symm.trans ht)
    rw [pow10_data] at hd
    have hc := Lib.cells_of_tab und165 Tryz.underlying22 cl22 cells177 hd
    have hc2 : cs = ⟨pow10Cells⟩ := by
      apply Array.ext'
      rw [hc, List.map_map]
      rfl
    subst hc2
    exact hr (by simp [pow10Cells])
/-- the table stands in the abstract memory -/
theorem pow_abs {W : World} {t : TypeId} (h8 : 8 ≤ W.heap.size) (h : W.heap[0]? = some (.cells ⟨pow10Cells⟩ t (0, 0))) : PowAt (absM W) := by
  refine ⟨by show 0 < W.heap.size; omega, t, ?_⟩
  unfold vw
  rw [absM_get, h]
  show vwRow false (absRow W.heap.size ⟨pow10Cells⟩ t (0, 0)) = _
  refine vwRow_of (cs := pow10Cells) (by rfl) (by simp [absRow]) fun i => ?_
  rw [absRow_cell]
  by_cases hi : i < 20
  · have hl : i < pow10Cells.length := by simpa [pow10Cells] using hi
    rw [show (⟨pow10Cells⟩ : Array Value)[i]? = some pow10Cells[i] from by simp [hl], List.getElem?_eq_getElem hl]
    simp [pow10Cells, absC]
  · rw [Array.getElem?_eq_none (by simp [pow10Cells]; omega), List.getElem?_eq_none (by simp [pow10Cells]; omega)]; rfl
theorem stu_vrs (E : Env) (y : Stu) : VRs E (stuCells y) (stuCells y) :=
  .cons (.int _ _) (.cons (.int _ _) (.cons (.int _ _) (.cons (.int _ _) (.cons (.int _ _) (.cons (.int _ _) (.cons (.int _ _) (.cons (.int _ _) (.cons (.int _ _) .nil))))))))
/-- THE CALL -/
theorem prints_calls {W : World} {y : Stu} {ss : List Stp} {v v' : Value} (h8 : 8 ≤ W.heap.size) (hp : PowAt (absM W)) (hy : y.R) (hv : absC W.heap.size v = some v') (hs : StepsOld W.heap.size (absM W) v' ss) (hw : weights ss ≤ 400000000) :
    Calls Tryz.prog 3 #[.agg ⟨stuCells y⟩, v] W fun e w' => e = .returned (.bool true) ∧ Below W.heap.size W w' := by
  have hm := absM_met W (by omega)
  have hc := prints_ok (m := absM W) (v := v') (x := y) (ss := ss) h8 hp hy hs hw
  have hc2 := hc.mono (R' := fun out m' => ∃ r, out = .ret r ∧ r = .bool true) (fun o m' h => by
    cases o with
    | ret r => exact ⟨r, rfl, h⟩
    | pan ch => exact h.elim)
  have ha : VRs (Env.globs W.heap.size) [.agg ⟨stuCells y⟩, v'] [.agg ⟨stuCells y⟩, v] := .cons (.agg (stu_vrs _ y)) (.cons (absC_vr (by omega) hv) .nil)
  refine (calls_of_callsA (pkTb W.heap.size W) hm (fun g hg => globs_at (by omega)) ha hc2).mono ?_
  rintro e w' ⟨r, r', E', m', rfl, rfl, hr, hM⟩
  cases hr
  exact ⟨rfl, hM.base⟩
theorem own : ownKnob Tryz.prog.godebug = none := by kernel_rfl
theorem kidsT : Kids Tryz.prog (· < Tryz.prog.types.size) := kids_rows (by kernel_rfl) (by kernel_rfl)
theorem fullT : ∀ t e, t < Tryz.prog.types.size → Tryz.prog.underlying t = some (.slice e) → 0 < Tryz.prog.cellsOf e := slices_full_of _ (by kernel_rfl)
theorem lt26 : 26 < Tryz.prog.types.size := by
  have h : Nat.blt 26 Tryz.prog.types.size = true := by kernel_rfl
  rwa [Nat.blt_eq] at h
theorem lt27 : 27 < Tryz.prog.types.size := by
  have h : Nat.blt 27 Tryz.prog.types.size = true := by kernel_rfl
  rwa [Nat.blt_eq] at h
/-- what was read reads so again -/
theorem trod_again {H : Type} {enc : TypeId × Value → H} {W W' : World} (hb : Below W.heap.size W W') {t : TypeId} (ht : t < Tryz.prog.types.size) {v : Value} {d : DataW H} {p : List MemPlace} (h : DataW.Trod enc Tryz.prog W 0 (fun _ => true) true t v d p) :
    DataW.Trod enc Tryz.prog W' 0 (fun b => decide (b < W.heap.size)) true t v d p := by
  have hlt : ∀ x ∈ p, x.block < W.heap.size := by
    obtain ⟨n, hn⟩ := h
    exact DataW.trod_lt n _ _ _ hn
  obtain ⟨n, hn⟩ := h.respare (spare' := fun b => decide (b < W.heap.size)) kidsT fullT ht (fun x hx => by simpa using hlt x hx)
  exact ⟨n, DataW.trod_carry n _ _ _ hn fun x hx => hb.same (hlt x hx)⟩
abbrev laidPrints : List (String × DataW Unit) := Rows.scriptPrintsUptoRow.laid
theorem contract (H : Type) (enc : TypeId × Value → H) (W : World) (base : Nat) (args : Array Value) (ds gs : List (DataW H)) (before : List MemPlace)
    (hval : ∀ (j : Nat) t v, Tryz.f3.params[j]? = some t → args[j]? = some v → Value.okWide Tryz.prog W .any base t v)
    (hW : DataW.Whole enc Tryz.prog Tryz.f3.params.toList Rows.scriptPrintsSpec.vars false W args.toList ds gs before) (hk : Rows.uptoSmall H (ds ++ gs) = true) (hL : laidMet Tryz.prog laidPrints W) :
    Calls Tryz.prog 3 args W fun e W' => ∃ v, e = .returned v ∧ Rows.scriptPrintsSpec.post enc Tryz.prog Tryz.f3 false true false false W args v W' := by
  have hW' := hW
  obtain ⟨p, q, hA0, hV, rfl, hfz, hnd⟩ := hW
  have hA : DataW.TrodAll enc Tryz.prog W 0 (fun _ => true) true Tryz.f3.params.toList args.toList ds p := hA0
  rw [Tryz.params3] at hA hval
  obtain ⟨v0, vs0, d0, ds0, p0, q0, hargs, rfl, rfl, h0, r0⟩ := trodAll_cons hA
  obtain ⟨v1, vs1, d1, ds1, p1, q1, rfl, rfl, rfl, h1, r1⟩ := trodAll_cons r0
  obtain ⟨rfl, rfl, rfl⟩ := trodAll_nil r1
  obtain rfl : args = #[v0, v1] := by cases args; simp_all
  obtain ⟨rfl, rfl⟩ := trodVars_none hV
  clear hA0 hA r0 r1
  simp only [List.append_nil] at hW' hk
  have e0 : ∃ cs, v0 = .agg cs := by
    have := hval 0 26 v0 (by simp) (by simp)
    simp only [Value.okWide, Tryz.underlying26] at this
    obtain ⟨cs, h, _⟩ := this
    exact ⟨cs, h⟩
  obtain ⟨cs, rfl⟩ := e0
  obtain ⟨a1, l1, c1, rfl⟩ := okWide_slice Tryz.underlying27 (hval 1 27 v1 (by simp) (by simp))
  obtain ⟨f0, hf0⟩ := h0
  obtain ⟨f1, hf1⟩ := h1
  obtain ⟨y, hy, hcs⟩ := read_stu hf0
  obtain rfl : cs = ⟨stuCells y⟩ := by cases cs; exact congrArg _ hcs
  obtain ⟨ss, v', hv, hs, hw⟩ := read_steps (v := .slice a1 l1 c1) hf1
  have hb : Rows.uptoBulk d1 ≤ 1048576 := by
    have : Rows.uptoBulkAll [d0, d1] ≤ 1048576 := by simpa [Rows.uptoSmall] using hk
    simp only [Rows.uptoBulkAll] at this; omega
  obtain ⟨h8, t, ht⟩ := of_laid hL (by simp [laidPrints, Rows.scriptPrintsUptoRow]) (by simp [laidPrints, Rows.scriptPrintsUptoRow])
  refine (prints_calls h8 (pow_abs h8 ht) hy hv hs (by simp only at hw; omega)).mono fun e W' ⟨he, hb⟩ => ?_
  subst he
  refine ⟨_, rfl, _, _, _, [], p0 ++ (p1 ++ []), [], hW', trodAll_mk1 (shut_bool Tryz.underlying4 _), ?_, rfl, hb.frame _, fun h => by cases h⟩
  rw [Tryz.params3]
  exact ⟨p0, p1 ++ [], trod_again hb lt26 ⟨f0, hf0⟩, ⟨p1, [], trod_again hb lt27 ⟨f1, hf1⟩, rfl, rfl⟩, rfl⟩
end Go.Proofs.YtgmkbdmgifdfeaaGreatDoor
set_option maxRecDepth 100000
namespace Go.Proofs.YtgmkbdmgifdfeaaGreatDoor
open Go Go.Ev Go.ChangeShapes Go.WideShapes Go.ChangeAt Go.RowKit
abbrev witArgs : Array Value := #[.agg #[.int .i64 0, .int .u64 0, .int .u64 0, .int .i64 0, .int .i64 0, .int .i64 0, .int .i64 0, .int .i64 0, .int .u64 0], .slice none 0 0]
theorem reads (os : Os) {H : Type} (enc : TypeId × Value → H) : ∃ places, DataW.whole enc Tryz.prog ((World.laidAll Tryz.prog os laidPrints).forCall (fun _ _ => 0) ⟨#[], witArgs, []⟩).memory Tryz.f3.params.toList Rows.scriptPrintsSpec.vars false witArgs.toList 8 =
    some ([.agg [.agg [.lit (.int .i64 0), .lit (.int .u64 0), .lit (.int .u64 0), .lit (.int .i64 0), .lit (.int .i64 0), .lit (.int .i64 0)], .lit (.int .i64 0), .lit (.int .i64 0), .lit (.int .u64 0)], .nil], [], places) :=
  ⟨[], by kernel_rfl⟩
theorem witness (os : Os) (H : Type) (enc : TypeId × Value → H) :
    ∃ (w : World) (tape : Tape) (i : Input), w.os = os ∧ (w.forCall tape i).Shaped Tryz.prog ∧ i.vars = [] ∧ Input.okWide Tryz.prog (w.forCall tape i) .any w.heap.size 3 i ∧
      (Rows.OpenSpec.upto Rows.scriptPrintsSpec).preRow enc Tryz.prog Tryz.f3 Rows.scriptPrintsUptoRow.domain false Rows.scriptPrintsUptoRow.laid (w.forCall tape i).memory i.args ∧ ({} : Assume).holds Tryz.prog (lone (Frame.enter Tryz.prog 3 i.args .normal) [] (w.forCall tape i)) := by
  obtain ⟨places, hx⟩ := reads os enc
  have hok : Input.okWideB Tryz.prog ((World.laidAll Tryz.prog os laidPrints).forCall (fun _ _ => 0) ⟨#[], witArgs, []⟩) 3 ⟨#[], witArgs, []⟩ = true := by kernel_rfl
  refine ⟨World.laidAll Tryz.prog os laidPrints, fun _ _ => 0, ⟨#[], witArgs, []⟩, World.laidAll_os _ _ _, World.shaped_of_ZipB (by kernel_rfl) (by kernel_rfl), (Input.okWide_of_okWideB (base := 0) hok).1, (Input.okWide_of_okWideB hok).2, ?_, ?_⟩
  · exact OpenSpec.preRow_of_cond 8 hx (by kernel_rfl) (fun k hk => by cases hk; kernel_rfl) (by kernel_rfl) (by rw [MakeChecks.laidMetH_plain _ _ _ (by kernel_rfl)]; exact laidMet_laidAll _ (by kernel_rfl) (by kernel_rfl))
  · simp only [Assume.holds]
    exact ⟨by simp, by simp, fun _ => Modest.zero, by simp, by simp⟩
theorem liftedUpto (os : Os) (started : os.Started) (H : Type) (enc : TypeId × Value → H) (F : Stop.Interp) :
    ReturnsInHanded {} Tryz.checked os 3 .any ((Rows.OpenSpec.upto Rows.scriptPrintsSpec).preRow enc Tryz.prog Tryz.f3 Rows.scriptPrintsUptoRow.domain false Rows.scriptPrintsUptoRow.laid) (((Rows.OpenSpec.upto Rows.scriptPrintsSpec).at F).post enc Tryz.prog Tryz.f3 false true false false) := by
  refine returnsInHanded_of_row (C := Tryz.checked) (s := Rows.OpenSpec.upto Rows.scriptPrintsSpec) own started (by kernel_rfl) Tryz.func3 (witness os H enc) ?_
  intro W base args ds gs before hval hW _ hcond _ hL _ _
  rw [MakeChecks.laidMetH_plain _ _ _ (by kernel_rfl)] at hL
  exact contract H enc W base args ds gs before hval hW (hcond _ rfl) hL
theorem saidUpto : Rows.ScriptPrintsUptoSaid :=
  OpenClaim.holds_of_cond 3 Tryz.f3 rfl rfl rfl rfl rfl rfl rfl ⟨rfl, rfl, rfl, rfl, rfl⟩ rfl rfl rfl rfl rfl (by kernel_rfl) Tryz.func3 (by kernel_rfl)
    (of_decide_eq_true (by kernel_rfl)) (by unfold Func.isWrapper; first | (rw [if_pos (by decide +kernel)]; kernel_rfl) | (rw [if_neg (by decide +kernel)]; exact ⟨rfl, rfl⟩))
    (fun os started H enc _ F => by rw [OpenClaim.pre_eq_preRow]; exact liftedUpto os started H enc F)
theorem scriptPrints_card : Rows.ScriptPrintsUptoCardSaid :=
  Claim7.holds_tied_plain_at .later [] _ _ _ _ saidUpto (fun _ h => by cases h) (by kernel_rfl) (fun _ h => by cases h) scriptPrintsUpto_row_tie rfl ⟨rfl, rfl⟩ (by kernel_rfl) rfl
    (fun f fn hf hfn => by
      obtain rfl : f = 3 := Option.some.inj ((show Tryz.prog.funcNamed "halyard/halyardlaw21.ScriptPrints" = some 3 by kernel_rfl).symm.trans hf) |>.symm
      obtain rfl : fn = Tryz.f3 := (Option.some.inj (Tryz.func3.symm.trans hfn)).symm
      exact ⟨by kernel_rfl, fun j t ht => by
        rw [Tryz.params3] at ht
        have hm := Array.mem_of_getElem? ht
        simp only [List.mem_toArray, List.mem_cons, List.not_mem_nil, or_false] at hm
        rcases hm with rfl | rfl
        · exact (show Tryz.prog.wantsStandIn 26 = false by kernel_rfl)
        · exact (show Tryz.prog.wantsStandIn 27 = false by kernel_rfl)⟩)
    (by kernel_rfl)
#print axioms scriptPrints_card
end Go.Proofs.YtgmkbdmgifdfeaaGreatDoor
