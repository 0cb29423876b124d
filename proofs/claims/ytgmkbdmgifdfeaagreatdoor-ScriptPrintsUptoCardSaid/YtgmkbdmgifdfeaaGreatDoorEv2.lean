/- Operations met by the model: equality, aggregates, places. -/
import Derived.Test.YtgmkbdmgifdfeaaGreatDoorEv1
import Derived.ChangeKeysEq
import Derived.Laws.BytesString
import Derived.Lib.UnsafeStr
set_option linter.unusedSimpArgs false
set_option linter.unusedVariables false
namespace Go.Ev
open Go.RowKit

section
variable {tb : Tabs} {N : Nat} {w0 : World} {E : Env} {m : Mem} {w : World}
/-- equality at one type is what the model says -/
def EqOk (tb : Tabs) (E : Env) (w : World) (eq : TypeId → Value → Value → Option Bool) (d : Nat) : Prop :=
  ∀ t x y x' y' r, eq t x y = some r → VR E x x' → VR E y y' → ∀ D, d ≤ D → (Op.equalIn D t x' y').run tb.p w = .ok r w
theorem run_eqFields (ok : TabsOk tb) {eq : TypeId → Value → Value → Option Bool} {d D : Nat} (heq : EqOk tb E w eq d) (hD : d ≤ D) {xs ys xs' ys' : List Value} (hx : VRs E xs xs') (hy : VRs E ys ys') :
    ∀ (fs : List Field) (r : Bool), eqFields tb eq xs ys (fs.map fun f => (f.offset, tb.p.cellsOf f.type, f.type, f.name == "_")) = some r → (Op.eqFields D ⟨xs'⟩ ⟨ys'⟩ fs).run tb.p w = .ok r w
  | [], r, h => by simp [eqFields] at h; subst h; simp [Op.eqFields]
  | f :: fs, r, h => by
    simp only [List.map_cons, eqFields] at h
    simp only [Op.eqFields]
    cases hb : f.name == "_" with
    | true =>
      rw [hb] at h
      have hn : f.name = "_" := by simpa using hb
      simp only [hn, ne_eq, not_true_eq_false, if_false]
      exact run_eqFields ok heq hD hx hy fs r h
    | false =>
      rw [hb] at h
      have hn : f.name ≠ "_" := by simpa using hb
      simp only at h
      obtain ⟨a, ha, h⟩ := oB_some.1 h
      obtain ⟨b, hb, h⟩ := oB_some.1 h
      obtain ⟨q, hq, h⟩ := oB_some.1 h
      obtain ⟨a', h1, h2⟩ := run_partA (w := w) ok hx ha
      obtain ⟨b', h3, h4⟩ := run_partA (w := w) ok hy hb
      have h5 := heq _ _ _ _ _ _ hq h2 h4 D hD
      rw [if_pos hn]
      simp only [Sem.run_bind, h1, h3, h5, Result.andThen_ok]
      cases q with
      | true => simp only [Bool.not_true, Bool.false_eq_true, if_false]; exact run_eqFields ok heq hD hx hy fs r h
      | false => simp only [Option.some.injEq] at h; subst h; simp
theorem run_eqElems (ok : TabsOk tb) {eq : TypeId → Value → Value → Option Bool} {d D : Nat} (heq : EqOk tb E w eq d) (hD : d ≤ D) {xs ys xs' ys' : List Value} (hx : VRs E xs xs') (hy : VRs E ys ys') {elem n : Nat} :
    ∀ (k i : Nat) (r : Bool), eqElems tb eq elem n xs ys k i = some r → (Op.eqItems D elem n ⟨xs'⟩ ⟨ys'⟩ (List.range' i k)).run tb.p w = .ok r w
  | 0, i, r, h => by simp [eqElems] at h; subst h; simp [Op.eqItems]
  | k + 1, i, r, h => by
    simp only [eqElems] at h
    obtain ⟨a, ha, h⟩ := oB_some.1 h
    obtain ⟨b, hb, h⟩ := oB_some.1 h
    obtain ⟨q, hq, h⟩ := oB_some.1 h
    obtain ⟨a', h1, h2⟩ := run_partA (w := w) ok hx ha
    obtain ⟨b', h3, h4⟩ := run_partA (w := w) ok hy hb
    have h5 := heq _ _ _ _ _ _ hq h2 h4 D hD
    rw [List.range'_succ]
    simp only [Op.eqItems, Sem.run_bind, h1, h3, h5, Result.andThen_ok]
    cases q with
    | true => simp only [Bool.not_true, Bool.false_eq_true, if_false]; exact run_eqElems ok heq hD hx hy k (i + 1) r h
    | false => simp only [Option.some.injEq] at h; subst h; simp
/-- a row that no string shares -/
theorem MR.plain (H : MR tb.p N w0 E m w) {b : Nat} {i : Info} {r : Row} (hE : E b = some i) (h : rowOf m b = some r) (hf : r.fz = .none) :
    (∀ o, w.frozen? ⟨i.blk, o, none⟩ = false) ∧ ∃ e n, w.shape? i.blk = some (e, n) := by
  obtain ⟨cells, elem, fr, h1, h2⟩ := H.row hE h
  have hz := h2.fz
  rw [hf] at hz
  have hz : fr.1 = fr.2 := hz
  constructor
  · intro o
    obtain ⟨lo, hi⟩ := fr
    have hz : lo = hi := hz
    subst hz
    simp only [World.frozen?, h1]
    simp
  · exact ⟨elem, cells.size, by simp [World.shape?, h1]⟩
theorem run_ptrEq (H : MR tb.p N w0 E m w) {a b : Addr} {i j : Info} (ha : E a.block = some i) (hb : E b.block = some j) {r : Bool} (h : ptrEq m a b = some r) :
    (sameAddr ⟨i.blk, i.shift + a.off, none⟩ ⟨j.blk, j.shift + b.off, none⟩).run tb.p w = .ok r w := by
  unfold ptrEq at h
  unfold sameAddr
  split at h
  · rename_i hq
    have := Nat.eq_of_beq_eq_true hq
    rw [this] at ha
    obtain rfl := Option.some.inj (ha.symm.trans hb)
    simp only [Option.some.injEq] at h
    rw [beq_dec] at h
    simp only [beq_self_eq_true, if_true, Sem.run_pure]
    rw [← h]
    congr 1
    rw [Bool.eq_iff_iff]
    simp
  · rename_i hq
    have hne := Nat.ne_of_beq_eq_false hq
    split at h
    · rename_i r1 r2 h1 h2
      split at h
      · rename_i hf1 hf2
        simp only [Option.some.injEq] at h; subst h
        have hblk : i.blk ≠ j.blk := by
          rcases rowOf_some h1 with h1 | h1 <;> rcases rowOf_some h2 with h2 | h2 <;> exact H.inj _ _ _ _ _ _ hne ha hb h1 h2 rfl rfl
        obtain ⟨f1, e1, n1, s1⟩ := H.plain ha h1 hf1
        obtain ⟨f2, e2, n2, s2⟩ := H.plain hb h2 hf2
        have hbb : (i.blk == j.blk) = false := by simpa using hblk
        simp [hbb, f1, f2, noView, viewAt, s1, s2, mayBeOne, stringish]
      · simp at h
    · simp at h
theorem run_eqPtr (ok : TabsOk tb) (H : MR tb.p N w0 E m w) {t e : Nat} {j ie : TI} (hj : ti tb t = some j) (hd : j.d = .pointer e) (he : ti tb e = some ie) (hs : ie.inf.size ≠ 0) {a b : Option Addr} {x' y' : Value} (hx : VR E (.pointer a) x') (hy : VR E (.pointer b) y') {r : Bool} (h : eqPtr m a b = some r) (D : Nat) :
    (Op.equalIn (D + 1) t x' y').run tb.p w = .ok r w := by
  simp only [Op.equalIn, Sem.run_bind, run_ty ok hj, hd, Result.andThen_ok]
  cases hx with
  | ptrNil =>
    cases hy with
    | ptrNil => simp only [eqPtr, Option.some.injEq] at h; subst h; simp
    | ptr hb => simp only [eqPtr, Option.some.injEq] at h; subst h; simp
  | ptr ha =>
    cases hy with
    | ptrNil => simp only [eqPtr, Option.some.injEq] at h; subst h; simp
    | ptr hb =>
      simp only [eqPtr] at h
      have := run_ptrEq (w := w) H (a := ⟨_, _, none⟩) (b := ⟨_, _, none⟩) ha hb h
      simp only [Sem.run_bind, run_size ok he, Result.andThen_ok, hs, ne_eq, not_false_eq_true, if_true]
      exact this
theorem run_eqSlice {t : Nat} {j : TI} {e : TypeId} (hu : (underlying t).run tb.p w = .ok (.slice e) w) {x y x' y' : Value} {r : Bool} (hx : VR E x x') (hy : VR E y y') (h : eqSl x y = some r) (D : Nat) : (Op.equalIn (D + 1) t x' y').run tb.p w = .ok r w := by
  unfold eqSl at h
  split at h <;> first
    | (simp at h; done)
    | (simp only [Option.some.injEq] at h; subst h; cases hx <;> cases hy <;> simp [Op.equalIn, hu])
theorem run_eqMap {t : Nat} {j : TI} {k e : TypeId} (hu : (underlying t).run tb.p w = .ok (.map k e) w) {x y x' y' : Value} {r : Bool} (hx : VR E x x') (hy : VR E y y') (h : eqMp x y = some r) (D : Nat) : (Op.equalIn (D + 1) t x' y').run tb.p w = .ok r w := by
  unfold eqMp at h
  split at h <;> first
    | (simp at h; done)
    | (simp only [Option.some.injEq] at h; subst h; cases hx <;> cases hy <;> simp [Op.equalIn, hu])
theorem run_eqFunc {t : Nat} {j : TI} {a b : Array TypeId} {c : Bool} (hu : (underlying t).run tb.p w = .ok (.func a b c) w) {x y x' y' : Value} {r : Bool} (hx : VR E x x') (hy : VR E y y') (h : eqFn x y = some r) (D : Nat) : (Op.equalIn (D + 1) t x' y').run tb.p w = .ok r w := by
  unfold eqFn at h
  split at h <;> first
    | (simp at h; done)
    | (simp only [Option.some.injEq] at h; subst h; cases hx <;> cases hy <;> simp [Op.equalIn, hu])
theorem run_eqA (ok : TabsOk tb) (H : MR tb.p N w0 E m w) : ∀ d, EqOk tb E w (eqA tb m d) d
  | 0 => by intro t x y x' y' r h; simp [eqA] at h
  | d + 1 => by
    intro t x y x' y' r h0 hx hy D hD
    obtain ⟨D, rfl⟩ : ∃ k, D = k + 1 := ⟨D - 1, by omega⟩
    have hD' : d ≤ D := by omega
    have ih := run_eqA ok H d
    simp only [eqA] at h0
    obtain ⟨j, hj, h⟩ := oB_some.1 h0
    clear h0
    have hu : (underlying t).run tb.p w = .ok j.d w := run_ty ok hj
    have hfl := mkTI_some (ok.types t j hj)
    cases hd : j.d with
    | bool =>
      rw [hd] at h hu; simp only at h
      unfold eqBool at h
      split at h
      · cases hx; cases hy
        simp only [Option.some.injEq] at h
        subst h; simp [Op.equalIn, hu]
      · simp at h
    | int k =>
      rw [hd] at h hu; simp only at h
      unfold eqInt at h
      split at h
      · cases hx; cases hy
        split at h
        · rename_i hk
          have := kEq_true hk
          simp only [Option.some.injEq, intEq_eq] at h; subst h
          simp [Op.equalIn, hu, this]
        · simp at h
      · simp at h
    | string =>
      rw [hd] at h hu; simp only at h
      unfold eqStr at h
      split at h
      · cases hx; cases hy
        simp only [Option.some.injEq] at h
        rw [bytesEq_eq, ← toList_eq, ← toList_eq, ← beq_toListBytes] at h
        subst h; simp [Op.equalIn, hu]
      · simp at h
    | pointer e =>
      rw [hd] at h; simp only at h
      unfold eqPt at h
      split at h
      · obtain ⟨ie, he, h1⟩ := oB_some.1 h
        split at h1
        · simp at h1
        · rename_i s hs
          exact run_eqPtr ok H hj hd he (by rw [hs]; omega) hx hy h1 D
      · simp at h
    | interface ms =>
      rw [hd] at h hu; simp only at h
      unfold eqIf at h
      split at h
      · cases hx; cases hy; simp only [Option.some.injEq] at h; subst h; simp [Op.equalIn, hu]
      · cases hx; cases hy; simp only [Option.some.injEq] at h; subst h; simp [Op.equalIn, hu]
      · cases hx; cases hy; simp only [Option.some.injEq] at h; subst h; simp [Op.equalIn, hu]
      · rename_i tx vx ty vy
        cases hx with
        | iface _ h1 =>
          cases hy with
          | iface _ h2 =>
            cases hq : Nat.beq tx ty with
            | false =>
              rw [hq] at h
              have hne := Nat.ne_of_beq_eq_false hq
              simp only [Option.some.injEq] at h; subst h
              simp [Op.equalIn, hu, hne]
            | true =>
              rw [hq] at h; simp only at h
              have he := Nat.eq_of_beq_eq_true hq
              clear hq
              subst he
              obtain ⟨q, hq, h3⟩ := oB_some.1 h
              clear h
              cases hc : q.inf.comparable with
              | true =>
                rw [hc] at h3
                have := ih _ _ _ _ _ _ h3 h1 h2 D hD'
                simp [Op.equalIn, hu, run_inf ok hq, hc, this]
              | false => rw [hc] at h3; simp at h3
      · simp at h
    | struct fs =>
      rw [hd] at h; simp only at h
      unfold eqSt at h
      split at h
      · cases hx with
        | agg ha => cases hy with
          | agg hb =>
            cases hh : j.held with
            | true => rw [hh] at h; simp at h
            | false =>
              rw [hh] at h; simp only at h
              rw [hfl.2.2.2.2.2.1, hd] at h
              have hpf : tb.p.underlying t = some (.struct (tb.p.fieldsOf t)) := by simp [Program.fieldsOf, ok.und hj, hd]
              have hfs : tb.p.fieldsOf t = fs := by simp [Program.fieldsOf, ok.und hj, hd]
              rw [run_equalIn_struct w D t _ _ hpf (by rw [← hfl.2.2.2.2.2.2.2]; exact hh), hfs]
              exact run_eqFields ok ih hD' ha hb fs.toList r h
      · simp at h
    | array len elem =>
      rw [hd] at h; simp only at h
      unfold eqAr at h
      split at h
      · cases hx with
        | agg ha => cases hy with
          | agg hb =>
            obtain ⟨e, he, h1⟩ := oB_some.1 h
            have hpf : tb.p.underlying t = some (.array len elem) := by rw [ok.und hj, hd]
            rw [run_equalIn_array w D _ _ hpf (ok.info he), ok.cellsOf he, List.range_eq_range']
            exact run_eqElems ok ih hD' ha hb len 0 r h1
      · simp at h
    | slice e => rw [hd] at h hu; exact run_eqSlice (j := j) hu hx hy h D
    | map k e => rw [hd] at h hu; exact run_eqMap (j := j) hu hx hy h D
    | func a b c => rw [hd] at h hu; exact run_eqFunc (j := j) hu hx hy h D
    | _ => rw [hd] at h; simp only [reduceCtorEq] at h
end
end Go.Ev
namespace Go.Ev
open Go.RowKit

def numText : Value → Value → Bool
  | .int _ _, .int _ _ => true
  | .float _ _, .float _ _ => true
  | .complex _ _ _, .complex _ _ _ => true
  | .string _, .string _ => true
  | _, _ => false
theorem binOp_eql' (t : TypeId) (a b : Value) (h : numText a b = false) : binOp .eql t a b = (do pure (.bool (← Op.equal t a b))) := by
  cases a <;> cases b <;> first | rfl | (simp [numText] at h)
theorem binOp_neq' (t : TypeId) (a b : Value) (h : numText a b = false) : binOp .neq t a b = (do pure (.bool (!(← Op.equal t a b)))) := by
  cases a <;> cases b <;> first | rfl | (simp [numText] at h)
theorem eqGuard_int (op : BinOp) (t : TypeId) (x y : Operand) (k : IntKind) (n : Int) (v : Value) : eqGuard op t x y (.int k n) v = pure () := by cases op <;> rfl
theorem eqGuard_string (op : BinOp) (t : TypeId) (x y : Operand) (s : ByteArray) (v : Value) : eqGuard op t x y (.string s) v = pure () := by cases op <;> rfl

section
variable {tb : Tabs} {N : Nat} {w0 : World} {E : Env} {m : Mem} {w : World}
theorem run_guard (ok : TabsOk tb) {op : BinOp} {t : Nat} {x y : Operand} {a b a' b' : Value} (ha : VR E a a') (hb : VR E b b') (h : guardOk tb t x y a b = true) : (eqGuard op t x y a' b').run tb.p w = .ok () w := by
  have hplain : ∀ c d : Value, (¬ (c = .nilIface ∧ d = .nilIface)) → (¬ ∃ p q, c = .agg p ∧ d = .agg q) → (eqGuard op t x y c d).run tb.p w = .ok () w := by
    intro c d h1 h2
    have : eqGuard op t x y c d = pure () := by
      unfold eqGuard
      cases op <;> first | rfl | skip
      all_goals
        rw [if_neg (by simp)]
        split
        · exact absurd ⟨rfl, rfl⟩ h1
        · exact absurd ⟨_, _, rfl, rfl⟩ h2
        · rfl
    rw [this]; rfl
  unfold guardOk at h
  split at h
  · cases ha; cases hb
    have hc : (match x with | .const _ => true | _ => false) = true ∨ (match y with | .const _ => true | _ => false) = true := by
      rw [Bool.or_eq_true] at h
      rcases h with h | h
      · left; unfold isConst at h; split at h <;> simp_all
      · right; unfold isConst at h; split at h <;> simp_all
    have : eqGuard op t x y .nilIface .nilIface = pure () := by
      rcases hc with hc | hc
      · cases x <;> first | (simp at hc; done) | skip
        cases op <;> rfl
      · cases y <;> first | (simp at hc; done) | skip
        cases op <;> cases x <;> rfl
    rw [this]; rfl
  · cases ha with
    | agg ha => cases hb with
      | agg hb =>
        split at h
        · rename_i i hi
          have hg := (mkTI_some (ok.types t i hi)).2.2.2.2.2.2.1
          have : tb.p.eqGuardType tb.p.depth t = false := by rw [← hg]; simpa using h
          unfold eqGuard
          cases op <;> first | rfl | skip
          all_goals simp [this]
        · simp at h
  · rename_i h1 h2
    refine hplain _ _ ?_ ?_
    · rintro ⟨e1, e2⟩
      subst e1; subst e2
      cases ha; cases hb
      exact h1 rfl rfl
    · rintro ⟨p, q, e1, e2⟩
      subst e1; subst e2
      cases ha; cases hb
      exact h2 _ _ rfl rfl
theorem strOp_self {op : BinOp} {a b : ByteArray} {v : Value} (h : strOp op a b = some v) : VR E v v := by
  cases op <;> simp only [strOp] at h
  all_goals first
    | (simp at h; done)
    | (simp only [Option.some.injEq] at h; subst h; constructor)
    | skip
  split at h
  · simp only [Option.some.injEq] at h; subst h; exact .string _
  · simp at h
theorem intOp_self {op : BinOp} {k : IntKind} {a b : Int} {v : Value} (h : intOp op k a b = some v) : VR E v v := by
  cases op <;> simp only [intOp] at h
  all_goals first
    | (simp only [Option.some.injEq, vInt_eq] at h; subst h; constructor)
    | (obtain ⟨n, _, rfl⟩ := oI_some h; constructor)
    | skip
  obtain ⟨r, _, h⟩ := oB_some.1 h
  simp only [Option.some.injEq, vInt_eq] at h; subst h; constructor
theorem shiftOp_self {op : BinOp} {k : IntKind} {a b : Int} {v : Value} (h : shiftOp op k a b = some v) : VR E v v := by
  unfold shiftOp at h
  split at h
  · simp at h
  · split at h <;> first
      | (simp only [Option.some.injEq, vInt_eq] at h; subst h; constructor)
      | (simp at h)
theorem run_eqOp (ok : TabsOk tb) (H : MR tb.p N w0 E m w) {t : Nat} {x y : Operand} {a b a' b' : Value} {r : Bool} (ha : VR E a a') (hb : VR E b b') (h : eqOp tb m t x y a b = some r) :
    guardOk tb t x y a b = true ∧ (Op.equal t a' b').run tb.p w = .ok r w := by
  unfold eqOp at h
  split at h
  · rename_i hg
    exact ⟨hg, run_eqA ok H 64 _ _ _ _ _ _ h ha hb _ (by decide)⟩
  · simp at h
theorem run_binA (ok : TabsOk tb) (H : MR tb.p N w0 E m w) {op : BinOp} {t : Nat} {x y : Operand} {a b a' b' v : Value} (ha : VR E a a') (hb : VR E b b') (h : binA tb m op t x y a b = some v) :
    (do eqGuard op t x y a' b'; binOp op t a' b' : Sem Value).run tb.p w = .ok v w ∧ VR E v v := by
  unfold binA at h
  split at h
  · rename_i k n k' n'
    cases ha; cases hb
    rw [eqGuard_int]
    simp only [Sem.run_bind, Sem.run_pure, Result.andThen_ok]
    split at h
    · exact ⟨run_shiftOp t (.inl rfl) h, shiftOp_self h⟩
    · exact ⟨run_shiftOp t (.inr rfl) h, shiftOp_self h⟩
    · rename_i h1 h2
      split at h
      · rename_i hk
        have := kEq_true hk
        subst this
        exact ⟨run_intOp t h1 h2 h, intOp_self h⟩
      · simp at h
  · cases ha; cases hb
    rw [eqGuard_string]
    simp only [Sem.run_bind, Sem.run_pure, Result.andThen_ok]
    exact ⟨run_strOp t h, strOp_self h⟩
  · rename_i h1 h2
    have hn : numText a' b' = false := by
      cases ha <;> cases hb <;> first | rfl | exact absurd rfl (h2 _ _ rfl) | exact (h1 _ _ _ _ rfl rfl).elim | exact (h2 _ _ rfl rfl).elim
    split at h
    · obtain ⟨r, hr, h⟩ := oB_some.1 h
      simp only [Option.some.injEq] at h; subst h
      obtain ⟨hg, he⟩ := run_eqOp ok H ha hb hr
      refine ⟨?_, .bool _⟩
      simp only [Sem.run_bind, run_guard ok ha hb hg, Result.andThen_ok, binOp_eql' t _ _ hn, he, Sem.run_pure]
    · obtain ⟨r, hr, h⟩ := oB_some.1 h
      simp only [Option.some.injEq] at h; subst h
      obtain ⟨hg, he⟩ := run_eqOp ok H ha hb hr
      refine ⟨?_, .bool _⟩
      simp only [Sem.run_bind, run_guard ok ha hb hg, Result.andThen_ok, binOp_neq' t _ _ hn, he, Sem.run_pure]
    · simp at h

/-! ### lengths -/
theorem run_lenA (ok : TabsOk tb) (H : MR tb.p N w0 E m w) {t : Nat} {ty : TypeId} {tys : List TypeId} {x x' v : Value} (hx : VR E x x') (h : lenA tb t m x = some v) :
    (Builtin.len_ ⟨t :: tys⟩ ty ⟨[x']⟩).run tb.p w = .ok v w ∧ VR E v v := by
  unfold lenA at h
  cases hx with
  | slNil l c =>
    obtain ⟨j, hj, h⟩ := oB_some.1 h
    split at h <;> first | (simp at h; done) | skip
    rename_i e hd
    simp only [Option.some.injEq, vInt_eq] at h; subst h
    exact ⟨by simp [Builtin.len_, run_ty ok hj, hd, goInt], .int _ _⟩
  | sl l c hE =>
    obtain ⟨j, hj, h⟩ := oB_some.1 h
    split at h <;> first | (simp at h; done) | skip
    rename_i e hd
    simp only [Option.some.injEq, vInt_eq] at h; subst h
    exact ⟨by simp [Builtin.len_, run_ty ok hj, hd, goInt], .int _ _⟩
  | slX l c hE =>
    obtain ⟨j, hj, h⟩ := oB_some.1 h
    split at h <;> first | (simp at h; done) | skip
    rename_i e hd
    simp only [Option.some.injEq, vInt_eq] at h; subst h
    exact ⟨by simp [Builtin.len_, run_ty ok hj, hd, goInt], .int _ _⟩
  | slD a b =>
    obtain ⟨j, hj, h⟩ := oB_some.1 h
    split at h <;> first | (simp at h; done) | skip
    rename_i e hd
    simp only [Option.some.injEq, vInt_eq] at h; subst h
    exact ⟨by simp [Builtin.len_, run_ty ok hj, hd, goInt], .int _ _⟩
  | slE0 hE hx =>
    obtain ⟨j, hj, h⟩ := oB_some.1 h
    split at h <;> first | (simp at h; done) | skip
    rename_i e hd
    simp only [Option.some.injEq, vInt_eq] at h; subst h
    exact ⟨by simp [Builtin.len_, run_ty ok hj, hd, goInt], .int _ _⟩
  | slE1 hE hx =>
    obtain ⟨j, hj, h⟩ := oB_some.1 h
    split at h <;> first | (simp at h; done) | skip
    rename_i e hd
    simp only [Option.some.injEq, vInt_eq] at h; subst h
    exact ⟨by simp [Builtin.len_, run_ty ok hj, hd, goInt], .int _ _⟩
  | string s =>
    obtain ⟨j, hj, h⟩ := oB_some.1 h
    split at h <;> first | (simp at h; done) | skip
    rename_i hd
    simp only [Option.some.injEq, vInt_eq] at h; subst h
    exact ⟨by simp [Builtin.len_, run_ty ok hj, hd, goInt], .int _ _⟩
  | mapNil =>
    obtain ⟨j, hj, h⟩ := oB_some.1 h
    split at h <;> first | (simp at h; done) | skip
    rename_i k e hd
    simp only [Option.some.injEq] at h; subst h
    exact ⟨by simp [Builtin.len_, run_ty ok hj, hd, goInt], .int _ _⟩
  | map hE =>
    obtain ⟨j, hj, h⟩ := oB_some.1 h
    split at h <;> first | (simp at h; done) | skip
    rename_i k e hd
    split at h <;> first | (simp at h; done) | skip
    rename_i es c hg
    simp only [Option.some.injEq, vInt_eq] at h; subst h
    obtain ⟨ob, h1, h2⟩ := H.objs _ _ _ hE hg rfl
    cases h2 with
    | map h2 =>
      refine ⟨?_, .int _ _⟩
      simp [Builtin.len_, run_ty ok hj, hd, goInt, getObj, Sem.run, h1, h2.length]
  | agg ha =>
    obtain ⟨j, hj, h⟩ := oB_some.1 h
    split at h <;> first | (simp at h; done) | skip
    rename_i n e hd
    simp only [Option.some.injEq] at h; subst h
    exact ⟨by simp [Builtin.len_, run_ty ok hj, hd, goInt], .int _ _⟩
  | ptrNil =>
    obtain ⟨j, hj, h⟩ := oB_some.1 h
    split at h <;> first | (simp at h; done) | skip
    rename_i arr hd
    obtain ⟨q, hq, h⟩ := oB_some.1 h
    split at h <;> first | (simp at h; done) | skip
    rename_i n e hd2
    simp only [Option.some.injEq] at h; subst h
    exact ⟨by simp [Builtin.len_, run_ty ok hj, hd, run_ty ok hq, hd2, goInt], .int _ _⟩
  | ptr hE =>
    obtain ⟨j, hj, h⟩ := oB_some.1 h
    split at h <;> first | (simp at h; done) | skip
    rename_i arr hd
    obtain ⟨q, hq, h⟩ := oB_some.1 h
    split at h <;> first | (simp at h; done) | skip
    rename_i n e hd2
    simp only [Option.some.injEq] at h; subst h
    exact ⟨by simp [Builtin.len_, run_ty ok hj, hd, run_ty ok hq, hd2, goInt], .int _ _⟩
  | _ => simp at h
theorem run_capA (ok : TabsOk tb) (H : MR tb.p N w0 E m w) {t : Nat} {ty : TypeId} {tys : List TypeId} {x x' v : Value} (hx : VR E x x') (h : capA tb t m x = some v) :
    (Builtin.cap_ ⟨t :: tys⟩ ty ⟨[x']⟩).run tb.p w = .ok v w ∧ VR E v v := by
  unfold capA at h
  cases hx with
  | slNil l c =>
    obtain ⟨j, hj, h⟩ := oB_some.1 h
    split at h <;> first | (simp at h; done) | skip
    rename_i e hd
    simp only [Option.some.injEq, vInt_eq] at h; subst h
    exact ⟨by simp [Builtin.cap_, run_ty ok hj, hd, goInt], .int _ _⟩
  | sl l c hE =>
    obtain ⟨j, hj, h1⟩ := oB_some.1 h
    split at h1 <;> first | (simp at h1; done) | skip
    rename_i e hd
    simp only at h1
    obtain ⟨r, hr, h2⟩ := oB_some.1 h1
    split at h2 <;> first | (simp at h2; done) | skip
    rename_i hx
    obtain ⟨cells, el, fr, hc1, hc2⟩ := H.row hE hr
    have hx0 := (hc2.exact' hx).2
    simp only [Option.some.injEq, vInt_eq] at h2; subst h2
    exact ⟨by simp [Builtin.cap_, run_ty ok hj, hd, goInt, hx0], .int _ _⟩
  | slX l c hE =>
    obtain ⟨j, hj, h⟩ := oB_some.1 h
    split at h <;> first | (simp at h; done) | skip
    rename_i e hd
    simp only [Option.some.injEq, vInt_eq] at h; subst h
    exact ⟨by simp [Builtin.cap_, run_ty ok hj, hd, goInt], .int _ _⟩
  | slD a b =>
    obtain ⟨j, hj, h1⟩ := oB_some.1 h
    split at h1 <;> first | (simp at h1; done) | skip
    rename_i e hd
    have hv : v = .int .i64 0 := by
      split at h1
      · simp only [Option.some.injEq, vInt_eq] at h1; exact h1.symm
      · cases h1
      · obtain ⟨r, hr, h2⟩ := oB_some.1 h1
        split at h2
        · cases h2
        · simp only [Option.some.injEq, vInt_eq] at h2; exact h2.symm
    subst hv
    exact ⟨by simp [Builtin.cap_, run_ty ok hj, hd, goInt], .int _ _⟩
  | slE0 hE hx =>
    obtain ⟨j, hj, h⟩ := oB_some.1 h
    split at h <;> simp at h
  | slE1 hE hx =>
    obtain ⟨j, hj, h⟩ := oB_some.1 h
    split at h <;> simp at h
  | _ => simp at h
theorem run_maxI {P : Program} {k : IntKind} : ∀ {x : Int} {l l' : List Value} {v : Value}, VRs E l l' → maxI k x l = some v → (l'.foldlM Builtin.max2 (.int k x) : Sem Value).run P w = .ok v w ∧ VR E v v := by
  intro x l
  induction l generalizing x with
  | nil => intro l' v hl h; cases hl; simp only [maxI, Option.some.injEq] at h; subst h; exact ⟨rfl, .int _ _⟩
  | cons y l ih =>
    intro l' v hl h
    cases hl with
    | cons hy hl =>
      cases hy <;> first | (simp [maxI] at h; done) | skip
      rename_i k' n
      simp only [maxI, intLt_eq] at h
      simp only [List.foldlM_cons, Builtin.max2, Sem.run_bind, Sem.run_pure, Result.andThen_ok]
      by_cases hlt : x < n
      · simp only [hlt, decide_true] at h
        have : n > x := hlt
        rw [if_pos this]; exact ih hl h
      · simp only [hlt, decide_false] at h
        have : ¬ n > x := hlt
        rw [if_neg this]; exact ih hl h
theorem run_minI {P : Program} {k : IntKind} : ∀ {x : Int} {l l' : List Value} {v : Value}, VRs E l l' → minI k x l = some v → (l'.foldlM Builtin.min2 (.int k x) : Sem Value).run P w = .ok v w ∧ VR E v v := by
  intro x l
  induction l generalizing x with
  | nil => intro l' v hl h; cases hl; simp only [minI, Option.some.injEq] at h; subst h; exact ⟨rfl, .int _ _⟩
  | cons y l ih =>
    intro l' v hl h
    cases hl with
    | cons hy hl =>
      cases hy <;> first | (simp [minI] at h; done) | skip
      rename_i k' n
      simp only [minI, intLt_eq] at h
      simp only [List.foldlM_cons, Builtin.min2, Sem.run_bind, Sem.run_pure, Result.andThen_ok]
      by_cases hlt : n < x
      · simp only [hlt, decide_true] at h
        rw [if_pos hlt]; exact ih hl h
      · simp only [hlt, decide_false] at h
        rw [if_neg hlt]; exact ih hl h
theorem zero_self (ok : TabsOk tb) : True := trivial
end
end Go.Ev
namespace Go.Ev
open Go.RowKit

section
variable {tb : Tabs} {N : Nat} {w0 : World} {E : Env} {m : Mem} {w : World}
theorem run_typeAssertA (ok : TabsOk tb) {x x' v : Value} {xt a : TypeId} {cok : Bool} (hx : VR E x x') (h : typeAssertA tb x a cok = some v) :
    ∃ v', (Instr.typeAssert x' xt a cok).run tb.p w = .ok v' w ∧ VR E v v' := by
  unfold typeAssertA at h
  obtain ⟨i, hi, h1⟩ := oB_some.1 h
  clear h
  have hu : (underlying a).run tb.p w = .ok i.d w := run_ty ok hi
  have hni : (∀ ms, i.d ≠ .interface ms) ∧ taV i a cok x = some v := by
    cases hd : i.d <;> rw [hd] at h1 <;> first | (simp at h1; done) | exact ⟨fun ms e => (by cases e), h1⟩
  obtain ⟨hni, h2⟩ := hni
  have hz : ∀ z, taFail i cok = some z → ∃ z0, cok = true ∧ z = .tuple #[z0, .bool false] ∧ (zeroValue a).run tb.p w = .ok z0 w ∧ VR E z0 z0 := by
    intro z hz
    unfold taFail at hz
    cases cok with
    | false => simp at hz
    | true =>
      obtain ⟨z0, hz0, hz1⟩ := oB_some.1 hz
      obtain ⟨hz2, hz3⟩ := zeroV_some ok hi hz0 E
      exact ⟨z0, rfl, (Option.some.inj hz1).symm, run_zero ok hi hz2, hz3⟩
  unfold Instr.typeAssert
  cases hx with
  | nilIface =>
    obtain ⟨z0, rfl, rfl, h3, h4⟩ := hz _ h2
    refine ⟨.tuple #[z0, .bool false], ?_, .tuple (.cons h4 (.cons (.bool _) .nil))⟩
    cases hd : i.d <;> first | exact absurd hd (hni _) | (rw [hd] at hu; simp [hu, h3])
  | iface t hv =>
    rename_i u u'
    simp only [taV] at h2
    cases hq : Nat.beq t a with
    | true =>
      rw [hq] at h2
      have := Nat.eq_of_beq_eq_true hq
      subst this
      simp only [Option.some.injEq] at h2; subst h2
      cases cok with
      | true =>
        refine ⟨.tuple #[u', .bool true], ?_, .tuple (.cons hv (.cons (.bool _) .nil))⟩
        cases hd : i.d <;> first | exact absurd hd (hni _) | (rw [hd] at hu; simp [hu])
      | false =>
        refine ⟨u', ?_, hv⟩
        cases hd : i.d <;> first | exact absurd hd (hni _) | (rw [hd] at hu; simp [hu])
    | false =>
      rw [hq] at h2
      have hne := Nat.ne_of_beq_eq_false hq
      obtain ⟨z0, rfl, rfl, h3, h4⟩ := hz _ h2
      refine ⟨.tuple #[z0, .bool false], ?_, .tuple (.cons h4 (.cons (.bool _) .nil))⟩
      cases hd : i.d <;> first | exact absurd hd (hni _) | (rw [hd] at hu; simp [hu, hne, h3])
  | _ => simp [taV] at h2

/-! ### keys -/
theorem forIn_unit2 {α : Type} {P : Program} {w : World} : ∀ (l : List α) (f : α → PUnit → Sem (ForInStep PUnit)), (∀ x ∈ l, (f x PUnit.unit).run P w = .ok (.yield PUnit.unit) w) → (forIn l PUnit.unit f : Sem PUnit).run P w = .ok PUnit.unit w
  | [], _, _ => rfl
  | x :: l, f, h => by
    rw [List.forIn_cons]
    simp only [Sem.run_bind, h x (by simp), Result.andThen_ok]
    exact forIn_unit2 l f fun y hy => h y (by simp [hy])
def basicD : TypeDesc → Bool
  | .int _ => true
  | .string => true
  | _ => false
theorem run_checkKey_basic (ok : TabsOk tb) {t : Nat} {i : TI} (hi : ti tb t = some i) (hb : basicD i.d = true) (em : Bool) (n : Nat) (v : Value) : (Instr.checkKey em (n + 1) t v).run tb.p w = .ok () w := by
  have hu : (underlying t).run tb.p w = .ok i.d w := run_ty ok hi
  simp only [Instr.checkKey, Sem.run_bind, hu, Result.andThen_ok]
  cases hd : i.d <;> rw [hd] at hb <;> first | (simp [basicD] at hb; done) | rfl
theorem run_checkKey (ok : TabsOk tb) {kt : Nat} {k k' : Value} (hk : VR E k k') (h : keyOk tb kt k = true) (em : Bool) (n : Nat) : (Instr.checkKey em (n + 2) kt k').run tb.p w = .ok () w := by
  unfold keyOk at h
  split at h
  · rename_i i q n' hi
    refine run_checkKey_basic ok hi ?_ em (n + 1) _
    split at h <;> first | (rename_i hd; rw [hd]; rfl) | (simp at h)
  · rename_i i s hi
    refine run_checkKey_basic ok hi ?_ em (n + 1) _
    split at h <;> first | (rename_i hd; rw [hd]; rfl) | (simp at h)
  · rename_i i cs hi
    split at h
    · rename_i fs hd
      cases hk with
      | agg hcs =>
      rw [Bool.and_eq_true] at h
      obtain ⟨h1, h2⟩ := h
      have hfl := (mkTI_some (ok.types kt i hi)).2.2.2.2.2.1
      rw [hfl, hd] at h2
      have hu : (underlying kt).run tb.p w = .ok (.struct fs) w := by rw [← hd]; exact run_ty ok hi
      obtain ⟨K, hK⟩ : ∃ K, K = n + 1 := ⟨_, rfl⟩
      show (Instr.checkKey em ((n + 1) + 1) kt _).run tb.p w = _
      rw [← hK]
      simp only [Instr.checkKey, Sem.run_bind, hu, Result.andThen_ok]
      rw [← Array.forIn_toList]
      have key : ∀ f ∈ fs.toList, (do if f.name ≠ "_" then Instr.checkKey em K f.type (← part f.type ⟨‹List Value›⟩ f.offset) : Sem Unit).run tb.p w = .ok () w := by
        intro f hf
        rw [List.all_map, List.all_eq_true] at h2
        have h3 := h2 f hf
        simp only [Function.comp, Bool.and_eq_true] at h3
        obtain ⟨⟨h4, h5⟩, h6⟩ := h3
        by_cases hn : f.name = "_"
        · simp [hn]
        · simp only [hn, ne_eq, not_false_eq_true, if_true, Sem.run_bind]
          split at h6
          · rename_i j _ _ hj hc
            obtain ⟨v', hv1, hv2⟩ := hcs.get _ _ hc
            have hbas : basicD j.d = true := by split at h6 <;> first | (rename_i hd'; rw [hd']; rfl) | (simp at h6)
            have hag : j.agg = false := by
              rw [ok.agg hj]; unfold basicD at hbas; unfold isAggD; split at hbas <;> simp_all
            have hp : (part f.type ⟨‹List Value›⟩ f.offset).run tb.p w = .ok v' w := by
              unfold part
              simp only [Sem.run_bind, run_isAgg ok hj, Result.andThen_ok, hag, Bool.false_eq_true, if_false]
              have : (⟨‹List Value›⟩ : Array Value)[f.offset]? = some v' := by simpa using hv1
              simp [this]
            simp only [hp, Result.andThen_ok]
            rw [hK]; exact run_checkKey_basic ok hj hbas em n _
          · rename_i j _ hj hc
            obtain ⟨v', hv1, hv2⟩ := hcs.get _ _ hc
            have hbas : basicD j.d = true := by split at h6 <;> first | (rename_i hd'; rw [hd']; rfl) | (simp at h6)
            have hag : j.agg = false := by
              rw [ok.agg hj]; unfold basicD at hbas; unfold isAggD; split at hbas <;> simp_all
            have hp : (part f.type ⟨‹List Value›⟩ f.offset).run tb.p w = .ok v' w := by
              unfold part
              simp only [Sem.run_bind, run_isAgg ok hj, Result.andThen_ok, hag, Bool.false_eq_true, if_false]
              have : (⟨‹List Value›⟩ : Array Value)[f.offset]? = some v' := by simpa using hv1
              simp [this]
            simp only [hp, Result.andThen_ok]
            rw [hK]; exact run_checkKey_basic ok hj hbas em n _
          · simp at h6
      rw [forIn_unit2 fs.toList _ fun f hf => ?_]
      · rfl
      · have := key f hf
        by_cases hn : f.name = "_"
        · simp [hn]
        · simp only [ne_eq, hn, not_false_eq_true, if_true, Sem.run_bind, Sem.run_pure] at this ⊢
          generalize (part f.type _ f.offset).run tb.p w = r1 at this ⊢
          cases r1 with
          | ok a w1 =>
            simp only [Result.andThen_ok] at this ⊢
            rw [this]; rfl
          | halt x w1 => simp at this
    · simp at h
  · simp at h
end
end Go.Ev
namespace Go.Ev
open Go.RowKit

section
variable {tb : Tabs} {N : Nat} {w0 : World} {E : Env} {m : Mem} {w : World}
inductive QR (E : Env) : Option (Nat × Value) → Option (Nat × Value) → Prop where
  | none : QR E none none
  | some (i : Nat) {v v' : Value} (h : VR E v v') : QR E (some (i, v)) (some (i, v'))
theorem EntR.get {E : Env} {l l' : List MapEntry} (h : EntR E l l') : ∀ (i : Nat) (e : MapEntry), l[i]? = some e → ∃ e', l'[i]? = some e' ∧ VR E e.key e'.key ∧ VR E e.val e'.val ∧ e'.born = e.born := by
  induction h with
  | nil => intro i e he; simp at he
  | cons hk hv _ ih =>
    intro i e he
    cases i with
    | zero => simp at he; subst he; exact ⟨⟨_, _, _⟩, rfl, hk, hv, rfl⟩
    | succ i => simp at he; obtain ⟨e', h1, h2⟩ := ih i e he; exact ⟨e', by simpa using h1, h2⟩
theorem run_keyFind (ok : TabsOk tb) (H : MR tb.p N w0 E m w) {kt : TypeId} {k k' : Value} (hk : VR E k k') : ∀ {es es' : List MapEntry}, EntR E es es' → ∀ {i : Nat} {q : Option (Nat × Value)}, keyFind tb m kt k es i = some q →
    ∃ q', (Instr.findAsking kt k' es' i).run tb.p w = .ok q' w ∧ QR E q q' ∧ (∀ j v, q = some (j, v) → i ≤ j ∧ ∃ e, es[j - i]? = some e ∧ e.val = v) := by
  intro es es' h
  induction h with
  | nil => intro i q hq; simp only [keyFind, Option.some.injEq] at hq; subst hq; exact ⟨none, by simp [Instr.findAsking], .none, by simp⟩
  | @cons k1 k1' v1 v1' b1 l l' hk1 hv1 _ ih =>
    intro i q hq
    simp only [keyFind] at hq
    obtain ⟨r, hr, hq⟩ := oB_some.1 hq
    have he := run_eqA ok H 64 _ _ _ _ _ _ hr hk hk1 10000 (by decide)
    have he' : (Op.equal kt k' _).run tb.p w = .ok r w := he
    simp only [Instr.findAsking, Sem.run_bind, he', Result.andThen_ok]
    cases r with
    | true =>
      simp only [Option.some.injEq] at hq; subst hq
      exact ⟨some (i, v1'), by simp, .some _ hv1, by rintro j v e; simp only [Option.some.injEq, Prod.mk.injEq] at e; obtain ⟨rfl, rfl⟩ := e; exact ⟨Nat.le_refl _, ⟨k1, v1, b1⟩, by simp, rfl⟩⟩
    | false =>
      simp only at hq
      obtain ⟨q', h1, h2, h3⟩ := ih hq
      refine ⟨q', by simpa using h1, h2, fun j v e => ?_⟩
      obtain ⟨h4, e', h5, h6⟩ := h3 j v e
      refine ⟨by omega, e', ?_, h6⟩
      obtain ⟨d, rfl⟩ : ∃ d, j = i + 1 + d := ⟨j - (i + 1), by omega⟩
      rw [show i + 1 + d - i = d + 1 from by omega]
      rw [show i + 1 + d - (i + 1) = d from by omega] at h5
      simpa using h5
theorem eqA_succ (tb : Tabs) (m : Mem) (d : Nat) (t : TypeId) (x y : Value) : eqA tb m (d + 1) t x y = oB (ti tb t) fun i =>
    match i.d with
    | .bool => eqBool x y
    | .int _ => eqInt x y
    | .string => eqStr x y
    | .pointer e => eqPt tb m e x y
    | .interface _ => eqIf tb (eqA tb m d) x y
    | .struct _ => eqSt tb (eqA tb m d) i x y
    | .array len elem => eqAr tb (eqA tb m d) len elem x y
    | .slice _ => eqSl x y
    | .map _ _ => eqMp x y
    | .func _ _ _ => eqFn x y
    | _ => none := rfl
/-- the model's quick look says the same -/
theorem findNow_same (ok : TabsOk tb) {kt : TypeId} {i0 : TI} (hi0 : ti tb kt = some i0) (m : Mem) {k k' : Value} (hk : VR E k k') : ∀ {es es' : List MapEntry}, EntR E es es' → ∀ {i : Nat} {q : Option (Nat × Value)} {r : Option (Nat × Value)},
    keyFind tb m kt k es i = some q → Instr.findNow i0.d k' es' i = some r → QR E q r := by
  intro es es' h
  induction h with
  | nil =>
    intro i q r hq hr
    simp only [keyFind, Option.some.injEq] at hq; subst hq
    simp only [Instr.findNow, Option.some.injEq] at hr; subst hr
    exact .none
  | cons hk1 hv1 _ ih =>
    rename_i k1 k1' v1 v1' b1 l l' _
    intro i q r hq hr
    simp only [keyFind] at hq
    obtain ⟨c, hc, hq⟩ := oB_some.1 hq
    have hsn : ∀ b, Instr.sameNow i0.d k' k1' = some b → b = c := by
      intro b hb
      rw [show (64 : Nat) = 63 + 1 from rfl, eqA_succ] at hc
      obtain ⟨i1, hi1, hc⟩ := oB_some.1 hc
      obtain rfl := Option.some.inj (hi0.symm.trans hi1)
      unfold Instr.sameNow at hb
      split at hb
      · rename_i kk k2 a k3 b' hd
        split at hb
        · rw [hd] at hc; simp only at hc
          cases hk; cases hk1
          simp only [eqInt, intEq_eq] at hc
          split at hc
          · simp only [Option.some.injEq] at hb hc; rw [← hb, ← hc]
          · simp at hc
        · simp at hb
      · rename_i a b' hd
        rw [hd] at hc; simp only at hc
        cases hk; cases hk1
        simp only [eqStr, bytesEq_eq, Option.some.injEq] at hb hc
        rw [← hb, ← hc, beq_toListBytes, toList_eq, toList_eq]
      · rename_i a b' hd
        rw [hd] at hc; simp only at hc
        cases hk; cases hk1
        simp only [eqBool, Option.some.injEq] at hb hc
        rw [← hb, ← hc]
      · simp at hb
    simp only [Instr.findNow] at hr
    cases hs : Instr.sameNow i0.d k' k1' with
    | none => rw [hs] at hr; simp at hr
    | some b =>
      rw [hs] at hr
      have := hsn b hs
      subst this
      cases b with
      | true =>
        simp only [Option.some.injEq] at hq hr; subst hq; subst hr
        exact .some _ hv1
      | false => exact ih hq hr
theorem run_findKey (ok : TabsOk tb) (H : MR tb.p N w0 E m w) {kt : TypeId} {k k' : Value} (hk : VR E k k') (hko : keyOk tb kt k = true) {es es' : List MapEntry} (hes : EntR E es es') {q : Option (Nat × Value)} (hq : keyFind tb m kt k es 0 = some q) :
    ∃ q', (Instr.findKey kt k' es').run tb.p w = .ok q' w ∧ QR E q q' ∧ (∀ j v, q = some (j, v) → ∃ e, es[j]? = some e ∧ e.val = v) := by
  obtain ⟨i0, hi0⟩ : ∃ i0, ti tb kt = some i0 := by
    unfold keyOk at hko
    split at hko <;> first | exact ⟨_, ‹_›⟩ | (simp at hko)
  obtain ⟨q', h1, h2, h3⟩ := run_keyFind ok H hk hes hq
  have h3' : ∀ j v, q = some (j, v) → ∃ e, es[j]? = some e ∧ e.val = v := fun j v e => by
    obtain ⟨_, e', h5, h6⟩ := h3 j v e
    exact ⟨e', by simpa using h5, h6⟩
  unfold Instr.findKey
  simp only [Sem.run_bind, run_ty ok hi0, Result.andThen_ok]
  cases hn : Instr.findNow i0.d k' es' 0 with
  | none => exact ⟨q', h1, h2, h3'⟩
  | some r => exact ⟨r, rfl, findNow_same ok hi0 m hk hes hq hn, h3'⟩
theorem mapOf_some {m : Mem} {r : Nat} {es : List MapEntry} {c : Nat} (h : mapOf m r = some (es, c)) : m.objs.get r = some (.map es c) := by
  unfold mapOf at h
  split at h
  · simp only [Option.some.injEq, Prod.mk.injEq] at h; obtain ⟨rfl, rfl⟩ := h; assumption
  · simp at h
theorem MR.map (H : MR tb.p N w0 E m w) {r : Nat} {i : Info} {es : List MapEntry} {c : Nat} (hE : E r = some i) (h : mapOf m r = some (es, c)) : ∃ es', w.heap[i.blk]? = some (.map ⟨es'⟩ c) ∧ EntR E es es' := by
  obtain ⟨ob, h1, h2⟩ := H.objs _ _ _ hE (mapOf_some h) rfl
  cases h2 with | map h2 => exact ⟨_, h1, h2⟩
theorem run_getMap {P : Program} {w : World} {b : Nat} {es : List MapEntry} {c : Nat} (h : w.heap[b]? = some (.map ⟨es⟩ c)) : (getObj b).run P w = .ok (.map ⟨es⟩ c) w := by
  simp [getObj, Sem.run, h]
theorem okTup_rel {cok : Bool} {v v' : Value} {b : Bool} (h : VR E v v') : VR E (okTup cok v b) (if cok then .tuple #[v', .bool b] else v') := by
  cases cok with
  | true => exact .tuple (.cons h (.cons (.bool _) .nil))
  | false => exact h
theorem run_lookupA (ok : TabsOk tb) (H : MR tb.p N w0 E m w) {t : TypeId} {x x' k k' v : Value} {cok : Bool} (hx : VR E x x') (hk : VR E k k') (h : lookupA tb t m x k cok = some v) :
    ∃ v', (Instr.lookup t x' k' cok).run tb.p w = .ok v' w ∧ VR E v v' := by
  unfold lookupA at h
  obtain ⟨i, hi, h1⟩ := oB_some.1 h
  clear h
  cases hd : i.d <;> rw [hd] at h1 <;> first | (simp at h1; done) | skip
  rename_i kt et
  simp only at h1
  cases hko : keyOk tb kt k with
  | false => rw [hko] at h1; simp at h1
  | true =>
  rw [hko] at h1; simp only at h1
  have hu : (underlying t).run tb.p w = .ok (.map kt et) w := by rw [← hd]; exact run_ty ok hi
  have hck := fun em => run_checkKey (tb := tb) (w := w) ok hk hko em 9998
  have hck' : ∀ em, (Instr.checkKey em 10000 kt k').run tb.p w = .ok () w := hck
  have hz : ∀ v, (oB (ti tb et) fun j => oB (zeroV j) fun z => some (okTup cok z false)) = some v → ∃ z, v = okTup cok z false ∧ (zeroValue et).run tb.p w = .ok z w ∧ VR E z z := by
    intro v hv
    obtain ⟨j, hj, hv⟩ := oB_some.1 hv
    obtain ⟨z, hz, hv⟩ := oB_some.1 hv
    obtain ⟨hz1, hz2⟩ := zeroV_some ok hj hz E
    exact ⟨z, (Option.some.inj hv).symm, run_zero ok hj hz1, hz2⟩
  unfold Instr.lookup
  cases hx with
  | mapNil =>
    simp only at h1
    obtain ⟨z, rfl, h2, h3⟩ := hz _ h1
    refine ⟨_, ?_, okTup_rel h3⟩
    simp [hu, hck', Instr.findKey, Instr.findNow, h2]
    have : ∃ i0, ti tb kt = some i0 := by
      unfold keyOk at hko
      split at hko <;> first | exact ⟨_, ‹_›⟩ | (simp at hko)
    obtain ⟨i0, hi0⟩ := this
    simp [run_ty ok hi0, h2]
  | map hE =>
    simp only at h1
    obtain ⟨⟨es, c⟩, hm, h2⟩ := oB_some.1 h1
    obtain ⟨q, hq, h3⟩ := oB_some.1 h2
    obtain ⟨es', hh, hes⟩ := H.map hE hm
    obtain ⟨q', h4, h5, h6⟩ := run_findKey ok H hk hko hes hq
    cases h5 with
    | none =>
      simp only at h3
      obtain ⟨z, rfl, h7, h8⟩ := hz _ h3
      refine ⟨_, ?_, okTup_rel h8⟩
      simp [hu, run_getMap hh, hck', h4, h7]
    | some j hv =>
      simp only [Option.some.injEq] at h3; subst h3
      refine ⟨_, ?_, okTup_rel hv⟩
      simp [hu, run_getMap hh, hck', h4]
  | _ => simp at h1
theorem find_born {E : Env} {s : Nat} : ∀ {es es' : List MapEntry}, EntR E es es' → ∀ {e : MapEntry}, es.find? (fun e => Nat.beq e.born s) = some e → ∃ e', es'.find? (fun e => e.born == s) = some e' ∧ VR E e.key e'.key ∧ VR E e.val e'.val := by
  intro es es' h
  induction h with
  | nil => intro e he; simp at he
  | @cons k k' v v' b l l' hk hv _ ih =>
    intro e he
    rw [List.find?_cons] at he
    simp only [beq_dec] at he
    by_cases hb : b = s
    · simp only [hb, decide_true, Option.some.injEq] at he; subst he
      exact ⟨⟨k', v', b⟩, by rw [List.find?_cons]; simp [hb], hk, hv⟩
    · simp only [hb, decide_false] at he
      obtain ⟨e', h1, h2⟩ := ih (e := e) (by simpa only [beq_dec] using he)
      have hb' : (b == s) = false := by simpa using hb
      exact ⟨e', by rw [List.find?_cons]; simp only [hb']; exact h1, h2⟩
theorem run_entryA (ok : TabsOk tb) (H : MR tb.p N w0 E m w) {it it' v : Value} (hit : VR E it it') (h : entryA m it = some v) :
    ∃ v', (Instr.entry it').run tb.p w = .ok v' w ∧ VR E v v' := by
  unfold entryA at h
  split at h <;> first | (simp at h; done) | skip
  rename_i b
  cases hit with
  | @ptr _ _ i hE =>
  split at h <;> first | (simp at h; done) | skip
  rename_i r since seen stepped hg
  split at h <;> first | (simp at h; done) | skip
  rename_i stamp hst
  obtain ⟨⟨es, c⟩, hm, h1⟩ := oB_some.1 h
  simp only at h1
  split at h1 <;> first | (simp at h1; done) | skip
  rename_i hc
  split at h1 <;> first | (simp at h1; done) | skip
  rename_i e he
  simp only [Option.some.injEq] at h1; subst h1
  have hc := Nat.eq_of_beq_eq_true hc
  subst hc
  obtain ⟨ob, h2, h3⟩ := H.objs _ _ _ hE hg rfl
  cases h3 with
  | @mapIter _ jj _ _ _ hs hr =>
    obtain ⟨es', hh, hes⟩ := H.map hr hm
    obtain ⟨e', h4, h5, h6⟩ := find_born hes he
    refine ⟨_, ?_, .tuple (.cons h5 (.cons h6 .nil))⟩
    unfold Instr.entry
    have hit : (getObj i.blk).run tb.p w = .ok (.mapIter (some jj.blk) since ⟨seen⟩ c) w := by simp [getObj, Sem.run, h2]
    have hb : (⟨seen⟩ : Array Nat).back? = some stamp := by simpa using hst
    simp only [hs, Nat.add_zero]
    simp only [Sem.run_bind, hit, Result.andThen_ok, hb, run_getMap hh]
    have hf : (⟨es'⟩ : Array MapEntry).find? (fun e => e.born == stamp) = some e' := by simpa using h4
    simp [hf]
end
end Go.Ev
namespace Go.Ev
open Go.RowKit

section
variable {tb : Tabs} {N : Nat} {w0 : World} {E : Env} {m : Mem} {w : World}
theorem u8s_self : ∀ l : List UInt8, VRs E (u8s l) (u8s l)
  | [] => .nil
  | b :: l => by
    refine .cons ?_ (u8s_self l)
    simp only [byteV, fNat_eq]; exact .int _ _
theorem u8s_eq : ∀ l : List UInt8, u8s l = l.map fun b => Value.int .u8 b.toNat
  | [] => rfl
  | b :: l => by simp only [u8s, byteV, fNat_eq, List.map_cons, u8s_eq l]; rfl
theorem bytesL_some : ∀ {l l' : List Value} {bs : List UInt8}, VRs E l l' → bytesL l = some bs → ∃ ns : List Nat, l' = ns.map (fun (n : Nat) => Value.int .u8 (n : Int)) ∧ bs = ns.map UInt8.ofNat
  | [], l', bs, hl, h => by
    cases hl
    simp only [bytesL, Option.some.injEq] at h; subst h
    exact ⟨[], rfl, rfl⟩
  | v :: l, l', bs, hl, h => by
    cases hl with
    | cons hv hl =>
      unfold bytesL at h
      split at h
      · rename_i h1; simp at h1
      · rename_i n l0 he
        obtain ⟨rfl, rfl⟩ := List.cons.inj he
        obtain ⟨r, hr, h⟩ := oB_some.1 h
        simp only [Option.some.injEq] at h; subst h
        cases hv
        obtain ⟨ns, h1, h2⟩ := bytesL_some hl hr
        exact ⟨n :: ns, by simp [h1], by simp [h2]⟩
      · simp at h
theorem foldl_push : ∀ (ns : List Nat) (acc : ByteArray), (ns.map fun (n : Nat) => (n : Int)).foldl (fun r n => r.push (UInt8.ofNat n.toNat)) acc = ⟨⟨acc.data.toList ++ ns.map UInt8.ofNat⟩⟩
  | [], acc => by simp
  | n :: ns, acc => by
    simp only [List.map_cons, List.foldl_cons, foldl_push ns]
    simp [ByteArray.push]
theorem run_bytesAt (H : MR tb.p N w0 E m w) {b o n : Nat} {i : Info} (hE : E b = some i) {s : ByteArray} (h : bytesAt m b o n = some s) (cap : Nat) :
    (Conv.bytesToString (.slice (some ⟨i.blk, i.shift + o, none⟩) n cap)).run tb.p w = .ok (.string s) w ∧ ∃ l : List Nat, s = ⟨⟨l.map UInt8.ofNat⟩⟩ ∧ l.length = n ∧ ∀ (j x : Nat), l[j]? = some x → w.cell? ⟨i.blk, i.shift + o + j, none⟩ = some (.int .u8 (x : Int)) := by
  unfold bytesAt at h
  obtain ⟨r, hr, h⟩ := oB_some.1 h
  obtain ⟨l, hl, h⟩ := oB_some.1 h
  obtain ⟨bs, hb, h⟩ := oB_some.1 h
  simp only [Option.some.injEq] at h; subst h
  obtain ⟨l', h1, h2, h3⟩ := H.cells hE hr hl
  obtain ⟨ns, rfl, rfl⟩ := bytesL_some h1 hb
  have hlen : ns.length = n := by simpa using h2
  have hrun := run_loadCells_list (P := tb.p) (w := w) ⟨i.blk, i.shift + o, none⟩ (ns.map fun (n : Nat) => Value.int .u8 (n : Int)) (fun j v hv => by rw [add_none]; exact h3 j v hv)
  rw [show (ns.map fun (n : Nat) => Value.int .u8 (n : Int)).length = n from by simpa using hlen] at hrun
  refine ⟨?_, ns, rfl, hlen, fun j x hx => h3 j _ (by simp [hx])⟩
  have := run_bytesToString (P := tb.p) w ⟨i.blk, i.shift + o, none⟩ n cap (ns.map fun (n : Nat) => (n : Int)) (by rw [List.map_map]; exact hrun)
  rw [this, foldl_push]
  rfl
/-- what reads alone -/
def RdOk (tb : Tabs) (E : Env) (w : World) (v : Value) (s : Sem Value) : Prop := ∃ v', s.run tb.p w = .ok v' w ∧ VR E v v'
/-- what makes an object: for a name that waits -/
def MkOk (tb : Tabs) (E : Env) (w : World) (ob : AObj) (mk : Nat → Value) (s : Sem Value) : Prop :=
  ∀ b, E b = none → ∃ v' w' o' sh ex, s.run tb.p w = .ok v' w' ∧ w'.heap = w.heap.push o' ∧ w'.os = w.os ∧ w'.tape = w.tape ∧ w'.output = w.output ∧
    ObjR tb.p (E.add b ⟨w.heap.size, sh, ex⟩) ⟨w.heap.size, sh, ex⟩ ob o' ∧ VR (E.add b ⟨w.heap.size, sh, ex⟩) (mk b) v' ∧ ob.own = true
/-- what writes -/
def WrOk (tb : Tabs) (N : Nat) (w0 : World) (E : Env) (m : Mem) (w : World) (v : Value) (m' : Mem) (s : Sem Value) : Prop :=
  ∃ v' w' E', s.run tb.p w = .ok v' w' ∧ VR E' v v' ∧ MR tb.p N w0 E' m' w' ∧ MExt m.next E m E' m'
theorem rowR_new {P : Program} {E : Env} {blk ex sz : Nat} {elem : TypeId} {l l' rest : List Value} {fz : Fz} {ext : Bool} {fr : Nat × Nat} (h : VRs E l l') (hr : rest.length = ex * sz) (hx : ext = false → ex = 0)
    (hf : FzR fz 0 (l'.length + rest.length) fr) :
    RowR sz E ⟨T.ofList l, l.length, [], elem, fz, ext⟩ ⟨blk, 0, ex⟩ ⟨l' ++ rest⟩ elem fr := by
  refine ⟨rfl, ?_, ?_, fun e => ⟨rfl, hx e⟩, ?_⟩
  · intro j v hv
    simp only [cellAt, T.get_ofList] at hv
    split at hv <;> first | (simp at hv; done) | skip
    split at hv
    · rename_i u hu
      simp only [Option.some.injEq] at hv; subst hv
      obtain ⟨v', h1, h2⟩ := h.get j u hu
      refine ⟨v', ?_, h2⟩
      have hlt : j < l'.length := (List.getElem?_eq_some_iff.1 h1).1
      have : (⟨l' ++ rest⟩ : Array Value)[0 + j]? = (l' ++ rest)[j]? := by simp
      rw [this, List.getElem?_append_left hlt]; exact h1
    · simp at hv
  · show (l' ++ rest).length = _
    rw [List.length_append, hr, ← h.length]; simp
  · show FzR fz 0 (l' ++ rest).length fr
    rw [List.length_append]; exact hf
theorem rowObj_new {P : Program} {E : Env} {blk ex : Nat} {elem : TypeId} {l l' rest : List Value} {fz : Fz} {ext : Bool} {fr : Nat × Nat} (h : VRs E l l') (hr : rest.length = ex * P.cellsOf elem) (hx : ext = false → ex = 0)
    (hf : FzR fz 0 (l'.length + rest.length) fr) : ObjR P E ⟨blk, 0, ex⟩ (rowObj elem l fz ext) (.cells ⟨l' ++ rest⟩ elem fr) :=
  .row (rowR_new (P := P) h hr hx hf)
theorem cells_freshE {b : Nat} {i : Info} (hb : E b = none) {l l' : List Value} (h : VRs E l l') : VRs (E.add b i) l l' := h.mono (Env.add_le hb)
theorem cellsOf_elem (ok : TabsOk tb) {e : Nat} {j : TI} (hj : ti tb e = some j) : tb.p.cellsOf e = j.inf.size := ok.cellsOf hj
theorem run_convPtr (ok : TabsOk tb) (H : MR tb.p N w0 E m w) {src dst : TypeId} {s d : TI} (hs : ti tb src = some s) (hd : ti tb dst = some d) {a : Addr} {x' v : Value} (hx : VR E (.pointer (some a)) x') (h : convPtr tb m s.d d.d a = .r v) :
    RdOk tb E w v (convert src dst x') := by
  cases hx with
  | @ptr b o i hE =>
  unfold convPtr at h
  cases hsd : s.d <;> rw [hsd] at h <;> first | (simp at h; done) | skip
  · -- unsafe.Pointer to a pointer
    simp only at h
    cases hdd : d.d <;> rw [hdd] at h <;> first | (simp at h; done) | skip
    rename_i u
    simp only at h
    split at h <;> first | (simp at h; done) | skip
    rename_i j r hj hr
    split at h <;> first | (simp at h; done) | skip
    rename_i sz hx hsz hlie
    simp only [OR.r.injEq] at h; subst h
    obtain ⟨cells, el, fr, h1, h2⟩ := H.row hE hr
    obtain ⟨e1, e2⟩ := h2.exact' hx
    refine ⟨_, ?_, .ptr hE⟩
    have hsh : w.shape? i.blk = some (el, cells.size) := by simp [World.shape?, h1]
    have hv : liesAt tb.p tb.p.depth el (cells.size / tb.p.cellsOf el) (i.shift + o) u 1 = true := by
      rw [h2.elem, h2.size, e1, e2]; simpa using hlie
    simp [convert, run_ty ok hs, run_ty ok hd, hsd, hdd, Conv.unsafePointer, Conv.seenAt, viewAt, hsh, run_size ok hj, hsz, variablesAt, hv]
  · rename_i e
    simp only at h
    cases hdd : d.d <;> rw [hdd] at h <;> first | (simp at h; done) | skip
    simp only at h
    split at h <;> first | (simp at h; done) | skip
    rename_i j r hj hr
    split at h <;> first | (simp at h; done) | skip
    rename_i sz hsz hlt
    simp only [OR.r.injEq] at h; subst h
    obtain ⟨cells, el, fr, h1, h2⟩ := H.row hE hr
    have hlt' : o < r.n := by simpa [Nat.blt_eq] using hlt
    refine ⟨_, ?_, .ptr hE⟩
    have hsh : w.shape? i.blk = some (el, cells.size) := by simp [World.shape?, h1]
    have hn : ¬ (i.shift + o ≥ cells.size) := by rw [h2.size]; omega
    simp [convert, run_ty ok hs, run_ty ok hd, hsd, hdd, Conv.unsafePointer, Conv.seenAt, viewAt, hsh, cellsIn, run_size ok hj, hsz]
    omega
end
end Go.Ev
namespace Go.Ev
open Go.RowKit

theorem modify_push {α : Type} (h : Array α) (x : α) (f : α → α) : (h.push x).modify h.size f = h.push (f x) := by
  apply Array.ext_getElem?
  intro k
  rw [Array.getElem?_modify, Array.getElem?_push, Array.getElem?_push]
  by_cases e : k = h.size
  · subst e; simp
  · rw [if_neg (fun h => e h.symm), if_neg e, if_neg e]
section
variable {tb : Tabs} {N : Nat} {w0 : World} {E : Env} {m : Mem} {w : World}
theorem run_convStrBytes (ok : TabsOk tb) {e : TypeId} {j : TI} (hj : ti tb e = some j) (hsz : j.inf.size = 1) (s : ByteArray) :
    MkOk tb E w (rowObj e (u8s s.data.toList) .str true) (fun r => .slice (some ⟨r, 0, none⟩) s.data.toList.length s.data.toList.length) (Conv.stringToBytes e s) := by
  intro b hb
  have hle := Env.add_le (i := ⟨w.heap.size, 0, w.tape w.drawn (.appendCap s.size 0 e) % (2 ^ 63 - s.size)⟩) hb
  generalize hx : w.tape w.drawn (.appendCap s.size 0 e) % (2 ^ 63 - s.size) = x at hle
  have hcut : (Question.appendCap s.size 0 e).cut (w.tape w.drawn (.appendCap s.size 0 e)) = s.size + x := by
    show s.size + _ % (2 ^ 63 - s.size) = _
    rw [hx]
  have hsl : s.data.toList.length = s.size := rfl
  have hcells : ((s.data.map fun b => Value.int .u8 (b.toNat : Int)) ++ Array.replicate x (.int .u8 0) : Array Value) = ⟨u8s s.data.toList ++ List.replicate x (.int .u8 0)⟩ := by
    apply Array.ext'
    simp [u8s_eq]
  have hsh : ∀ c : Array Value, World.shape? { w with drawn := w.drawn + 1, heap := w.heap.push (.cells c e) } w.heap.size = some (e, c.size) := by
    intro c
    simp [World.shape?]
  have hfz : ∀ c : Array Value, (World.freeze { w with drawn := w.drawn + 1, heap := w.heap.push (.cells c e) } ⟨w.heap.size, c.size, none⟩ 1) =
      { w with drawn := w.drawn + 1, heap := w.heap.push (.cells c e (c.size, c.size + 1)) } := by
    intro c
    simp only [World.freeze, Nat.one_ne_zero, if_false]
    congr 1
    rw [modify_push]
    simp
  refine ⟨.slice (some ⟨w.heap.size, 0, none⟩) s.size (s.size + x), { w with drawn := w.drawn + 1, heap := w.heap.push (.cells ⟨u8s s.data.toList ++ List.replicate x (.int .u8 0)⟩ e (s.size + x, s.size + x + 1)) }, _, 0, x, ?_, rfl, rfl, rfl, rfl, ?_, ?_, rfl⟩
  · unfold Conv.stringToBytes
    simp only [Sem.run_bind, run_choose, Question.forced, Bool.false_eq_true, if_false, Result.andThen_ok, hcut, newRow, run_newObj, Sem.run_pure, markStringish, run_shape, Nat.add_sub_cancel_left, hsh, run_freeze, hfz, hcells]
    have : (⟨u8s s.data.toList ++ List.replicate x (.int .u8 0)⟩ : Array Value).size = s.size + x := by
      simp [u8s_eq]
    rw [this]
  · refine rowObj_new ((u8s_self _)) ?_ (by simp) ?_
    · rw [ok.cellsOf hj, hsz]; simp
    · right; simp [u8s_eq]
  · rw [hsl]
    have := VR.sl (E := E.add b ⟨w.heap.size, 0, x⟩) (b := b) (o := 0) s.size s.size Env.add_at
    simpa using this
/-- what an operation comes to, as the model has it -/
def OpRes (tb : Tabs) (N : Nat) (w0 : World) (E : Env) (m : Mem) (w : World) (r : OR) (s : Sem Value) : Prop :=
  match r with
  | .r v => RdOk tb E w v s
  | .f ob mk => MkOk tb E w ob mk s
  | .e v m' => WrOk tb N w0 E m w v m' s
  | .c => True
  | .bad => True
theorem run_convStr (ok : TabsOk tb) {src dst : TypeId} {s d : TI} (hs : ti tb src = some s) (hd : ti tb dst = some d) (b : ByteArray) :
    OpRes tb N w0 E m w (convStr tb s.d d.d b) (convert src dst (.string b)) := by
  unfold convStr
  cases hsd : s.d <;> simp only <;> first | exact trivial | skip
  cases hdd : d.d <;> simp only <;> first | exact trivial | skip
  · exact ⟨.string b, by simp [convert, run_ty ok hs, run_ty ok hd, hsd, hdd], .string b⟩
  · rename_i e
    cases hj : ti tb e with
    | none => exact trivial
    | some j =>
      simp only
      split
      · rename_i hjd hsz
        have hsz := Nat.eq_of_beq_eq_true hsz
        have := run_convStrBytes (E := E) (w := w) ok hj hsz b
        intro k hk
        obtain ⟨v', w', o', sh, ex, h1, h2⟩ := this k hk
        exact ⟨v', w', o', sh, ex, by simpa [convert, run_ty ok hs, run_ty ok hd, hsd, hdd, run_ty ok hj, hjd] using h1, h2⟩
      · exact trivial
theorem run_convNilSl (ok : TabsOk tb) {src dst : TypeId} {s d : TI} (hs : ti tb src = some s) (hd : ti tb dst = some d) (l c : Nat) :
    OpRes tb N w0 E m w (convNilSl tb s.d d.d) (convert src dst (.slice none l c)) := by
  unfold convNilSl
  cases hsd : s.d <;> simp only <;> first | exact trivial | skip
  cases hdd : d.d <;> simp only <;> first | exact trivial | skip
  rename_i e
  cases hj : ti tb e with
  | none => exact trivial
  | some j =>
    simp only
    split
    · rename_i hjd
      exact ⟨.string .empty, by simp [convert, run_ty ok hs, run_ty ok hd, hsd, hdd, run_ty ok hj, hjd, Conv.bytesToString], .string _⟩
    · exact trivial
theorem freeze_eq {w : World} {k : Nat} {cells : Array Value} {el : TypeId} {fr : Nat × Nat} (h : w.heap[k]? = some (.cells cells el fr)) {o n : Nat} (hn : n ≠ 0) :
    (w.freeze ⟨k, o, none⟩ n).heap[k]? = some (.cells cells el (if fr.1 = fr.2 then (o, o + n) else (min fr.1 o, max fr.2 (o + n)))) ∧
    (∀ j, j ≠ k → (w.freeze ⟨k, o, none⟩ n).heap[j]? = w.heap[j]?) ∧ (w.freeze ⟨k, o, none⟩ n).heap.size = w.heap.size ∧ (w.freeze ⟨k, o, none⟩ n).os = w.os ∧ (w.freeze ⟨k, o, none⟩ n).tape = w.tape ∧ (w.freeze ⟨k, o, none⟩ n).output = w.output := by
  unfold World.freeze
  rw [if_neg hn]
  refine ⟨?_, ?_, by simp, rfl, rfl, rfl⟩
  · simp only [Array.getElem?_modify, if_true, h]
    obtain ⟨lo, hi⟩ := fr
    simp
  · intro j hj
    simp only [Array.getElem?_modify]
    rw [if_neg (fun e => hj e.symm)]
/-- a row is marked -/
theorem MR.mark (H : MR tb.p N w0 E m w) {b : Nat} {i : Info} {r : Row} (hE : E b = some i) (h : rowW m b = some r) {cells : Array Value} {el : TypeId} {fr fr' : Nat × Nat} (hh : w.heap[i.blk]? = some (.cells cells el fr)) (hr : RowR (tb.p.cellsOf r.elem) E r i cells el fr)
    {fz : Fz} {w' : World} (h1 : w'.heap[i.blk]? = some (.cells cells el fr')) (h2 : ∀ j, j ≠ i.blk → w'.heap[j]? = w.heap[j]?) (h3 : w'.heap.size = w.heap.size) (h4 : w'.os = w.os) (h5 : w'.tape = w.tape) (h6 : w'.output = w.output)
    (hf : FzR fz i.shift cells.size fr') : MR tb.p N w0 E (putObj m b (.row ⟨r.ov, r.n, r.z, r.elem, fz, r.ext⟩)) w' :=
  H.put hE (rowW_some h) rfl (.inl rfl) h3 h2 h4 h5 h6 fun _ => ⟨_, h1, .row ⟨hr.elem, hr.cell, hr.size, hr.exact', hf⟩⟩
theorem run_convSl (ok : TabsOk tb) (H : MR tb.p N w0 E m w) {src dst : TypeId} {s d : TI} (hs : ti tb src = some s) (hd : ti tb dst = some d) {a : Addr} {l c : Nat} {x' : Value} (hx : VR E (.slice (some a) l c) x') :
    OpRes tb N w0 E m w (convSl tb m (Nat.beq src dst) s.d d.d (.slice (some a) l c) a l) (convert src dst x') := by
  obtain ⟨b, o, sp⟩ := a
  have hx2 : (∃ i o' c', E b = some i ∧ x' = .slice (some ⟨i.blk, o', none⟩) l c' ∧ (l ≠ 0 → o' = i.shift + o)) ∨ (l = 0 ∧ ∃ a', x' = .slice (some a') 0 0) := by
    cases hx with
    | sl l c h => exact .inl ⟨_, _, _, h, rfl, fun _ => rfl⟩
    | slX l c h => exact .inl ⟨_, _, _, h, rfl, fun _ => rfl⟩
    | slE0 h hx => exact .inl ⟨_, _, _, h, rfl, fun _ => rfl⟩
    | slE1 h hx => exact .inl ⟨_, _, _, h, rfl, fun h => absurd rfl h⟩
    | slD a b => exact .inr ⟨rfl, _, rfl⟩
  rcases hx2 with ⟨i, o', c', hE, rfl, ho⟩ | ⟨rfl, a', rfl⟩
  case inr =>
    unfold convSl
    cases hsd : s.d <;> simp only <;> first | exact trivial | skip
    rename_i e
    cases hdd : d.d <;> simp only <;> first | exact trivial | skip
    · cases hj : ti tb e with
      | none => exact trivial
      | some j =>
        simp only
        split
        · rename_i hjd
          refine ⟨.string .empty, ?_, .string _⟩
          have := run_bytesToString (P := tb.p) w a' 0 0 [] (by simp [loadCells, loadCellsFrom])
          simpa [convert, run_ty ok hs, run_ty ok hd, hsd, hdd, run_ty ok hj, hjd] using this
        · exact trivial
    · split <;> first | exact trivial | (exfalso; simp_all; done)
  unfold convSl
  cases hsd : s.d <;> simp only <;> first | exact trivial | skip
  rename_i e
  cases hdd : d.d <;> simp only <;> first | exact trivial | skip
  · cases hj : ti tb e with
    | none => exact trivial
    | some j =>
      simp only
      split
      · rename_i hjd
        cases l with
        | zero =>
          refine ⟨.string .empty, ?_, .string _⟩
          have := run_bytesToString (P := tb.p) w ⟨i.blk, o', none⟩ 0 c' [] (by simp [loadCells, loadCellsFrom])
          simpa [convert, run_ty ok hs, run_ty ok hd, hsd, hdd, run_ty ok hj, hjd] using this
        | succ l =>
          simp only
          cases hb : bytesAt m b o (l + 1) with
          | none => exact trivial
          | some s =>
            obtain ⟨h1, _⟩ := run_bytesAt H hE hb c'
            obtain rfl := ho (by simp)
            exact ⟨.string s, by simpa [convert, run_ty ok hs, run_ty ok hd, hsd, hdd, run_ty ok hj, hjd] using h1, .string _⟩
      · exact trivial
  · rename_i e'
    split <;> first | exact trivial | skip
    rename_i j l1 hsame hj
    split <;> first | exact trivial | skip
    rename_i hjd
    have hsame := Nat.eq_of_beq_eq_true hsame
    cases hr : rowW m b with
    | none => exact trivial
    | some r =>
      simp only
      obtain ⟨cells, el, fr, h1, h2⟩ := H.row hE (rowOf_of_rowW hr)
      have hsh : w.shape? i.blk = some (el, cells.size) := by simp [World.shape?, h1]
      have hrun : (convert src dst (.slice (some ⟨i.blk, o', none⟩) (l1 + 1) c')).run tb.p w = .ok (.slice (some ⟨i.blk, o', none⟩) (l1 + 1) c') (w.freeze ⟨i.blk, cells.size, none⟩ 1) := by
        subst hsame
        obtain rfl := Option.some.inj (hs.symm.trans hd)
        rw [hsd] at hdd
        cases hdd
        simp [convert, run_ty ok hs, hsd, run_ty ok hj, hjd, markStringish, hsh]
      obtain ⟨g1, g2, g3, g4, g5, g6⟩ := freeze_eq h1 (o := cells.size) (n := 1) (by simp)
      cases hz : r.fz with
      | none =>
        have hf := h2.fz; rw [hz] at hf
        have hf : fr.1 = fr.2 := hf
        exact ⟨_, _, E, hrun, hx, H.mark hE hr h1 h2 g1 g2 g3 g4 g5 g6 (by rw [if_pos hf]; exact Or.inr (Nat.le_refl _)), MExt.put _ hE⟩
      | str =>
        have hf := h2.fz; rw [hz] at hf
        have hf : fr.1 = fr.2 ∨ cells.size ≤ fr.1 := hf
        have hM := H.mark (fz := .str) hE hr h1 h2 g1 g2 g3 g4 g5 g6 (by
          by_cases e : fr.1 = fr.2
          · rw [if_pos e]; exact Or.inr (Nat.le_refl _)
          · rw [if_neg e]; rcases hf with hf | hf
            · exact absurd hf e
            · exact Or.inr (by simp only [Nat.min_def]; split <;> omega))
        refine ⟨_, _, E, hrun, hx, ?_, .refl _ _ _⟩
        refine ⟨?_, hM.ub, H.dom, H.inj, H.own, hM.base, hM.size⟩
        intro k i' q hk hq hl
        by_cases ek : k = b
        · subst ek
          obtain rfl := Option.some.inj (hE.symm.trans hk)
          rw [rowW_some hr] at hq
          obtain rfl := Option.some.inj hq
          obtain ⟨ob, h5, h6⟩ := hM.objs k i _ hE (by rw [get_putObj, if_pos rfl]) rfl
          refine ⟨ob, h5, ?_⟩
          obtain ⟨_, _, _, _, _, _⟩ := r
          simp only at hz; subst hz
          exact h6
        · exact hM.objs k i' q hk (by rw [get_putObj, if_neg ek]; exact hq) hl
      | rng lo hi => exact trivial
theorem run_opConv (ok : TabsOk tb) (H : MR tb.p N w0 E m w) {src dst : TypeId} {x x' : Value} (hx : VR E x x') : OpRes tb N w0 E m w (opConv tb m src dst x) (convert src dst x') := by
  unfold opConv
  cases hs : ti tb src with
  | none => exact trivial
  | some s =>
  cases hd : ti tb dst with
  | none => exact trivial
  | some d =>
  simp only
  cases x with
  | int k n =>
    cases hx
    simp only
    split
    · rename_i k' hdd
      exact ⟨.int k' (k'.wrap n), by simp [convert, run_ty ok hs, run_ty ok hd, hdd, Conv.intToInt], by rw [vInt, fInt_eq, wrapF_eq]; exact .int _ _⟩
    · exact trivial
  | string b => cases hx; exact run_convStr ok hs hd b
  | slice a l c =>
    cases a with
    | none => cases hx; exact run_convNilSl ok hs hd _ _
    | some a => exact run_convSl ok H hs hd hx
  | pointer a =>
    cases a with
    | none => exact trivial
    | some a =>
      simp only
      cases hc : convPtr tb m s.d d.d a with
      | r v => exact run_convPtr ok H hs hd hx hc
      | c => exact trivial
      | bad => exact trivial
      | f ob mk => simp only [convPtr] at hc; (repeat (split at hc <;> try (simp at hc; done)))
      | e v m' => simp only [convPtr] at hc; (repeat (split at hc <;> try (simp at hc; done)))
  | _ => exact trivial
end
end Go.Ev
