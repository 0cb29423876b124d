/- ref Print. -/
import Derived.Test.YtgmkbdmgifdfeaaGreatDoorSp8
set_option linter.unusedSimpArgs false
set_option linter.unusedVariables false
set_option maxRecDepth 8000
namespace Go.Proofs.YtgmkbdmgifdfeaaGreatDoor
open Go Go.Ev
theorem chain_ok {kn : Nat} (h1 : 1 ≤ kn) (h2 : kn ≤ 22) {n0 p b0 : Nat} {s : Stp} {d c : Value} {m0 m : Mem} {out : List UInt8} {g : Bool} {ts : List Value} (hts : ts.length = 223) (g32 : gx ts 26 = .string ⟨⟨wordOf kn⟩⟩) (hL : LI n0 p b0 kn s d c m0 out g m) (hp : PowAt m0) (hp0 : 0 < n0) (hR : s.R)
    (hd : SlOld n0 m0 d s.data.length (u8s s.data)) (hc : SlOld n0 m0 c s.choices.length (i64s s.choices)) (hb : out.length + 100 * s.choices.length + 20 * s.data.length ≤ 800000000) :
    wpX tb ⟨37, .normal, none⟩ sChain ([.pointer (some ⟨p, 0, none⟩), .agg ⟨rowCells kn⟩, .agg ⟨stpCells s d c⟩, undef, .pointer (some ⟨b0, 0, none⟩), .pointer (some ⟨b0 + 1, 0, none⟩)] ++ ts) [] m (fun e l' ds' m' => e = .normal ∧ ds' = [] ∧ LI n0 p b0 kn s d c m0 (out ++ (fieldsOf kn).flatMap fun f => f.text s) (g || stepGreatK kn s) m' ∧ Sl [.pointer (some ⟨p, 0, none⟩), .agg ⟨rowCells kn⟩, .agg ⟨stpCells s d c⟩, undef, .pointer (some ⟨b0, 0, none⟩), .pointer (some ⟨b0 + 1, 0, none⟩)] 223 l') :=
  match kn, h1, h2 with
  | 1, _, _ => chain1 hts g32 hL hp hp0 hR hd hc hb | 2, _, _ => chain2 hts g32 hL hp hp0 hR hd hc hb | 3, _, _ => chain3 hts g32 hL hp hp0 hR hd hc hb | 4, _, _ => chain4 hts g32 hL hp hp0 hR hd hc hb
  | 5, _, _ => chain5 hts g32 hL hp hp0 hR hd hc hb | 6, _, _ => chain6 hts g32 hL hp hp0 hR hd hc hb | 7, _, _ => chain7 hts g32 hL hp hp0 hR hd hc hb | 8, _, _ => chain8 hts g32 hL hp hp0 hR hd hc hb
  | 9, _, _ => chain9 hts g32 hL hp hp0 hR hd hc hb | 10, _, _ => chain10 hts g32 hL hp hp0 hR hd hc hb | 11, _, _ => chain11 hts g32 hL hp hp0 hR hd hc hb | 12, _, _ => chain12 hts g32 hL hp hp0 hR hd hc hb
  | 13, _, _ => chain13 hts g32 hL hp hp0 hR hd hc hb | 14, _, _ => chain14 hts g32 hL hp hp0 hR hd hc hb | 15, _, _ => chain15 hts g32 hL hp hp0 hR hd hc hb | 16, _, _ => chain16 hts g32 hL hp hp0 hR hd hc hb
  | 17, _, _ => chain17 hts g32 hL hp hp0 hR hd hc hb | 18, _, _ => chain18 hts g32 hL hp hp0 hR hd hc hb | 19, _, _ => chain19 hts g32 hL hp hp0 hR hd hc hb | 20, _, _ => chain20 hts g32 hL hp hp0 hR hd hc hb
  | 21, _, _ => chain21 hts g32 hL hp hp0 hR hd hc hb | 22, _, _ => chain22 hts g32 hL hp hp0 hR hd hc hb
  | 0, h1, _ => absurd h1 (by omega)
  | k + 23, _, h2 => absurd h2 (by omega)
/-- the document's line -/
theorem rline_ok {n0 p : Nat} {m : Mem} {out : List UInt8} {g : Bool} {kn : Nat} {s : Stp} {d c : Value} (h : RPr n0 m p out g) (hn : n0 ≤ m.next) (hp : PowAt m) (hp0 : 0 < n0) (hR : s.R) (hd : SlOld n0 m d s.data.length (u8s s.data)) (hc : SlOld n0 m c s.choices.length (i64s s.choices))
    (hk : s.kind = (kn : Int)) (h1 : 1 ≤ kn) (h2 : kn ≤ 22) (hb : out.length + 100 * s.choices.length + 20 * s.data.length ≤ 700000000) :
    CallsA tb 37 [.pointer (some ⟨p, 0, none⟩), .agg ⟨rowCells kn⟩, .agg ⟨stpCells s d c⟩] m (retR fun r m' => RPr n0 m' p (out ++ stepLine s) (g || stepGreat s) ∧ Keep (some p) m m') := by
  have z1 : (stpCells s d c)[1]? = some (.int .i64 s.node) := rfl
  have r0 : (rowCells kn)[0]? = some (.string ⟨⟨wordOf kn⟩⟩) := rfl
  have r1 : (rowCells kn)[1]? = some (.bool (!decide (kn = 1))) := rfl
  have hkn : s.kind.toNat = kn := by omega
  have hw8 := word8 kn
  have hnl := itoa_le hR.node
  have hplt := h.2.1
  refine callsS Tryz.func37 e37 rfl rfl ?_
  simp only [s37, List.replicate, List.length_cons, List.length_nil, List.cons_append, List.nil_append, Nat.reduceAdd, Nat.reduceSub]
  refine xseqP (PS := fun l' ds' m' => ds' = [] ∧ LI n0 p m.next kn s d c m out g m' ∧ Sl [.pointer (some ⟨p, 0, none⟩), .agg ⟨rowCells kn⟩, .agg ⟨stpCells s d c⟩, undef, .pointer (some ⟨m.next, 0, none⟩), .pointer (some ⟨m.next + 1, 0, none⟩)] 223 l') ?_ ?_
  · refine xregQ fun Q' hQ => ?_
    simp
    subst hQ
    refine ⟨rfl, rfl, ⟨?_, ?_, ?_, ?_, by simp only [next_newObjA]; omega, hplt, rfl⟩, Sl.mk rfl rfl⟩
    · exact (h.keep ((Old.refl _ _).new (Nat.le_refl _) _)).keep ((Old.refl _ _).new (Nat.le_refl _) _)
    · exact (Keep.ofOld ((Old.refl _ _).new (Nat.le_refl _) _)).trans (Keep.ofOld ((Old.refl _ _).new (Nat.le_refl _) _))
    · rw [vw_new, if_neg (by rw [next_newObjA]; omega), vw_new, if_pos rfl]; exact vwO_rowObj _ _ _
    · rw [vw_new, if_pos (by rw [next_newObjA])]; exact vwO_rowObj _ _ _
  rintro l ds m1 ⟨rfl, hL, ⟨ts, hts, rfl⟩⟩
  -- the node
  refine xseqP (PS := fun l' ds' m' => ds' = [] ∧ LI n0 p m.next kn s d c m (out ++ (if s.kind = 1 then [] else Lib.itoa s.node ++ [32])) g m' ∧ Sl [.pointer (some ⟨p, 0, none⟩), .agg ⟨rowCells kn⟩, .agg ⟨stpCells s d c⟩, undef, .pointer (some ⟨m.next, 0, none⟩), .pointer (some ⟨m.next + 1, 0, none⟩)] 223 l') ?_ ?_
  · refine xseq (xregQ fun Q' hQ => ?_)
    simp [hts, hL.rb, r1]
    subst hQ
    refine xif (v := !decide (kn = 1)) (by simp [hts]) (fun hk1 => ?_) (fun hk1 => xskip ?_)
    · simp only [Bool.not_eq_true', decide_eq_false_iff_not] at hk1
      refine xdrw 3 fun Q' hQ => ?_
      simp [hts, hL.pr.2.2, hL.sb, z1]
      refine xitoa hR.node.1 hR.node.2 (hp.old hL.old hp0) ?_
      simp [hts, hL.pr.2.2, hL.sb, z1]
      repeat (rw [b_cat _ _ _ _ _ (by (try simp only [List.length_append, List.length_cons, List.length_nil]); omega)]; simp [hts, hL.pr.2.2, hL.sb, z1])
      subst hQ
      exact ⟨rfl, rfl, by rw [if_neg (by omega)]; exact LIout hL, Sl.mk rfl (by simp [hts])⟩
    · simp only [Bool.not_eq_false', decide_eq_true_eq] at hk1
      exact ⟨rfl, rfl, by rw [if_pos (by omega), List.append_nil]; exact hL, Sl.mk rfl (by simp [hts])⟩
  clear hL hts
  rintro l ds m1 ⟨rfl, hL, ⟨ts, hts, rfl⟩⟩
  generalize hoA : out ++ (if s.kind = 1 then [] else Lib.itoa s.node ++ [32]) = oA at *
  have hoAl : oA.length ≤ out.length + 23 := by
    rw [← hoA]
    split <;> simp only [List.length_append, List.length_cons, List.length_nil] <;> omega
  -- the word
  refine xseqP (PS := fun l' ds' m' => ds' = [] ∧ LI n0 p m.next kn s d c m (oA ++ wordOf kn) g m' ∧ Sl [.pointer (some ⟨p, 0, none⟩), .agg ⟨rowCells kn⟩, .agg ⟨stpCells s d c⟩, undef, .pointer (some ⟨m.next, 0, none⟩), .pointer (some ⟨m.next + 1, 0, none⟩)] 223 l') ?_ ?_
  · refine xdrw 2 fun Q' hQ => ?_
    simp [hts, hL.pr.2.2, hL.rb, r0]
    repeat (rw [b_cat _ _ _ _ _ (by (try simp only [List.length_append, List.length_cons, List.length_nil]); omega)]; simp [hts, hL.pr.2.2, hL.rb, r0])
    subst hQ
    exact ⟨rfl, rfl, LIout hL, Sl.mk rfl (by simp [hts])⟩
  clear hL hts
  rintro l ds m1 ⟨rfl, hL, ⟨ts, hts, rfl⟩⟩
  refine xseqP (PS := fun l' ds' m' => ds' = [] ∧ LI n0 p m.next kn s d c m (oA ++ wordOf kn ++ (fieldsOf kn).flatMap fun f => f.text s) (g || stepGreatK kn s) m' ∧ Sl [.pointer (some ⟨p, 0, none⟩), .agg ⟨rowCells kn⟩, .agg ⟨stpCells s d c⟩, undef, .pointer (some ⟨m.next, 0, none⟩), .pointer (some ⟨m.next + 1, 0, none⟩)] 223 l') ?_ ?_
  · refine xseq (xregQ fun Q' hQ => ?_)
    simp [hts, hL.rb, r0]
    subst hQ
    exact chain_ok h1 h2 (by simp [hts]) (by simp [hts]) hL hp hp0 hR hd hc (by simp only [List.length_append]; omega)
  clear hL hts
  rintro l ds m1 ⟨rfl, hL, ⟨ts, hts, rfl⟩⟩
  have hfl : ((fieldsOf kn).flatMap fun f => f.text s).length ≤ 4 * (25 + 22 * s.choices.length + 4 * s.data.length) := Nat.le_trans (fds_le hR _) (Nat.mul_le_mul_right _ (fields4 kn))
  refine xregQ fun Q' hQ => ?_
  simp [hts, hL.pr.2.2]
  rw [b_cat _ _ _ _ _ (by (try simp only [List.length_append, List.length_cons, List.length_nil]); omega)]
  simp [hts, hL.pr.2.2]
  subst hQ
  have hline : out ++ stepLine s = oA ++ wordOf kn ++ ((fieldsOf kn).flatMap fun f => f.text s) ++ [10] := by
    rw [← hoA, stepLine, hkn]; simp only [List.append_assoc]
  have hfin := LIout (out' := out ++ stepLine s) hL
  have hgr : stepGreat s = stepGreatK kn s := by rw [stepGreat, hkn]; rfl
  refine ⟨rfl, _, rfl, ?_⟩
  rw [hgr]
  have e : out ++ stepLine s = oA ++ (wordOf kn ++ (((fieldsOf kn).flatMap fun f => f.text s) ++ [10])) := by rw [hline]; simp only [List.append_assoc]
  rw [e] at hfin ⊢
  exact ⟨hfin.pr, hfin.kp⟩
end Go.Proofs.YtgmkbdmgifdfeaaGreatDoor
set_option maxRecDepth 8000
namespace Go.Proofs.YtgmkbdmgifdfeaaGreatDoor
open Go Go.Ev
/-- a step, loaded, whole or in part -/
theorem StepsOld.flds {n0 : Nat} {m : Mem} {v : Value} {ss : List Stp} (h : StepsOld n0 m v ss) (hn : n0 ≤ m.next) {k : Nat} {s : Stp} (hk : ss[k]? = some s) :
    ∃ b o c, v = .slice (some ⟨b, o, none⟩) ss.length c ∧ s.R ∧ ∃ ad dc ac cc, opLoad tb 36 m (.pointer (some ⟨b, o + k * 17, none⟩)) = .r (.agg ⟨stpCells s (.slice ad s.data.length dc) (.slice ac s.choices.length cc)⟩) ∧
      SlOld n0 m (.slice ad s.data.length dc) s.data.length (u8s s.data) ∧ SlOld n0 m (.slice ac s.choices.length cc) s.choices.length (i64s s.choices) ∧
      (∀ {off : Nat} {w : Value} {t : TypeId} {i : TI}, (stpCells s (.slice ad s.data.length dc) (.slice ac s.choices.length cc))[off]? = some w → ti tb t = some i → i.agg = false → opLoad tb t m (.pointer (some ⟨b, o + k * 17 + off, none⟩)) = .r w) ∧ k < ss.length := by
  obtain ⟨cells, h1, h2, h3⟩ := h
  obtain ⟨h4, d, c, h5, h6, h7⟩ := h3 k s hk
  have hk1 := (List.getElem?_eq_some_iff.1 hk).1
  obtain ⟨b, o, c', h8, h9, h10, h11, h12⟩ := (h1.at hn).loadA (k := k * 17) (sz := 17) (by omega) (by omega)
  obtain ⟨ad, dc, rfl⟩ := (h6.at hn).shape
  obtain ⟨ac, cc, rfl⟩ := (h7.at hn).shape
  refine ⟨b, o, c', h8, h4, ad, dc, ac, cc, ?_, h6, h7, ?_, hk1⟩
  · rw [h12 Ty.ti36 Ty.g36 Ty.s36, h5]
  · intro off w t i hw hi ha
    have hoff : off < 17 := (List.getElem?_eq_some_iff.1 hw).1
    have : cells[k * 17 + off]? = some w := by
      rw [← hw, ← h5, takeN_get hoff]
    have := ld_rd1 (s := none) hi ha h11 this
    rw [show o + (k * 17 + off) = o + k * 17 + off from by omega] at this
    exact this
theorem formW : ∀ kn, 1 ≤ kn → kn ≤ 22 → ((9 ≤ kn ∧ kn ≤ 12) ∧ ∃ l, formOf kn = 119 :: l) ∨ (¬ (9 ≤ kn ∧ kn ≤ 12) ∧ (formOf kn = [] ∨ ∃ b l, formOf kn = b :: l ∧ ¬ (b.toNat : Int) = 119))
  | 1, _, _ => .inr ⟨by omega, .inr ⟨_, _, rfl, by decide⟩⟩ | 2, _, _ => .inr ⟨by omega, .inr ⟨_, _, rfl, by decide⟩⟩ | 3, _, _ => .inr ⟨by omega, .inr ⟨_, _, rfl, by decide⟩⟩ | 4, _, _ => .inr ⟨by omega, .inr ⟨_, _, rfl, by decide⟩⟩
  | 5, _, _ => .inr ⟨by omega, .inr ⟨_, _, rfl, by decide⟩⟩ | 6, _, _ => .inr ⟨by omega, .inr ⟨_, _, rfl, by decide⟩⟩ | 7, _, _ => .inr ⟨by omega, .inr ⟨_, _, rfl, by decide⟩⟩ | 8, _, _ => .inr ⟨by omega, .inl rfl⟩
  | 9, _, _ => .inl ⟨by omega, _, rfl⟩ | 10, _, _ => .inl ⟨by omega, _, rfl⟩ | 11, _, _ => .inl ⟨by omega, _, rfl⟩ | 12, _, _ => .inl ⟨by omega, _, rfl⟩
  | 13, _, _ => .inr ⟨by omega, .inr ⟨_, _, rfl, by decide⟩⟩ | 14, _, _ => .inr ⟨by omega, .inr ⟨_, _, rfl, by decide⟩⟩ | 15, _, _ => .inr ⟨by omega, .inl rfl⟩ | 16, _, _ => .inr ⟨by omega, .inr ⟨_, _, rfl, by decide⟩⟩
  | 17, _, _ => .inr ⟨by omega, .inr ⟨_, _, rfl, by decide⟩⟩ | 18, _, _ => .inr ⟨by omega, .inr ⟨_, _, rfl, by decide⟩⟩ | 19, _, _ => .inr ⟨by omega, .inr ⟨_, _, rfl, by decide⟩⟩ | 20, _, _ => .inr ⟨by omega, .inr ⟨_, _, rfl, by decide⟩⟩
  | 21, _, _ => .inr ⟨by omega, .inr ⟨_, _, rfl, by decide⟩⟩ | 22, _, _ => .inr ⟨by omega, .inr ⟨_, _, rfl, by decide⟩⟩
  | 0, h, _ => absurd h (by omega)
  | k + 23, _, h => absurd h (by omega)
theorem isB_undef (w : Bool) : isB undef w = false := rfl
theorem pick_true (a b : Value) : opPick (.bool true) a b = .r a := rfl
theorem pick_false (a b : Value) : opPick (.bool false) a b = .r b := rfl
def cfgCells (x : Stu) : List Value := [.int .i64 x.mtu, .int .u64 x.ack, .int .u64 x.retry, .int .i64 x.retries, .int .i64 x.window, .int .i64 x.inbox]
theorem cfg_get (x : Stu) : (cfgCells x)[0]? = some (.int .i64 x.mtu) ∧ (cfgCells x)[1]? = some (.int .u64 x.ack) ∧ (cfgCells x)[2]? = some (.int .u64 x.retry) ∧ (cfgCells x)[3]? = some (.int .i64 x.retries) ∧ (cfgCells x)[4]? = some (.int .i64 x.window) ∧ (cfgCells x)[5]? = some (.int .i64 x.inbox) := ⟨rfl, rfl, rfl, rfl, rfl, rfl⟩
theorem app6 (a b c d e f : Value) (l : List Value) : a :: b :: c :: d :: e :: f :: l = [a, b, c, d, e, f] ++ l := rfl
theorem rowV_len (z : Int) : (rowV z).length = 4 := by unfold rowV; split <;> rfl
theorem rowV_one (z : Int) : (rowV z).all oneC = true := by unfold rowV; split <;> rfl
set_option maxHeartbeats 1000000 in
theorem rprint_ok {m : Mem} {v : Value} {x : Stu} {ss : List Stp} (hm : 8 ≤ m.next) (hp : PowAt m) (hx : x.R) (hs : StepsOld m.next m v ss) (hb : weights ss ≤ 500000000) :
    CallsA tb 14 [.agg ⟨stuCells x⟩, v] m (retR fun r m' => r = .tuple ⟨[.string ⟨⟨(printOut x ss).1⟩⟩, .int .i64 (printOut x ss).2]⟩ ∧ Old m.next m m') := by
  have hwl := weights_len ss
  obtain ⟨av, cv, rfl⟩ := hs.shape
  refine callsS Tryz.func14 e14 rfl rfl ?_
  simp only [s14, List.replicate, List.length_cons, List.length_nil, List.cons_append, List.nil_append, Nat.reduceAdd, Nat.reduceSub]
  refine xseqP (PS := fun l' ds' m1 => ds' = [] ∧ Sl [.agg ⟨stuCells x⟩, .slice av ss.length cv, .pointer (some ⟨m.next, 0, none⟩), undef, .string ⟨⟨[]⟩⟩, .int .i64 0] 169 l' ∧ vw m1 m.next = some ⟨true, 26, false, stuCells x⟩ ∧ m1.next = m.next + 1 ∧ Old m.next m m1) ?_ ?_
  · refine xregQ fun Q' hQ => ?_
    simp
    subst hQ
    exact ⟨rfl, rfl, Sl.mk rfl rfl, by rw [vw_new, if_pos rfl]; exact vwO_rowObj _ _ _, by rw [next_newObjA], (Old.refl _ _).new (Nat.le_refl _) _⟩
  rintro l ds m1 ⟨rfl, ⟨ts, hts, rfl⟩, hX, hN1, hO1⟩
  -- may all steps be printed?
  refine xseqR (PS := fun l' ds' m' => ds' = [] ∧ Sl [.agg ⟨stuCells x⟩, .slice av ss.length cv, .pointer (some ⟨m.next, 0, none⟩), undef, .string ⟨⟨[]⟩⟩, .int .i64 0] 169 l' ∧ vw m' m.next = some ⟨true, 26, false, stuCells x⟩ ∧ Old m.next m m' ∧ ss.all stepOk = true ∧ m.next < m'.next)
    (PR := fun l' ds' m' => ds' = [] ∧ Old m.next m m' ∧ ¬ ss.all stepOk = true ∧ gx l' 4 = .string ⟨⟨[]⟩⟩ ∧ gx l' 5 = .int .i64 202) ?_ ?_ ?_
  · refine xseq (xregQ fun Q' hQ => ?_)
    simp [hts]
    subst hQ
    refine xblock (xwhile (N := ss.length) (I := fun n l ds m2 => ∃ k, n = ss.length - k ∧ k ≤ ss.length ∧ ds = [] ∧ (∃ ts : List Value, ts.length = 169 ∧ l = [.agg ⟨stuCells x⟩, .slice av ss.length cv, .pointer (some ⟨m.next, 0, none⟩), undef, .string ⟨⟨[]⟩⟩, .int .i64 0] ++ ts ∧ gx ts 0 = .int .i64 (k : Nat)) ∧
      vw m2 m.next = some ⟨true, 26, false, stuCells x⟩ ∧ Old m.next m m2 ∧ m.next < m2.next ∧ (ss.take k).all stepOk = true) ?_ ?_)
    · exact ⟨0, by simp, by omega, rfl, ⟨_, by simp [hts], rfl, by simp [hts]⟩, hX, hO1, by omega, by simp⟩
    clear hX hO1 hts hN1
    rintro n l ds m2 ⟨k, rfl, hk, rfl, ⟨ts, hts, rfl, g6⟩, hX2, hO2, hN2, hall⟩
    refine xseq (xseq (xregQ fun Q' hQ => ?_))
    simp [hts, g6]
    subst hQ
    refine xif (v := decide ((k : Int) < (ss.length : Int))) (by simp [hts]) (fun h => xskip ?_) (fun h => xexit ?_)
    · simp only [decide_eq_true_eq] at h
      have hkl : k < ss.length := by omega
      obtain ⟨b, o, c, h1, hR, ad, dc, ac, cc, hld, hd, hc, hfl, _⟩ := (hs.old hO2).flds hO2.1 (List.getElem?_eq_getElem hkl)
      simp only [Value.slice.injEq] at h1
      obtain ⟨rfl, -, rfl⟩ := h1
      have htk : ss.take (k + 1) = ss.take k ++ [ss[k]] := by rw [List.take_add_one, List.getElem?_eq_getElem hkl]; rfl
      have hmem : ss[k] ∈ ss := List.getElem_mem hkl
      have hf0 := hfl (off := 0) (t := 3) rfl Ty.ti3 Ty.g3
      rw [Nat.add_zero] at hf0
      have hskk := List.getElem?_eq_getElem hkl
      generalize hsk : ss[k] = s at *
      -- its row
      refine xseq (xblock (xseqP (PS := fun l' ds' m' => ds' = [] ∧ (∃ ts : List Value, ts.length = 169 ∧ l' = [.agg ⟨stuCells x⟩, .slice (some ⟨b, o, none⟩) ss.length cv, .pointer (some ⟨m.next, 0, none⟩), undef, .string ⟨⟨[]⟩⟩, .int .i64 0] ++ ts ∧ gx ts 0 = .int .i64 (k : Nat) ∧ ∃ rb, gx ts 1 = .pointer (some ⟨rb, 0, none⟩) ∧ vw m' rb = some ⟨true, 88, false, rowV s.kind⟩ ∧ gx ts 2 = .bool (decide (1 ≤ s.kind ∧ s.kind ≤ 22))) ∧ Old m2.next m2 m') ?_ ?_))
      · refine xregQ fun Q' hQ => ?_
        simp [hts, g6, hkl, h, hf0]
        refine xcall (ov_none (by decide)) (row_ok (by have := hO2.1; omega)) ?_ (fun ch m' h => h.elim)
        rintro r m3 ⟨rfl, hO3⟩
        obtain ⟨m4, e4, n4, r4, f4⟩ := alloc_st m3 88 4 [.string ⟨⟨[]⟩⟩, .bool false, .int .i64 0, .string ⟨⟨[]⟩⟩] (rowV s.kind) rfl (rowV_len _) (rowV_one _)
        simp [hts, opExtract, rowV_len, rowV_one]
        rw [← e4]
        subst hQ
        exact ⟨rfl, rfl, ⟨_, by simp [hts], rfl, by simp [g6], m3.next, by simp [hts], r4, by simp [hts]⟩, hO3.trans ⟨by omega, fun y hy => f4 y (by have := hO3.1; omega)⟩⟩
      clear hts g6
      rintro l ds m4 ⟨rfl, ⟨ts, hts, rfl, g6, rb, g7, hrb, g8⟩, hO4⟩
      have hO4' : Old m.next m m4 := hO2.trans (hO4.le hO2.1)
      obtain ⟨b', o', c', h1', hR', ad', dc', ac', cc', _, _, _, hfl4, _⟩ := (hs.old hO4').flds hO4'.1 hskk
      simp only [Value.slice.injEq, Option.some.injEq, Addr.mk.injEq] at h1'
      obtain ⟨⟨rfl, rfl, -⟩, -, rfl⟩ := h1'
      have hf1 := hfl4 (off := 1) (t := 3) rfl Ty.ti3 Ty.g3
      have hf9 := hfl4 (off := 9) (t := 3) rfl Ty.ti3 Ty.g3
      have hret : ¬ stepOk s = true → ¬ ss.all stepOk = true := fun h1 h2 => h1 (List.all_eq_true.1 h2 s hmem)
      have hX4 : vw m4 m.next = some ⟨true, 26, false, stuCells x⟩ := by rw [hO4.vw hN2]; exact hX2
      have hN4 : m.next < m4.next := by have := hO4.1; omega
      -- kind and node
      refine xseqR (PS := fun l' ds' m' => ds' = [] ∧ m' = m4 ∧ (∃ ts : List Value, ts.length = 169 ∧ l' = [.agg ⟨stuCells x⟩, .slice (some ⟨b, o, none⟩) ss.length cv, .pointer (some ⟨m.next, 0, none⟩), undef, .string ⟨⟨[]⟩⟩, .int .i64 0] ++ ts ∧ gx ts 0 = .int .i64 (k : Nat) ∧ gx ts 1 = .pointer (some ⟨rb, 0, none⟩)) ∧ (1 ≤ s.kind ∧ s.kind ≤ 22) ∧ (s.kind = 1 ∨ s.node = 1 ∨ s.node = 2))
        (PR := fun l' ds' m' => ds' = [] ∧ m' = m4 ∧ ¬ stepOk s = true ∧ gx l' 4 = .string ⟨⟨[]⟩⟩ ∧ gx l' 5 = .int .i64 202) ?_ ?_ ?_
      · refine xseq (xregQ fun Q' hQ => ?_)
        by_cases hr : 1 ≤ s.kind ∧ s.kind ≤ 22
        · have hrV : rowV s.kind = rowCells s.kind.toNat := if_pos hr
          have r1 : (rowCells s.kind.toNat)[1]? = some (.bool (!decide (s.kind.toNat = 1))) := rfl
          rw [hrV] at hrb
          rw [decide_eq_true hr] at g8
          by_cases hk1 : s.kind.toNat = 1
          · simp [hts, g6, g7, g8, hrb, r1, eq_true hk1]
            subst hQ
            refine xif (v := false) (by simp [hts]) (fun h => by cases h) (fun _ => xskip ?_)
            refine .inl ⟨rfl, rfl, rfl, ?_, hr, .inl (by omega)⟩
            exact ⟨_, by simp [hts], app6 _ _ _ _ _ _ _, by simp [g6], by simp [g7]⟩
          · by_cases hn1 : s.node = 1
            · simp [hts, g6, g7, g8, hrb, r1, eq_false hk1, h, hkl, hf1, hn1]
              subst hQ
              refine xif (v := false) (by simp [hts]) (fun h => by cases h) (fun _ => xskip ?_)
              refine .inl ⟨rfl, rfl, rfl, ?_, hr, .inr (.inl hn1)⟩
              exact ⟨_, by simp [hts], app6 _ _ _ _ _ _ _, by simp [g6], by simp [g7]⟩
            · by_cases hn2 : s.node = 2
              · simp [hts, g6, g7, g8, hrb, r1, eq_false hk1, h, hkl, hf1, hn2]
                subst hQ
                refine xif (v := false) (by simp [hts]) (fun h => by cases h) (fun _ => xskip ?_)
                refine .inl ⟨rfl, rfl, rfl, ?_, hr, .inr (.inr hn2)⟩
                exact ⟨_, by simp [hts], app6 _ _ _ _ _ _ _, by simp [g6], by simp [g7]⟩
              · simp [hts, g6, g7, g8, hrb, r1, eq_false hk1, h, hkl, hf1, hn1, hn2]
                subst hQ
                refine xif (v := true) (by simp [hts]) (fun _ => ?_) (fun h => by cases h)
                refine xseq (xregQ fun Q' hQ => ?_)
                simp [hts]
                subst hQ
                exact xret (.inr ⟨rfl, rfl, rfl, by have : ¬ s.kind = 1 := by omega
                                                    simp [stepOk, hn1, hn2, this], by simp [gx], by simp [gx]⟩)
        · rw [decide_eq_false hr] at g8
          simp [hts, g6, g7, g8, isB_undef]
          subst hQ
          refine xif (v := true) (by simp [hts]) (fun _ => ?_) (fun h => by cases h)
          refine xseq (xregQ fun Q' hQ => ?_)
          simp [hts]
          subst hQ
          exact xret (.inr ⟨rfl, rfl, rfl, by simp [stepOk, hr], by simp [gx], by simp [gx]⟩)
      · clear hts g6 g7 g8
        rintro l ds m5 ⟨rfl, rfl, ⟨ts, hts, rfl, g6, g7⟩, hr, hnode⟩
        have hrV : rowV s.kind = rowCells s.kind.toNat := if_pos hr
        have r3 : (rowCells s.kind.toNat)[3]? = some (.string ⟨⟨formOf s.kind.toNat⟩⟩) := rfl
        rw [hrV] at hrb
        have hfin : stepOk s = true → ∀ (l' : List Value), (∃ ts : List Value, ts.length = 169 ∧ l' = [.agg ⟨stuCells x⟩, .slice (some ⟨b, o, none⟩) ss.length cv, .pointer (some ⟨m.next, 0, none⟩), undef, .string ⟨⟨[]⟩⟩, .int .i64 0] ++ ts ∧ gx ts 0 = .int .i64 (k : Nat)) → True := fun _ _ _ => trivial
        have hnodeB : (decide (s.kind = 1) || decide (s.node = 1) || decide (s.node = 2)) = true := by
          rcases hnode with h | h | h <;> simp [h]
        have hbad : ∀ l' : List Value, gx l' 4 = .string ⟨⟨[]⟩⟩ → gx l' 5 = .int .i64 202 → True := fun _ _ _ => trivial
        refine wpX.mono (Q := fun e l' ds' m' => (e = .normal ∧ ds' = [] ∧ m' = m5 ∧ (∃ ts : List Value, ts.length = 169 ∧ l' = [.agg ⟨stuCells x⟩, .slice (some ⟨b, o, none⟩) ss.length cv, .pointer (some ⟨m.next, 0, none⟩), undef, .string ⟨⟨[]⟩⟩, .int .i64 0] ++ ts ∧ gx ts 0 = .int .i64 (k : Nat)) ∧ stepOk s = true) ∨
          (e = .jump .ret ∧ ds' = [] ∧ m' = m5 ∧ ¬ stepOk s = true ∧ gx l' 4 = .string ⟨⟨[]⟩⟩ ∧ gx l' 5 = .int .i64 202)) ?_ ?_
        · refine xseq (xregQ fun Q' hQ => ?_)
          rcases formW s.kind.toNat (by omega) (by omega) with ⟨hw, fl, hfm⟩ | ⟨hw, hfm⟩
          · have hw' : (9 ≤ s.kind ∧ s.kind ≤ 12) := by omega
            by_cases hw1 : s.way = 1
            · simp [hts, g6, g7, hrb, r3, hfm, hkl, h, hf9, hw1]
              subst hQ
              refine xif (v := false) (by simp [hts]) (fun h => by cases h) (fun _ => xskip ?_)
              refine .inl ⟨rfl, rfl, rfl, ⟨_, by simp [hts], app6 _ _ _ _ _ _ _, by simp [g6]⟩, by simp [stepOk, hr, hw', hw1]; simpa using hnodeB⟩
            by_cases hw2 : s.way = 2
            · simp [hts, g6, g7, hrb, r3, hfm, hkl, h, hf9, hw2]
              subst hQ
              refine xif (v := false) (by simp [hts]) (fun h => by cases h) (fun _ => xskip ?_)
              refine .inl ⟨rfl, rfl, rfl, ⟨_, by simp [hts], app6 _ _ _ _ _ _ _, by simp [g6]⟩, by simp [stepOk, hr, hw', hw2]; simpa using hnodeB⟩
            · simp [hts, g6, g7, hrb, r3, hfm, hkl, h, hf9, hw1, hw2]
              subst hQ
              refine xif (v := true) (by simp [hts]) (fun _ => ?_) (fun h => by cases h)
              refine xseq (xregQ fun Q' hQ => ?_)
              simp [hts]
              subst hQ
              exact xret (.inr ⟨rfl, rfl, rfl, by simp [stepOk, hw', hw1, hw2], by simp [gx], by simp [gx]⟩)
          · have hw' : ¬ (9 ≤ s.kind ∧ s.kind ≤ 12) := by omega
            have hok : stepOk s = true := by
              simp only [stepOk, decide_eq_true hr, decide_eq_false hw', hnodeB]; rfl
            rcases hfm with hfm | ⟨fb, fl, hfm, hfb⟩
            · simp [hts, g6, g7, hrb, r3, hfm, isB_undef]
              subst hQ
              refine xif (v := false) (by simp [hts]) (fun h => by cases h) (fun _ => xskip ?_)
              exact .inl ⟨rfl, rfl, rfl, ⟨_, by simp [hts], app6 _ _ _ _ _ _ _, by simp [g6]⟩, hok⟩
            · simp [hts, g6, g7, hrb, r3, hfm, hfb, isB_undef]
              subst hQ
              refine xif (v := false) (by simp [hts]) (fun h => by cases h) (fun _ => xskip ?_)
              exact .inl ⟨rfl, rfl, rfl, ⟨_, by simp [hts], app6 _ _ _ _ _ _ _, by simp [g6]⟩, hok⟩
        · clear hts g6 g7
          rintro e l' ds' m' (⟨rfl, rfl, rfl, ⟨ts, hts, rfl, g6⟩, hok⟩ | ⟨rfl, rfl, rfl, hno, h4, h5⟩)
          · refine xregQ fun Q' hQ => ?_
            simp [hts, g6]
            rw [wr64 _ (by omega) (by omega)]
            subst hQ
            exact ⟨ss.length - (k + 1), by omega, k + 1, rfl, by omega, rfl, ⟨_, by simp [hts], app6 _ _ _ _ _ _ _, by simp [hts]⟩, hX4, hO4', hN4, by rw [htk]; simp [hall, hok]⟩
          · exact .inr ⟨rfl, rfl, hO4', hret hno, h4, h5⟩
      · rintro l ds m5 ⟨rfl, rfl, hno, h4, h5⟩
        exact .inr ⟨rfl, rfl, hO4', hret hno, h4, h5⟩
    · simp only [decide_eq_false_iff_not] at h
      obtain rfl : k = ss.length := by omega
      rw [List.take_length] at hall
      exact .inl ⟨rfl, rfl, Sl.mk rfl (by simp [hts]), hX2, hO2, hall, hN2⟩
  · rintro l ds m2 ⟨rfl, ⟨ts0, hts0, rfl⟩, hX2, hO2, hall, hN2⟩
    clear hX hO1 hts hN1
    obtain ⟨g0, g1, g2, g3, g4, g5, g6, g7, g8⟩ := stu_get x
    generalize hnp : m2.next = np at *
    obtain ⟨y6, ts1, rfl, hts1⟩ := len_succ hts0
    obtain ⟨y7, ts2, rfl, hts2⟩ := len_succ hts1
    obtain ⟨y8, ts3, rfl, hts3⟩ := len_succ hts2
    obtain ⟨y9, ts4, rfl, hts4⟩ := len_succ hts3
    obtain ⟨y10, ts, rfl, hts⟩ := len_succ hts4
    clear hts0 hts1 hts2 hts3 hts4
    -- the printer
    refine xseqP (PS := fun l' ds' m' => ds' = [] ∧ Sl [.agg ⟨stuCells x⟩, .slice av ss.length cv, .pointer (some ⟨m.next, 0, none⟩), undef, .string ⟨⟨[]⟩⟩, .int .i64 0, y6, y7, y8, .pointer (some ⟨np, 0, none⟩)] 165 l' ∧ RPr np m' np [119, 111, 114, 108, 100] false ∧ Old np m2 m' ∧ m'.next = np + 1) ?_ ?_
    · refine xregQ fun Q' hQ => ?_
      simp [hts, hnp]
      subst hQ
      exact ⟨rfl, rfl, Sl.mk rfl (by simp [hts]), ⟨Nat.le_refl _, by rw [next_newObjA]; omega, by rw [vw_new, if_pos hnp.symm]; exact vwO_rowObj _ _ _⟩, (Old.refl _ _).new (by omega) _, by rw [next_newObjA, hnp]⟩
    clear hts
    rintro l ds m3 ⟨rfl, ⟨ts0, hts0, rfl⟩, hP, hO3, hn3⟩
    obtain ⟨y10', ts, rfl, hts⟩ := len_succ hts0
    have hX3 : vw m3 m.next = some ⟨true, 26, false, stuCells x⟩ := by rw [hO3.vw hN2]; exact hX2
    -- the config
    obtain ⟨mB, eB, nB, rB, fB⟩ := alloc_st m3 24 6 [.int .i64 0, .int .u64 0, .int .u64 0, .int .i64 0, .int .i64 0, .int .i64 0] (cfgCells x) rfl rfl rfl
    have htk : takeN (stuCells x) 0 6 = cfgCells x := rfl
    have hcone : (cfgCells x).all oneC = true := rfl
    have hclen : (cfgCells x).length = 6 := rfl
    have hslen : (stuCells x).length = 9 := rfl
    obtain ⟨c0, c1, c2, c3, c4, c5⟩ := cfg_get x
    have hPB : RPr np mB np [119, 111, 114, 108, 100] false := ⟨hP.1, by omega, by unfold vw; rw [fB np (by omega)]; exact hP.2.2⟩
    have hXB : vw mB m.next = some ⟨true, 26, false, stuCells x⟩ := by unfold vw; rw [fB m.next (by omega)]; exact hX3
    have hOB : Old np m2 mB := hO3.trans ⟨by omega, fun y hy => fB y (by omega)⟩
    rw [hn3] at rB
    refine xseqP (PS := fun l' ds' m' => ds' = [] ∧ Sl [.agg ⟨stuCells x⟩, .slice av ss.length cv, .pointer (some ⟨m.next, 0, none⟩), undef, .string ⟨⟨[]⟩⟩, .int .i64 0, y6, y7, y8, .pointer (some ⟨np, 0, none⟩), .pointer (some ⟨np + 1, 0, none⟩)] 164 l' ∧ m' = mB) ?_ ?_
    · refine xregQ fun Q' hQ => ?_
      simp [hts, hX3, htk, hcone, hclen, hslen]
      rw [← eB, hn3]
      subst hQ
      exact ⟨rfl, rfl, Sl.mk rfl (by simp [hts]), rfl⟩
    clear hts hts0
    rintro l ds m4 ⟨rfl, ⟨ts, hts, rfl⟩, rfl⟩
    have hkeep : ∀ {m' : Mem}, Keep (some np) m4 m' → vw m' m.next = some ⟨true, 26, false, stuCells x⟩ ∧ vw m' (np + 1) = some ⟨true, 24, false, cfgCells x⟩ ∧ PowAt m' ∧ np ≤ m'.next ∧ Old np m2 m' := fun h =>
      have hO' : Old np m2 _ := hOB.trans (h.old (Nat.le_refl _) (by omega))
      ⟨by rw [h.vw (by omega) (by intro e; have := Option.some.inj e; omega)]; exact hXB, by rw [h.vw (by omega) (by intro e; have := Option.some.inj e; omega)]; exact rB, (hp.old hO2 (by omega)).old hO' (by omega), by have := hO'.1; omega, hO'⟩
    replace hP : RPr np m4 np [119, 111, 114, 108, 100] false := hPB
    clear hPB
    obtain ⟨mB, hmB⟩ : ∃ mB, mB = m4 := ⟨_, rfl⟩
    have hK4 : Keep (some np) mB m4 := by rw [hmB]; exact Keep.refl _ _
    have hkeep2 : ∀ {m' : Mem}, Keep (some np) mB m' → vw m' m.next = some ⟨true, 26, false, stuCells x⟩ ∧ vw m' (np + 1) = some ⟨true, 24, false, cfgCells x⟩ ∧ PowAt m' ∧ np ≤ m'.next ∧ Old np m2 m' := fun h => hkeep (by rw [hmB] at h; exact h)
    clear hmB hXB rB hOB hkeep
    refine xseqP (PS := fun l' ds' m' => ds' = [] ∧ Sl [.agg ⟨stuCells x⟩, .slice av ss.length cv, .pointer (some ⟨m.next, 0, none⟩), undef, .string ⟨⟨[]⟩⟩, .int .i64 0, y6, y7, y8, .pointer (some ⟨np, 0, none⟩), .pointer (some ⟨np + 1, 0, none⟩)] 164 l' ∧ RPr np m' np ([119, 111, 114, 108, 100] ++ decI x.sectors) (false || greatI x.sectors) ∧ Keep (some np) mB m') ?_ ?_
    · obtain ⟨hX3, hC3, hp3, hn4, _⟩ := hkeep2 hK4
      have hrow := hP.2.2
      refine xregQ fun Q' hQ => ?_
      simp [hts, hX3, hC3, g0, g1, g2, g3, g4, g5, g6, g7, g8, c0, c1, c2, c3, c4, c5]
      refine xcall (ov_none (by decide)) (rint_ok hP hn4 hp3 (by omega) hx.sectors (by have l0 := decI_le hx.sectors; have l1 := decI_le hx.room; have l2 := decUl_le hx.start; have l3 := decI_le hx.mtu; have l4 := decUl_le hx.ack; have l5 := decUl_le hx.retry; have l6 := decI_le hx.retries; have l7 := decI_le hx.window; have l8 := decI_le hx.inbox; (try simp only [List.length_append, List.length_cons, List.length_nil]); omega)) ?_ (fun ch m' h => h.elim)
      rintro r m5 ⟨hP5, hK5⟩
      subst hQ
      exact ⟨rfl, rfl, Sl.mk rfl (by simp [hts]), hP5, hK4.trans hK5⟩
    clear hP hK4 hts
    rintro l ds m4 ⟨rfl, ⟨ts, hts, rfl⟩, hP, hK4⟩
    refine xseqP (PS := fun l' ds' m' => ds' = [] ∧ Sl [.agg ⟨stuCells x⟩, .slice av ss.length cv, .pointer (some ⟨m.next, 0, none⟩), undef, .string ⟨⟨[]⟩⟩, .int .i64 0, y6, y7, y8, .pointer (some ⟨np, 0, none⟩), .pointer (some ⟨np + 1, 0, none⟩)] 164 l' ∧ RPr np m' np ([119, 111, 114, 108, 100] ++ decI x.sectors ++ decI x.room) (false || greatI x.sectors || greatI x.room) ∧ Keep (some np) mB m') ?_ ?_
    · obtain ⟨hX3, hC3, hp3, hn4, _⟩ := hkeep2 hK4
      have hrow := hP.2.2
      refine xregQ fun Q' hQ => ?_
      simp [hts, hX3, hC3, g0, g1, g2, g3, g4, g5, g6, g7, g8, c0, c1, c2, c3, c4, c5]
      refine xcall (ov_none (by decide)) (rint_ok hP hn4 hp3 (by omega) hx.room (by have l0 := decI_le hx.sectors; have l1 := decI_le hx.room; have l2 := decUl_le hx.start; have l3 := decI_le hx.mtu; have l4 := decUl_le hx.ack; have l5 := decUl_le hx.retry; have l6 := decI_le hx.retries; have l7 := decI_le hx.window; have l8 := decI_le hx.inbox; (try simp only [List.length_append, List.length_cons, List.length_nil]); omega)) ?_ (fun ch m' h => h.elim)
      rintro r m5 ⟨hP5, hK5⟩
      subst hQ
      exact ⟨rfl, rfl, Sl.mk rfl (by simp [hts]), hP5, hK4.trans hK5⟩
    clear hP hK4 hts
    rintro l ds m4 ⟨rfl, ⟨ts, hts, rfl⟩, hP, hK4⟩
    refine xseqP (PS := fun l' ds' m' => ds' = [] ∧ Sl [.agg ⟨stuCells x⟩, .slice av ss.length cv, .pointer (some ⟨m.next, 0, none⟩), undef, .string ⟨⟨[]⟩⟩, .int .i64 0, y6, y7, y8, .pointer (some ⟨np, 0, none⟩), .pointer (some ⟨np + 1, 0, none⟩)] 164 l' ∧ RPr np m' np ([119, 111, 114, 108, 100] ++ decI x.sectors ++ decI x.room ++ decU x.start) (false || greatI x.sectors || greatI x.room) ∧ Keep (some np) mB m') ?_ ?_
    · obtain ⟨hX3, hC3, hp3, hn4, _⟩ := hkeep2 hK4
      have hrow := hP.2.2
      refine xdrw 3 fun Q' hQ => ?_
      simp [hts, hrow, hX3, hC3, g0, g1, g2, g3, g4, g5, g6, g7, g8, c0, c1, c2, c3, c4, c5]
      refine xcall (ov_none (by decide)) (rnum_ok (z := x.start) hp3 hx.start) ?_ (fun ch m' h => h.elim)
      rintro r m5 ⟨rfl, rfl⟩
      simp [hts, hrow, hX3, hC3, g0, g1, g2, g3, g4, g5, g6, g7, g8, c0, c1, c2, c3, c4, c5]
      repeat (rw [b_cat _ _ _ _ _ (by have l0 := decI_le hx.sectors; have l1 := decI_le hx.room; have l2 := decUl_le hx.start; have l3 := decI_le hx.mtu; have l4 := decUl_le hx.ack; have l5 := decUl_le hx.retry; have l6 := decI_le hx.retries; have l7 := decI_le hx.window; have l8 := decI_le hx.inbox; (try simp only [List.length_append, List.length_cons, List.length_nil]); omega)]; simp [hts, hrow, hX3, hC3, g0, g1, g2, g3, g4, g5, g6, g7, g8, c0, c1, c2, c3, c4, c5])
      subst hQ
      exact ⟨rfl, rfl, Sl.mk rfl (by simp [hts]), by simpa only [List.append_assoc, List.cons_append, List.nil_append] using hP.out.1, hK4.trans hP.out.2⟩
    clear hP hK4 hts
    rintro l ds m4 ⟨rfl, ⟨ts, hts, rfl⟩, hP, hK4⟩
    refine xseqP (PS := fun l' ds' m' => ds' = [] ∧ Sl [.agg ⟨stuCells x⟩, .slice av ss.length cv, .pointer (some ⟨m.next, 0, none⟩), undef, .string ⟨⟨[]⟩⟩, .int .i64 0, y6, y7, y8, .pointer (some ⟨np, 0, none⟩), .pointer (some ⟨np + 1, 0, none⟩)] 164 l' ∧ RPr np m' np ([119, 111, 114, 108, 100] ++ decI x.sectors ++ decI x.room ++ decU x.start ++ decI x.mtu) (false || greatI x.sectors || greatI x.room || greatI x.mtu) ∧ Keep (some np) mB m') ?_ ?_
    · obtain ⟨hX3, hC3, hp3, hn4, _⟩ := hkeep2 hK4
      have hrow := hP.2.2
      refine xregQ fun Q' hQ => ?_
      simp [hts, hX3, hC3, g0, g1, g2, g3, g4, g5, g6, g7, g8, c0, c1, c2, c3, c4, c5]
      refine xcall (ov_none (by decide)) (rint_ok hP hn4 hp3 (by omega) hx.mtu (by have l0 := decI_le hx.sectors; have l1 := decI_le hx.room; have l2 := decUl_le hx.start; have l3 := decI_le hx.mtu; have l4 := decUl_le hx.ack; have l5 := decUl_le hx.retry; have l6 := decI_le hx.retries; have l7 := decI_le hx.window; have l8 := decI_le hx.inbox; (try simp only [List.length_append, List.length_cons, List.length_nil]); omega)) ?_ (fun ch m' h => h.elim)
      rintro r m5 ⟨hP5, hK5⟩
      subst hQ
      exact ⟨rfl, rfl, Sl.mk rfl (by simp [hts]), hP5, hK4.trans hK5⟩
    clear hP hK4 hts
    rintro l ds m4 ⟨rfl, ⟨ts, hts, rfl⟩, hP, hK4⟩
    refine xseqP (PS := fun l' ds' m' => ds' = [] ∧ Sl [.agg ⟨stuCells x⟩, .slice av ss.length cv, .pointer (some ⟨m.next, 0, none⟩), undef, .string ⟨⟨[]⟩⟩, .int .i64 0, y6, y7, y8, .pointer (some ⟨np, 0, none⟩), .pointer (some ⟨np + 1, 0, none⟩)] 164 l' ∧ RPr np m' np ([119, 111, 114, 108, 100] ++ decI x.sectors ++ decI x.room ++ decU x.start ++ decI x.mtu ++ decU x.ack ++ decU x.retry) (false || greatI x.sectors || greatI x.room || greatI x.mtu) ∧ Keep (some np) mB m') ?_ ?_
    · obtain ⟨hX3, hC3, hp3, hn4, _⟩ := hkeep2 hK4
      have hrow := hP.2.2
      refine xdrw 4 fun Q' hQ => ?_
      simp [hts, hrow, hX3, hC3, g0, g1, g2, g3, g4, g5, g6, g7, g8, c0, c1, c2, c3, c4, c5]
      refine xcall (ov_none (by decide)) (rnum_ok (z := x.ack) hp3 hx.ack) ?_ (fun ch m' h => h.elim)
      rintro r m5 ⟨rfl, rfl⟩
      simp [hts, hrow, hX3, hC3, g0, g1, g2, g3, g4, g5, g6, g7, g8, c0, c1, c2, c3, c4, c5]
      repeat (rw [b_cat _ _ _ _ _ (by have l0 := decI_le hx.sectors; have l1 := decI_le hx.room; have l2 := decUl_le hx.start; have l3 := decI_le hx.mtu; have l4 := decUl_le hx.ack; have l5 := decUl_le hx.retry; have l6 := decI_le hx.retries; have l7 := decI_le hx.window; have l8 := decI_le hx.inbox; (try simp only [List.length_append, List.length_cons, List.length_nil]); omega)]; simp [hts, hrow, hX3, hC3, g0, g1, g2, g3, g4, g5, g6, g7, g8, c0, c1, c2, c3, c4, c5])
      refine xcall (ov_none (by decide)) (rnum_ok (z := x.retry) hp3 hx.retry) ?_ (fun ch m' h => h.elim)
      rintro r m5 ⟨rfl, rfl⟩
      simp [hts, hrow, hX3, hC3, g0, g1, g2, g3, g4, g5, g6, g7, g8, c0, c1, c2, c3, c4, c5]
      repeat (rw [b_cat _ _ _ _ _ (by have l0 := decI_le hx.sectors; have l1 := decI_le hx.room; have l2 := decUl_le hx.start; have l3 := decI_le hx.mtu; have l4 := decUl_le hx.ack; have l5 := decUl_le hx.retry; have l6 := decI_le hx.retries; have l7 := decI_le hx.window; have l8 := decI_le hx.inbox; (try simp only [List.length_append, List.length_cons, List.length_nil]); omega)]; simp [hts, hrow, hX3, hC3, g0, g1, g2, g3, g4, g5, g6, g7, g8, c0, c1, c2, c3, c4, c5])
      subst hQ
      exact ⟨rfl, rfl, Sl.mk rfl (by simp [hts]), by simpa only [List.append_assoc, List.cons_append, List.nil_append] using hP.out.1, hK4.trans hP.out.2⟩
    clear hP hK4 hts
    rintro l ds m4 ⟨rfl, ⟨ts, hts, rfl⟩, hP, hK4⟩
    refine xseqP (PS := fun l' ds' m' => ds' = [] ∧ Sl [.agg ⟨stuCells x⟩, .slice av ss.length cv, .pointer (some ⟨m.next, 0, none⟩), undef, .string ⟨⟨[]⟩⟩, .int .i64 0, y6, y7, y8, .pointer (some ⟨np, 0, none⟩), .pointer (some ⟨np + 1, 0, none⟩)] 164 l' ∧ RPr np m' np ([119, 111, 114, 108, 100] ++ decI x.sectors ++ decI x.room ++ decU x.start ++ decI x.mtu ++ decU x.ack ++ decU x.retry ++ decI x.retries) (false || greatI x.sectors || greatI x.room || greatI x.mtu || greatI x.retries) ∧ Keep (some np) mB m') ?_ ?_
    · obtain ⟨hX3, hC3, hp3, hn4, _⟩ := hkeep2 hK4
      have hrow := hP.2.2
      refine xregQ fun Q' hQ => ?_
      simp [hts, hX3, hC3, g0, g1, g2, g3, g4, g5, g6, g7, g8, c0, c1, c2, c3, c4, c5]
      refine xcall (ov_none (by decide)) (rint_ok hP hn4 hp3 (by omega) hx.retries (by have l0 := decI_le hx.sectors; have l1 := decI_le hx.room; have l2 := decUl_le hx.start; have l3 := decI_le hx.mtu; have l4 := decUl_le hx.ack; have l5 := decUl_le hx.retry; have l6 := decI_le hx.retries; have l7 := decI_le hx.window; have l8 := decI_le hx.inbox; (try simp only [List.length_append, List.length_cons, List.length_nil]); omega)) ?_ (fun ch m' h => h.elim)
      rintro r m5 ⟨hP5, hK5⟩
      subst hQ
      exact ⟨rfl, rfl, Sl.mk rfl (by simp [hts]), hP5, hK4.trans hK5⟩
    clear hP hK4 hts
    rintro l ds m4 ⟨rfl, ⟨ts, hts, rfl⟩, hP, hK4⟩
    refine xseqP (PS := fun l' ds' m' => ds' = [] ∧ Sl [.agg ⟨stuCells x⟩, .slice av ss.length cv, .pointer (some ⟨m.next, 0, none⟩), undef, .string ⟨⟨[]⟩⟩, .int .i64 0, y6, y7, y8, .pointer (some ⟨np, 0, none⟩), .pointer (some ⟨np + 1, 0, none⟩)] 164 l' ∧ RPr np m' np ([119, 111, 114, 108, 100] ++ decI x.sectors ++ decI x.room ++ decU x.start ++ decI x.mtu ++ decU x.ack ++ decU x.retry ++ decI x.retries ++ decI x.window) (false || greatI x.sectors || greatI x.room || greatI x.mtu || greatI x.retries || greatI x.window) ∧ Keep (some np) mB m') ?_ ?_
    · obtain ⟨hX3, hC3, hp3, hn4, _⟩ := hkeep2 hK4
      have hrow := hP.2.2
      refine xregQ fun Q' hQ => ?_
      simp [hts, hX3, hC3, g0, g1, g2, g3, g4, g5, g6, g7, g8, c0, c1, c2, c3, c4, c5]
      refine xcall (ov_none (by decide)) (rint_ok hP hn4 hp3 (by omega) hx.window (by have l0 := decI_le hx.sectors; have l1 := decI_le hx.room; have l2 := decUl_le hx.start; have l3 := decI_le hx.mtu; have l4 := decUl_le hx.ack; have l5 := decUl_le hx.retry; have l6 := decI_le hx.retries; have l7 := decI_le hx.window; have l8 := decI_le hx.inbox; (try simp only [List.length_append, List.length_cons, List.length_nil]); omega)) ?_ (fun ch m' h => h.elim)
      rintro r m5 ⟨hP5, hK5⟩
      subst hQ
      exact ⟨rfl, rfl, Sl.mk rfl (by simp [hts]), hP5, hK4.trans hK5⟩
    clear hP hK4 hts
    rintro l ds m4 ⟨rfl, ⟨ts, hts, rfl⟩, hP, hK4⟩
    refine xseqP (PS := fun l' ds' m' => ds' = [] ∧ Sl [.agg ⟨stuCells x⟩, .slice av ss.length cv, .pointer (some ⟨m.next, 0, none⟩), undef, .string ⟨⟨[]⟩⟩, .int .i64 0, y6, y7, y8, .pointer (some ⟨np, 0, none⟩), .pointer (some ⟨np + 1, 0, none⟩)] 164 l' ∧ RPr np m' np ([119, 111, 114, 108, 100] ++ decI x.sectors ++ decI x.room ++ decU x.start ++ decI x.mtu ++ decU x.ack ++ decU x.retry ++ decI x.retries ++ decI x.window ++ decI x.inbox) (false || greatI x.sectors || greatI x.room || greatI x.mtu || greatI x.retries || greatI x.window || greatI x.inbox) ∧ Keep (some np) mB m') ?_ ?_
    · obtain ⟨hX3, hC3, hp3, hn4, _⟩ := hkeep2 hK4
      have hrow := hP.2.2
      refine xregQ fun Q' hQ => ?_
      simp [hts, hX3, hC3, g0, g1, g2, g3, g4, g5, g6, g7, g8, c0, c1, c2, c3, c4, c5]
      refine xcall (ov_none (by decide)) (rint_ok hP hn4 hp3 (by omega) hx.inbox (by have l0 := decI_le hx.sectors; have l1 := decI_le hx.room; have l2 := decUl_le hx.start; have l3 := decI_le hx.mtu; have l4 := decUl_le hx.ack; have l5 := decUl_le hx.retry; have l6 := decI_le hx.retries; have l7 := decI_le hx.window; have l8 := decI_le hx.inbox; (try simp only [List.length_append, List.length_cons, List.length_nil]); omega)) ?_ (fun ch m' h => h.elim)
      rintro r m5 ⟨hP5, hK5⟩
      subst hQ
      exact ⟨rfl, rfl, Sl.mk rfl (by simp [hts]), hP5, hK4.trans hK5⟩
    clear hP hK4 hts
    rintro l ds m4 ⟨rfl, ⟨ts, hts, rfl⟩, hP, hK4⟩
    refine xseqP (PS := fun l' ds' m' => ds' = [] ∧ Sl [.agg ⟨stuCells x⟩, .slice av ss.length cv, .pointer (some ⟨m.next, 0, none⟩), undef, .string ⟨⟨[]⟩⟩, .int .i64 0, y6, y7, y8, .pointer (some ⟨np, 0, none⟩), .pointer (some ⟨np + 1, 0, none⟩)] 164 l' ∧ RPr np m' np (headLine x) (headGreat x) ∧ Keep (some np) mB m') ?_ ?_
    · obtain ⟨hX3, hC3, hp3, hn4, _⟩ := hkeep2 hK4
      have hrow := hP.2.2
      refine xregQ fun Q' hQ => ?_
      simp [hts, hrow]
      rw [b_cat _ _ _ _ _ (by have l0 := decI_le hx.sectors; have l1 := decI_le hx.room; have l2 := decUl_le hx.start; have l3 := decI_le hx.mtu; have l4 := decUl_le hx.ack; have l5 := decUl_le hx.retry; have l6 := decI_le hx.retries; have l7 := decI_le hx.window; have l8 := decI_le hx.inbox; (try simp only [List.length_append, List.length_cons, List.length_nil]); omega)]
      simp [hts, hrow]
      subst hQ
      refine ⟨rfl, rfl, Sl.mk rfl (by simp [hts]), ?_⟩
      have h1 := hP.out (out' := headLine x)
      have h2 : headGreat x = (false || greatI x.sectors || greatI x.room || greatI x.mtu || greatI x.retries || greatI x.window || greatI x.inbox) := by simp only [headGreat, Bool.false_or]
      rw [h2]
      have h3 : headLine x = [119, 111, 114, 108, 100] ++ decI x.sectors ++ decI x.room ++ decU x.start ++ decI x.mtu ++ decU x.ack ++ decU x.retry ++ decI x.retries ++ decI x.window ++ decI x.inbox ++ [10] := rfl
      simp only [List.append_assoc, List.cons_append, List.nil_append] at h3
      rw [h3] at h1 ⊢
      exact ⟨h1.1, hK4.trans h1.2⟩
    clear hP hK4 hts
    rintro l ds m4 ⟨rfl, ⟨ts, hts, rfl⟩, hP, hK4⟩
    have hl0 := head_le hx
    have hbound : ∀ k s, ss[k]? = some s → (headLine x ++ (ss.take k).flatMap stepLine).length + weight s ≤ 500000300 := fun k s hk => by
      have h1 := lines_le (ss.take k) fun y hy => by
        obtain ⟨j, hj⟩ := List.getElem?_of_mem (List.mem_of_mem_take hy)
        obtain ⟨cells, _, _, h3⟩ := hs
        exact (h3 j y hj).1
      have h2 := weights_take ss hk
      simp only [List.length_append]; omega
    obtain ⟨y11, ts', rfl, hts'⟩ := len_succ hts
    refine xseqP (PS := fun l' ds' m' => ds' = [] ∧ Sl [.agg ⟨stuCells x⟩, .slice av ss.length cv, .pointer (some ⟨m.next, 0, none⟩), undef, .string ⟨⟨[]⟩⟩, .int .i64 0, y6, y7, y8, .pointer (some ⟨np, 0, none⟩), .pointer (some ⟨np + 1, 0, none⟩)] 164 l' ∧ RPr np m' np (printText x ss) (printGreat x ss) ∧ Old np m2 m') ?_ ?_
    · refine xseq (xregQ fun Q' hQ => ?_)
      simp [hts']
      subst hQ
      refine xblock (xwhile (N := ss.length) (I := fun n l ds m' => ∃ k, n = ss.length - k ∧ k ≤ ss.length ∧ ds = [] ∧ Sl [.agg ⟨stuCells x⟩, .slice av ss.length cv, .pointer (some ⟨m.next, 0, none⟩), undef, .string ⟨⟨[]⟩⟩, .int .i64 0, y6, y7, y8, .pointer (some ⟨np, 0, none⟩), .pointer (some ⟨np + 1, 0, none⟩), .int .i64 (k : Nat)] 163 l ∧ RPr np m' np (headLine x ++ (ss.take k).flatMap stepLine) (headGreat x || (ss.take k).any stepGreat) ∧ Old np m2 m') ?_ ?_)
      · exact ⟨0, by simp, by omega, rfl, Sl.mk rfl (by simp [hts']), by simpa using hP, (hkeep2 hK4).2.2.2.2⟩
      clear hP hK4 hts hts' hkeep2
      rintro n l ds m4 ⟨k, rfl, hk, rfl, ⟨ts, hts, rfl⟩, hP, hO4⟩
      refine xseq (xseq (xregQ fun Q' hQ => ?_))
      simp [hts]
      subst hQ
      refine xif (v := decide ((k : Int) < (ss.length : Int))) (by simp [hts]) (fun h => xskip ?_) (fun h => xexit ?_)
      · simp only [decide_eq_true_eq] at h
        have hkl : k < ss.length := by omega
        have hO4' : Old m.next m m4 := hO2.trans (hO4.le (by omega))
        obtain ⟨b, o, c, h1, hR, ad, dc, ac, cc, hld, hd, hc, hfl, _⟩ := (hs.old hO4').flds hO4'.1 (List.getElem?_eq_getElem hkl)
        simp only [Value.slice.injEq] at h1
        obtain ⟨rfl, -, rfl⟩ := h1
        have htk : ss.take (k + 1) = ss.take k ++ [ss[k]] := by rw [List.take_add_one, List.getElem?_eq_getElem hkl]; rfl
        have hok := List.all_eq_true.1 hall _ (List.getElem_mem hkl)
        have hbd := hbound k _ (List.getElem?_eq_getElem hkl)
        have hf0 := hfl (off := 0) (t := 3) rfl Ty.ti3 Ty.g3
        rw [Nat.add_zero] at hf0
        have hskk := List.getElem?_eq_getElem hkl
        generalize hsk : ss[k] = s at *
        simp only [weight] at hbd
        simp only [stepOk, Bool.and_eq_true, decide_eq_true_eq] at hok
        obtain ⟨⟨hkr, _⟩, _⟩ := hok
        have hrV : rowV s.kind = rowCells s.kind.toNat := if_pos hkr
        refine xseq (xblock (xseqP (PS := fun l' ds' m' => ds' = [] ∧ (∃ rb, Sl [.agg ⟨stuCells x⟩, .slice (some ⟨b, o, none⟩) ss.length cv, .pointer (some ⟨m.next, 0, none⟩), undef, .string ⟨⟨[]⟩⟩, .int .i64 0, y6, y7, y8, .pointer (some ⟨np, 0, none⟩), .pointer (some ⟨np + 1, 0, none⟩), .int .i64 (k : Nat), .pointer (some ⟨rb, 0, none⟩)] 162 l' ∧ vw m' rb = some ⟨true, 88, false, rowCells s.kind.toNat⟩) ∧ Old m4.next m4 m') ?_ ?_))
        · refine xregQ fun Q' hQ => ?_
          simp [hts, hkl, h, hf0]
          refine xcall (ov_none (by decide)) (row_ok (by have := hO4.1; omega)) ?_ (fun ch m' h => h.elim)
          rintro r m5 ⟨rfl, hO5⟩
          obtain ⟨m6, e6, n6, r6, f6⟩ := alloc_st m5 88 4 [.string ⟨⟨[]⟩⟩, .bool false, .int .i64 0, .string ⟨⟨[]⟩⟩] (rowV s.kind) rfl (rowV_len _) (rowV_one _)
          simp [hts, opExtract, rowV_len, rowV_one]
          rw [← e6]
          subst hQ
          obtain ⟨y12, ts', rfl, hts'⟩ := len_succ hts
          exact ⟨rfl, rfl, ⟨m5.next, Sl.mk rfl (by simp [hts']), by rw [← hrV]; exact r6⟩, hO5.trans ⟨by omega, fun y hy => f6 y (by have := hO5.1; omega)⟩⟩
        clear hts hf0 hfl hld hd hc
        rintro l ds m6 ⟨rfl, ⟨rb, ⟨ts, hts, rfl⟩, hrb⟩, hO6⟩
        have hP6 := hP.keep hO6
        have hO6' : Old np m2 m6 := hO4.trans (hO6.le (by have := hO4.1; omega))
        have hO6m : Old m.next m m6 := hO2.trans (hO6'.le (by omega))
        obtain ⟨b', o', c', h1', hR', ad', dc', ac', cc', hld6, hd6, hc6, _, _⟩ := (hs.old hO6m).flds hO6m.1 hskk
        simp only [Value.slice.injEq, Option.some.injEq, Addr.mk.injEq] at h1'
        obtain ⟨⟨rfl, rfl, -⟩, -, rfl⟩ := h1'
        have hrcl : ((rowCells s.kind.toNat).length = 4) := rfl
        have htk4 : takeN (rowCells s.kind.toNat) 0 4 = rowCells s.kind.toNat := rfl
        refine xdrw 2 fun Q' hQ => ?_
        simp [hts, hrb, hrcl, htk4, hkl, h, hld6]
        refine xcall (ov_none (by decide)) (rline_ok hP6 (by have := hO6'.1; omega) ((hp.old hO2 (by omega)).old hO6' (by omega)) (by omega) hR' (hd6.up (show m.next ≤ np by omega)) (hc6.up (show m.next ≤ np by omega)) (show s.kind = ((s.kind.toNat : Nat) : Int) by omega) (by omega) (by omega) (by omega)) ?_ (fun ch m' h => h.elim)
        rintro r m7 ⟨hP7, hK7⟩
        subst hQ
        refine xregQ fun Q' hQ => ?_
        simp [hts]
        rw [wr64 _ (by omega) (by omega)]
        subst hQ
        refine ⟨ss.length - (k + 1), by omega, k + 1, rfl, by omega, rfl, Sl.mk rfl (by simp [hts]), ?_, hO6'.trans (hK7.old (Nat.le_refl _) (by have := hO6'.1; omega))⟩
        rw [htk]
        simpa [Bool.or_assoc] using hP7
      · simp only [decide_eq_false_iff_not] at h
        obtain rfl : k = ss.length := by omega
        rw [List.take_length] at hP
        exact ⟨rfl, rfl, Sl.mk rfl (by simp [hts]), hP, hO4⟩
    clear hP hK4 hts hts' hkeep2
    rintro l ds m4 ⟨rfl, ⟨ts, hts, rfl⟩, hP, hO4⟩
    have hO' : Old m.next m m4 := hO2.trans (hO4.le (by omega))
    have hrow := hP.2.2
    have htl : (printText x ss).length ≤ 500000300 := by
      have h1 := lines_le ss fun y hy => by
        obtain ⟨j, hj⟩ := List.getElem?_of_mem hy
        obtain ⟨cells, _, _, h3⟩ := hs
        exact (h3 j y hj).1
      simp only [printText, List.length_append]; omega
    refine xseqR (PS := fun l' ds' m' => ds' = [] ∧ m' = m4 ∧ printGreat x ss = false ∧ Sl [.agg ⟨stuCells x⟩, .slice av ss.length cv, .pointer (some ⟨m.next, 0, none⟩), undef, .string ⟨⟨[]⟩⟩, .int .i64 0, y6, y7, y8, .pointer (some ⟨np, 0, none⟩), .pointer (some ⟨np + 1, 0, none⟩)] 164 l')
      (PR := fun l' ds' m' => ds' = [] ∧ Old m.next m m' ∧ gx l' 4 = .string ⟨⟨(printOut x ss).1⟩⟩ ∧ gx l' 5 = .int .i64 (printOut x ss).2) ?_ ?_ ?_
    · refine xseq (xregQ fun Q' hQ => ?_)
      simp [hts, hrow]
      subst hQ
      refine xif (v := printGreat x ss) (by simp [hts]) (fun h => ?_) (fun h => xskip ?_)
      · refine xseq (xregQ fun Q' hQ => ?_)
        simp [hts]
        subst hQ
        exact xret (.inr ⟨rfl, rfl, hO', by simp [gx, printOut, hall, h], by simp [gx, printOut, hall, h]⟩)
      · exact .inl ⟨rfl, rfl, rfl, h, Sl.mk rfl (by simp [hts])⟩
    · clear hts
      rintro l ds m5 ⟨rfl, rfl, h1, ⟨ts, hts, rfl⟩⟩
      refine xseqR (PS := fun l' ds' m' => ds' = [] ∧ m' = m5 ∧ ¬ 1048576 < (printText x ss).length ∧ Sl [.agg ⟨stuCells x⟩, .slice av ss.length cv, .pointer (some ⟨m.next, 0, none⟩), undef, .string ⟨⟨[]⟩⟩, .int .i64 0, y6, y7, y8, .pointer (some ⟨np, 0, none⟩), .pointer (some ⟨np + 1, 0, none⟩)] 164 l')
        (PR := fun l' ds' m' => ds' = [] ∧ Old m.next m m' ∧ gx l' 4 = .string ⟨⟨(printOut x ss).1⟩⟩ ∧ gx l' 5 = .int .i64 (printOut x ss).2) ?_ ?_ ?_
      · refine xseq (xregQ fun Q' hQ => ?_)
        simp [hts, hrow]
        subst hQ
        refine xif (v := decide ((1048576 : Int) < ((printText x ss).length : Int))) (by simp [hts]) (fun h2 => ?_) (fun h2 => xskip ?_)
        · simp only [decide_eq_true_eq] at h2
          replace h2 : 1048576 < (printText x ss).length := by omega
          refine xseq (xregQ fun Q' hQ => ?_)
          simp [hts]
          subst hQ
          exact xret (.inr ⟨rfl, rfl, hO', by simp [gx, printOut, hall, h1, h2], by simp [gx, printOut, hall, h1, h2]⟩)
        · simp only [decide_eq_false_iff_not] at h2
          exact .inl ⟨rfl, rfl, rfl, by omega, Sl.mk rfl (by simp [hts])⟩
      · clear hts
        rintro l ds m6 ⟨rfl, rfl, h2, ⟨ts, hts, rfl⟩⟩
        refine xseq (xregQ fun Q' hQ => ?_)
        simp [hts, hrow]
        subst hQ
        refine xret ⟨rfl, _, resX_two _ _, ?_, hO'⟩
        simp [gx, printOut, hall, h1, h2]
      · rintro l ds m6 ⟨rfl, hO6, h4, h5⟩
        refine ⟨rfl, _, resX_two _ _, ?_, hO6⟩
        rw [h4, h5]
    · rintro l ds m5 ⟨rfl, hO5, h4, h5⟩
      refine ⟨rfl, _, resX_two _ _, ?_, hO5⟩
      rw [h4, h5]
  · rintro l ds m2 ⟨rfl, hO, hno, h4, h5⟩
    refine ⟨rfl, _, resX_two _ _, ?_, hO⟩
    rw [h4, h5, printOut, if_neg hno]
end Go.Proofs.YtgmkbdmgifdfeaaGreatDoor
