/- Grammars compared: both sides. Conditions: none beyond that they can be read. -/
import Derived.Test.YthifibjkgiggfaaGrmEqF
import Derived.Test.YthifibjkgiggfaaRulEqR
import Derived.Deep.QuietTactic
import Derived.BigQuiet
namespace Go.Proofs.Ythifibjkgiggfaa
set_option maxRecDepth 100000
open Go.RowKit Go.WideShapes
set_option linter.unusedVariables false
def eqGrm (D : Nat) (a b : Grm) : Bool := eqL (eqSym D) a.symbols b.symbols && eqL (eqRul D) a.rules b.rules
theorem eqGrm_lens {D : Nat} {a b : Grm} (h : ¬ (a.symbols.length = b.symbols.length ∧ a.rules.length = b.rules.length)) : eqGrm D a b = false := by
  unfold eqGrm
  by_cases h1 : a.symbols.length = b.symbols.length
  · rw [eqL_len (f := eqRul D) (fun e => h ⟨h1, e⟩), Bool.and_false]
  · rw [eqL_len (f := eqSym D) h1, Bool.false_and]
set_option maxRecDepth 100000 in
set_option maxHeartbeats 4000000 in
theorem i_EqualGrammar (D : Nat) (x y : Grm) (cs cs' : List Value) (F F' : List Nat) (w : World) (h : GrmR D w x cs F) (h' : GrmR D w y cs' F') :
    Calls Try.prog 37 #[.agg cs.toArray, .agg cs'.toArray] w fun en w' => en = .returned (.bool (eqGrm D x y)) ∧ Below w.heap.size w w' := by
  obtain ⟨p0, p1, rfl⟩ := list2 ((GrmR.good D).len h)
  obtain ⟨q0, q1, rfl⟩ := list2 ((GrmR.good D).len h')
  obtain ⟨v0, F0, v1, F1, _, ⟨h0, g0⟩, ⟨h1, g1⟩, rfl⟩ := h
  obtain ⟨u0, G0, u1, G1, _, ⟨k0, m0⟩, ⟨k1, m1⟩, rfl⟩ := h'
  obtain rfl := Option.some.inj h0
  obtain rfl := Option.some.inj h1
  obtain rfl := Option.some.inj k0
  obtain rfl := Option.some.inj k1
  obtain ⟨A0, c0, rfl, hc0, hm0⟩ := g0.form
  obtain ⟨A1, c1, rfl, hc1, hm1⟩ := g1.form
  obtain ⟨B0, d0, rfl, hd0, hn0'⟩ := m0.form
  obtain ⟨B1, d1, rfl, hd1, hn1'⟩ := m1.form
  unfold maxLen at hm0 hm1 hn0' hn1'
  have Lg0 := hide (g0.lt (SymR.good D))
  have Hg0 : Hid (∀ W : World, Below w.heap.size w W → SlR 2 (SymR D) W x.symbols (.slice A0 x.symbols.length c0) F0) := hide fun W hW => g0.below (SymR.good D) hW Lg0.out
  have Lg1 := hide (g1.lt (RulR.good D))
  have Hg1 : Hid (∀ W : World, Below w.heap.size w W → SlR 6 (RulR D) W x.rules (.slice A1 x.rules.length c1) F1) := hide fun W hW => g1.below (RulR.good D) hW Lg1.out
  have Lm0 := hide (m0.lt (SymR.good D))
  have Hm0 : Hid (∀ W : World, Below w.heap.size w W → SlR 2 (SymR D) W y.symbols (.slice B0 y.symbols.length d0) G0) := hide fun W hW => m0.below (SymR.good D) hW Lm0.out
  have Lm1 := hide (m1.lt (RulR.good D))
  have Hm1 : Hid (∀ W : World, Below w.heap.size w W → SlR 6 (RulR D) W y.rules (.slice B1 y.rules.length d1) G1) := hide fun W hW => m1.below (RulR.good D) hW Lm1.out
  have hlx : x.symbols.length ≤ 9223372036854775807 := by omega
  have hly : y.symbols.length ≤ 9223372036854775807 := by omega
  have hrx : x.rules.length ≤ 9223372036854775807 := by omega
  have hry : y.rules.length ≤ 9223372036854775807 := by omega
  obtain ⟨C1, C2, hz0, hw0⟩ := boxes2 w [.slice A0 x.symbols.length c0, .slice A1 x.rules.length c1] [.slice B0 y.symbols.length d0, .slice B1 y.rules.length d1] 69 69
  show Calls _ _ #[.agg #[.slice A0 x.symbols.length c0, .slice A1 x.rules.length c1], .agg #[.slice B0 y.symbols.length d0, .slice B1 y.rules.length d1]] w _
  clear g0 g1 m0 m1 h0 h1 k0 k1 hc0 hc1 hd0 hd1 hm0 hm1 hn0' hn1'
  cases t0 : eqL (eqSym D) x.symbols y.symbols
  · have Hr : Hid (eqGrm D x y = false) := hide (by simp only [eqGrm, t0, Bool.false_and])
    go_enter Try.func37, Try.ntmps37
    go_wp2_with fail
    generalize (w.alloc (Obj.cells #[.slice A0 x.symbols.length c0, .slice A1 x.rules.length c1] 69)).alloc (Obj.cells #[.slice B0 y.symbols.length d0, .slice B1 y.rules.length d1] 69) = W0 at C1 C2 hz0 hw0 ⊢
    have hn0 : w.heap.size + 2 ≤ W0.heap.size := by omega
    have Hw : Hid (∀ W : World, Below (w.heap.size + 2) W0 W → Below w.heap.size w W) := hide fun W h => hw0.trans (h.mono (by omega))
    have hB0 : Below (w.heap.size + 2) W0 W0 := Below.refl _ _
    have e0 := cell_rule C1 (n := w.heap.size + 2) (by omega) 0 rfl
    have e1 := cell_rule C1 (n := w.heap.size + 2) (by omega) 1 rfl
    have g0 := cell_rule C2 (n := w.heap.size + 2) (by omega) 0 rfl
    have g1 := cell_rule C2 (n := w.heap.size + 2) (by omega) 1 rfl
    clear C1 C2 hz0 hw0
    refine Calls.mono (i_eqFuncSym D x.symbols y.symbols A0 B0 c0 d0 F0 G0 W0 (Hg0.out W0 (Hw.out W0 hB0)) (Hm0.out W0 (Hw.out W0 hB0))) ?_
    rintro en w1 ⟨rfl, hb⟩
    have hB1 : Below (w.heap.size + 2) W0 w1 := below_step hB0 hn0 hb
    clear hb
    rw [t0]
    go_wp2_with fail
    go_ret
    exact ⟨ret_bool Hr.out.symm, Hw.out _ hB1⟩
  · have Hr : Hid (eqGrm D x y = eqL (eqRul D) x.rules y.rules) := hide (by simp only [eqGrm, t0, Bool.true_and])
    go_enter Try.func37, Try.ntmps37
    go_wp2_with fail
    generalize (w.alloc (Obj.cells #[.slice A0 x.symbols.length c0, .slice A1 x.rules.length c1] 69)).alloc (Obj.cells #[.slice B0 y.symbols.length d0, .slice B1 y.rules.length d1] 69) = W0 at C1 C2 hz0 hw0 ⊢
    have hn0 : w.heap.size + 2 ≤ W0.heap.size := by omega
    have Hw : Hid (∀ W : World, Below (w.heap.size + 2) W0 W → Below w.heap.size w W) := hide fun W h => hw0.trans (h.mono (by omega))
    have hB0 : Below (w.heap.size + 2) W0 W0 := Below.refl _ _
    have e0 := cell_rule C1 (n := w.heap.size + 2) (by omega) 0 rfl
    have e1 := cell_rule C1 (n := w.heap.size + 2) (by omega) 1 rfl
    have g0 := cell_rule C2 (n := w.heap.size + 2) (by omega) 0 rfl
    have g1 := cell_rule C2 (n := w.heap.size + 2) (by omega) 1 rfl
    clear C1 C2 hz0 hw0
    refine Calls.mono (i_eqFuncSym D x.symbols y.symbols A0 B0 c0 d0 F0 G0 W0 (Hg0.out W0 (Hw.out W0 hB0)) (Hm0.out W0 (Hw.out W0 hB0))) ?_
    rintro en w1 ⟨rfl, hb⟩
    have hB1 : Below (w.heap.size + 2) W0 w1 := below_step hB0 hn0 hb
    clear hb
    rw [t0]
    go_wp2_with fail
    refine Calls.mono (i_eqFuncRul D x.rules y.rules A1 B1 c1 d1 F1 G1 w1 (Hg1.out w1 (Hw.out w1 hB1)) (Hm1.out w1 (Hw.out w1 hB1))) ?_
    rintro en w2 ⟨rfl, hb⟩
    have hB2 : Below (w.heap.size + 2) W0 w2 := below_step hB1 hn0 hb
    clear hb
    go_wp2_with fail
    go_ret
    exact ⟨ret_bool Hr.out.symm, Hw.out _ hB2⟩
set_option maxRecDepth 100000 in
set_option maxHeartbeats 4000000 in
theorem s_EqualGrammar (D : Nat) (x y : Grm) (cs cs' : List Value) (F F' : List Nat) (w : World) (h : GrmR D w x cs F) (h' : GrmR D w y cs' F') :
    Calls Try.prog 35 #[.agg cs.toArray, .agg cs'.toArray] w fun en w' => en = .returned (.bool (eqGrm D x y)) ∧ Below w.heap.size w w' := by
  obtain ⟨p0, p1, rfl⟩ := list2 ((GrmR.good D).len h)
  obtain ⟨q0, q1, rfl⟩ := list2 ((GrmR.good D).len h')
  obtain ⟨v0, F0, v1, F1, _, ⟨h0, g0⟩, ⟨h1, g1⟩, rfl⟩ := h
  obtain ⟨u0, G0, u1, G1, _, ⟨k0, m0⟩, ⟨k1, m1⟩, rfl⟩ := h'
  obtain rfl := Option.some.inj h0
  obtain rfl := Option.some.inj h1
  obtain rfl := Option.some.inj k0
  obtain rfl := Option.some.inj k1
  obtain ⟨A0, c0, rfl, hc0, hm0⟩ := g0.form
  obtain ⟨A1, c1, rfl, hc1, hm1⟩ := g1.form
  obtain ⟨B0, d0, rfl, hd0, hn0'⟩ := m0.form
  obtain ⟨B1, d1, rfl, hd1, hn1'⟩ := m1.form
  unfold maxLen at hm0 hm1 hn0' hn1'
  have Lg0 := hide (g0.lt (SymR.good D))
  have Hg0 : Hid (∀ W : World, Below w.heap.size w W → SlR 2 (SymR D) W x.symbols (.slice A0 x.symbols.length c0) F0) := hide fun W hW => g0.below (SymR.good D) hW Lg0.out
  have Lg1 := hide (g1.lt (RulR.good D))
  have Hg1 : Hid (∀ W : World, Below w.heap.size w W → SlR 6 (RulR D) W x.rules (.slice A1 x.rules.length c1) F1) := hide fun W hW => g1.below (RulR.good D) hW Lg1.out
  have Lm0 := hide (m0.lt (SymR.good D))
  have Hm0 : Hid (∀ W : World, Below w.heap.size w W → SlR 2 (SymR D) W y.symbols (.slice B0 y.symbols.length d0) G0) := hide fun W hW => m0.below (SymR.good D) hW Lm0.out
  have Lm1 := hide (m1.lt (RulR.good D))
  have Hm1 : Hid (∀ W : World, Below w.heap.size w W → SlR 6 (RulR D) W y.rules (.slice B1 y.rules.length d1) G1) := hide fun W hW => m1.below (RulR.good D) hW Lm1.out
  have hlx : x.symbols.length ≤ 9223372036854775807 := by omega
  have hly : y.symbols.length ≤ 9223372036854775807 := by omega
  have hrx : x.rules.length ≤ 9223372036854775807 := by omega
  have hry : y.rules.length ≤ 9223372036854775807 := by omega
  obtain ⟨C1, C2, hz0, hw0⟩ := boxes2 w [.slice A0 x.symbols.length c0, .slice A1 x.rules.length c1] [.slice B0 y.symbols.length d0, .slice B1 y.rules.length d1] 69 69
  show Calls _ _ #[.agg #[.slice A0 x.symbols.length c0, .slice A1 x.rules.length c1], .agg #[.slice B0 y.symbols.length d0, .slice B1 y.rules.length d1]] w _
  clear g0 g1 m0 m1 h0 h1 k0 k1 hc0 hc1 hd0 hd1 hm0 hm1 hn0' hn1'
  by_cases hls : x.symbols.length = y.symbols.length
  case neg =>
    have hne : ((x.symbols.length : Int) != (y.symbols.length : Int)) = true := by rw [bne_iff_ne]; omega
    have Hr : Hid (eqGrm D x y = false) := hide (eqGrm_lens fun h => hls h.1)
    go_enter Try.func35, Try.ntmps35
    go_wp2_with fail
    go_ret
    exact ⟨ret_bool Hr.out.symm, hw0⟩
  have t1 : ((x.symbols.length : Int) != (y.symbols.length : Int)) = false := by rw [hls]; simp
  by_cases hlr : x.rules.length = y.rules.length
  case neg =>
    have hne : ((x.rules.length : Int) != (y.rules.length : Int)) = true := by rw [bne_iff_ne]; omega
    have Hr : Hid (eqGrm D x y = false) := hide (eqGrm_lens fun h => hlr h.2)
    clear hls hlr
    go_enter Try.func35, Try.ntmps35
    go_wp2_with fail
    go_ret
    exact ⟨ret_bool Hr.out.symm, hw0⟩
  have t2 : ((x.rules.length : Int) != (y.rules.length : Int)) = false := by rw [hlr]; simp
  have Hls := hide hls
  have Hlr := hide hlr
  clear hls hlr
  go_enter Try.func35, Try.ntmps35
  go_wp2_with fail
  generalize (w.alloc (Obj.cells #[.slice A0 x.symbols.length c0, .slice A1 x.rules.length c1] 69)).alloc (Obj.cells #[.slice B0 y.symbols.length d0, .slice B1 y.rules.length d1] 69) = W0 at C1 C2 hz0 hw0 ⊢
  have hn0 : w.heap.size + 2 ≤ W0.heap.size := by omega
  have Hw : Hid (∀ W : World, Below (w.heap.size + 2) W0 W → Below w.heap.size w W) := hide fun W h => hw0.trans (h.mono (by omega))
  have hB0 : Below (w.heap.size + 2) W0 W0 := Below.refl _ _
  have e0 := cell_rule C1 (n := w.heap.size + 2) (by omega) 0 rfl
  have e1 := cell_rule C1 (n := w.heap.size + 2) (by omega) 1 rfl
  have g0 := cell_rule C2 (n := w.heap.size + 2) (by omega) 0 rfl
  have g1 := cell_rule C2 (n := w.heap.size + 2) (by omega) 1 rfl
  clear C1 C2 hz0 hw0
  go_loopw [5] (fun i wr => ∃ j : Nat, j ≤ x.symbols.length ∧ i = .int .i64 j ∧ Hid (∀ k X Y, k < j → x.symbols[k]? = some X → y.symbols[k]? = some Y → eqSym D X Y = true) ∧ Hid (Below (w.heap.size + 2) W0 wr)) (fun i _ => x.symbols.length - (intOf i).toNat)
  case atStart => exact ⟨0, by omega, rfl, hide (fun k X Y h => absurd h (by omega)), hide hB0⟩
  case round =>
    obtain ⟨j, hj, rfl, Hall, Hb⟩ := hrel
    have hBr := Hb.out
    by_cases hlt : j < x.symbols.length
    · have hlt' : j < y.symbols.length := by have := Hls.out; omega
      have hX : x.symbols[j]? = some x.symbols[j] := List.getElem?_eq_getElem hlt
      have hY : y.symbols[j]? = some y.symbols[j] := List.getElem?_eq_getElem hlt'
      generalize x.symbols[j] = X at hX
      generalize y.symbols[j] = Y at hY
      obtain ⟨b, off, cs, Fk, hA, _, hbF, hFk, hcl, hcat, hR⟩ := SlR.get (SymR.good D) (Hg0.out W0 (Hw.out W0 hB0)) hX
      subst hA
      obtain ⟨b', off', cs', Fk', hA, _, hbF', hFk', hcl', hcat', hR'⟩ := SlR.get (SymR.good D) (Hm0.out W0 (Hw.out W0 hB0)) hY
      subst hA
      have hltA : b < w.heap.size + 2 := Nat.lt_of_lt_of_le (Lg0.out b hbF) (by omega)
      have hltB : b' < w.heap.size + 2 := Nat.lt_of_lt_of_le (Lm0.out b' hbF') (by omega)
      have HF : Hid (∀ k ∈ Fk, k < w.heap.size + 2) := hide fun k hk => Nat.lt_of_lt_of_le (Lg0.out k (hFk k hk)) (by omega)
      have HF' : Hid (∀ k ∈ Fk', k < w.heap.size + 2) := hide fun k hk => Nat.lt_of_lt_of_le (Lm0.out k (hFk' k hk)) (by omega)
      obtain ⟨a0, a1, rfl⟩ := list2 hcl
      obtain ⟨b0, b1, rfl⟩ := list2 hcl'
      obtain ⟨_, f1, _, _, r0, ⟨r1, hE⟩, rfl⟩ := hR
      obtain ⟨_, f1', _, _, r0', ⟨r1', hE'⟩, rfl⟩ := hR'
      obtain rfl := Option.some.inj r0
      obtain rfl := Option.some.inj r1
      obtain rfl := Option.some.inj r0'
      obtain rfl := Option.some.inj r1'
      have p0 : ∀ W : World, Below (w.heap.size + 2) W0 W → W.cell? ⟨b, off + j * 2, none⟩ = some (.string X.name) := fun W h => (hcat.below h hltA) 0 _ rfl
      have p1 : ∀ W : World, Below (w.heap.size + 2) W0 W → W.cell? ⟨b, off + j * 2 + 1, none⟩ = some a1 := fun W h => (hcat.below h hltA) 1 _ rfl
      have q0 : ∀ W : World, Below (w.heap.size + 2) W0 W → W.cell? ⟨b', off' + j * 2, none⟩ = some (.string Y.name) := fun W h => (hcat'.below h hltB) 0 _ rfl
      have q1 : ∀ W : World, Below (w.heap.size + 2) W0 W → W.cell? ⟨b', off' + j * 2 + 1, none⟩ = some b1 := fun W h => (hcat'.below h hltB) 1 _ rfl
      have HE : Hid (∀ W : World, Below (w.heap.size + 2) W0 W → SlR 4 (AtrR D) W X.attrs a1 Fk) := hide fun W h => hE.below (AtrR.good D) h HF.out
      have HE' : Hid (∀ W : World, Below (w.heap.size + 2) W0 W → SlR 4 (AtrR D) W Y.attrs b1 Fk') := hide fun W h => hE'.below (AtrR.good D) h HF'.out
      have hj0 : (0 : Int) ≤ (j : Int) := by omega
      have hj1 : (j : Int) < (x.symbols.length : Int) := by omega
      have hj2 : (j : Int) < (y.symbols.length : Int) := by omega
      have HX := hide hX
      have HY := hide hY
      clear hX hY hcat hcat' hFk hFk' hbF hbF' hcl hcl' r0 r1 r0' r1' hE hE' hlt'
      cases hq : (X.name.toList == Y.name.toList)
      case false =>
        have Hbad : Hid (eqGrm D x y = false) := hide (by unfold eqGrm; rw [eqL_bad (f := eqSym D) HX.out HY.out (by unfold eqSym; rw [hq, Bool.false_and]), Bool.false_and])
        go_wp2_with fail
        go_quiet (fail)
        go_wp2_with fail
        go_ret
        exact ⟨ret_bool Hbad.out.symm, Hw.out _ (by first | exact below_drewN hBr _ | assumption | exact Below.drew (by assumption))⟩
      have Hq := hide hq
      cases hx : eqL (eqAtr D) X.attrs Y.attrs
      · have Hbad : Hid (eqGrm D x y = false) := hide (by unfold eqGrm; rw [eqL_bad (f := eqSym D) HX.out HY.out (by unfold eqSym; rw [hx, Bool.and_false]), Bool.false_and])
        go_wp2_with fail
        go_region_held3 (fun W => Below (w.heap.size + 2) W0 W)
          (first | assumption | exact Below.drew (by assumption))
          ((go_at_call 94; refine Calls.mono (s_l10Attributes D X.attrs Y.attrs _ _ Fk Fk' _ (HE.out _ (by (repeat (first | assumption | apply Below.drew)))) (HE'.out _ (by (repeat (first | assumption | apply Below.drew))))) ?_; rintro en w2 ⟨rfl, hb⟩; have hB2 : Below (w.heap.size + 2) W0 w2 := below_step (by (repeat (first | assumption | apply Below.drew))) hn0 hb; clear hb; rw [hx]))
        go_wp2_with fail
        go_ret
        exact ⟨ret_bool Hbad.out.symm, Hw.out _ (by first | assumption | exact Below.drew (by assumption))⟩
      have Hgood : Hid (eqSym D X Y = true) := hide (by unfold eqSym; rw [Hq.out, hx]; rfl)
      go_wp2_with fail
      go_region_held3 (fun W => Below (w.heap.size + 2) W0 W)
        (first | assumption | exact Below.drew (by assumption))
        ((go_at_call 94; refine Calls.mono (s_l10Attributes D X.attrs Y.attrs _ _ Fk Fk' _ (HE.out _ (by (repeat (first | assumption | apply Below.drew)))) (HE'.out _ (by (repeat (first | assumption | apply Below.drew))))) ?_; rintro en w2 ⟨rfl, hb⟩; have hB2 : Below (w.heap.size + 2) W0 w2 := below_step (by (repeat (first | assumption | apply Below.drew))) hn0 hb; clear hb; rw [hx]))
      have HB2 : Hid (Below (w.heap.size + 2) W0 _) := hide (by first | assumption | exact Below.drew (by assumption))
      clear hx
      go_wp2_with fail
      go_roundw
      case rel =>
        refine ⟨j + 1, by omega, by go_num, hide (fun k X' Y' hk hx' hy' => ?_), HB2⟩
        by_cases hkj : k < j
        · exact Hall.out k X' Y' hkj hx' hy'
        · have hkj' : k = j := by omega
          subst hkj'
          rw [HX.out] at hx'
          rw [HY.out] at hy'
          injection hx' with hx'
          injection hy' with hy'
          rw [← hx', ← hy']
          exact Hgood.out
      case measure => simp [intOf]; omega
    · have Hr1 : Hid (eqGrm D x y = eqL (eqRul D) x.rules y.rules) := hide (by unfold eqGrm; rw [eqL_all (f := eqSym D) Hls.out (fun k X Y hx hy => Hall.out k X Y (by have := (List.getElem?_eq_some_iff.1 hx).1; omega) hx hy), Bool.true_and])
      have hBq := Hb.out
      clear Hall Hb hBr
      obtain ⟨W1, hW1⟩ : ∃ W, W = wr := ⟨_, rfl⟩
      subst hW1
      go_wp2_with fail
      go_loopw [6] (fun i wr => ∃ j : Nat, j ≤ x.rules.length ∧ i = .int .i64 j ∧ Hid (∀ k X Y, k < j → x.rules[k]? = some X → y.rules[k]? = some Y → eqRul D X Y = true) ∧ Hid (Below (w.heap.size + 2) W0 wr)) (fun i _ => x.rules.length - (intOf i).toNat)
      case atStart => exact ⟨0, by omega, rfl, hide (fun k X Y h => absurd h (by omega)), hide hBq⟩
      case round =>
        obtain ⟨j, hj, rfl, Hall, Hb⟩ := hrel
        have hBr := Hb.out
        clear hBq
        by_cases hlt : j < x.rules.length
        · have hlt' : j < y.rules.length := by have := Hlr.out; omega
          have hX : x.rules[j]? = some x.rules[j] := List.getElem?_eq_getElem hlt
          have hY : y.rules[j]? = some y.rules[j] := List.getElem?_eq_getElem hlt'
          generalize x.rules[j] = X at hX
          generalize y.rules[j] = Y at hY
          obtain ⟨b, off, cs, Fk, hA, _, hbF, hFk, hcl, hcat, hR⟩ := SlR.get (RulR.good D) (Hg1.out W0 (Hw.out W0 hB0)) hX
          subst hA
          obtain ⟨b', off', cs', Fk', hA, _, hbF', hFk', hcl', hcat', hR'⟩ := SlR.get (RulR.good D) (Hm1.out W0 (Hw.out W0 hB0)) hY
          subst hA
          have hltA : b < w.heap.size + 2 := Nat.lt_of_lt_of_le (Lg1.out b hbF) (by omega)
          have hltB : b' < w.heap.size + 2 := Nat.lt_of_lt_of_le (Lm1.out b' hbF') (by omega)
          have HF : Hid (∀ k ∈ Fk, k < w.heap.size + 2) := hide fun k hk => Nat.lt_of_lt_of_le (Lg1.out k (hFk k hk)) (by omega)
          have HF' : Hid (∀ k ∈ Fk', k < w.heap.size + 2) := hide fun k hk => Nat.lt_of_lt_of_le (Lm1.out k (hFk' k hk)) (by omega)
          obtain ⟨a0, a1, a2, a3, a4, a5, rfl⟩ := list_6 hcl
          obtain ⟨b0, b1, b2, b3, b4, b5, rfl⟩ := list_6 hcl'
          have p0 : ∀ W : World, Below (w.heap.size + 2) W0 W → W.cell? ⟨b, off + j * 6, none⟩ = some a0 := fun W h => (hcat.below h hltA) 0 _ rfl
          have q0 : ∀ W : World, Below (w.heap.size + 2) W0 W → W.cell? ⟨b', off' + j * 6, none⟩ = some b0 := fun W h => (hcat'.below h hltB) 0 _ rfl
          have p1 : ∀ W : World, Below (w.heap.size + 2) W0 W → W.cell? ⟨b, off + j * 6 + 1, none⟩ = some a1 := fun W h => (hcat.below h hltA) 1 _ rfl
          have q1 : ∀ W : World, Below (w.heap.size + 2) W0 W → W.cell? ⟨b', off' + j * 6 + 1, none⟩ = some b1 := fun W h => (hcat'.below h hltB) 1 _ rfl
          have p2 : ∀ W : World, Below (w.heap.size + 2) W0 W → W.cell? ⟨b, off + j * 6 + 2, none⟩ = some a2 := fun W h => (hcat.below h hltA) 2 _ rfl
          have q2 : ∀ W : World, Below (w.heap.size + 2) W0 W → W.cell? ⟨b', off' + j * 6 + 2, none⟩ = some b2 := fun W h => (hcat'.below h hltB) 2 _ rfl
          have p3 : ∀ W : World, Below (w.heap.size + 2) W0 W → W.cell? ⟨b, off + j * 6 + 3, none⟩ = some a3 := fun W h => (hcat.below h hltA) 3 _ rfl
          have q3 : ∀ W : World, Below (w.heap.size + 2) W0 W → W.cell? ⟨b', off' + j * 6 + 3, none⟩ = some b3 := fun W h => (hcat'.below h hltB) 3 _ rfl
          have p4 : ∀ W : World, Below (w.heap.size + 2) W0 W → W.cell? ⟨b, off + j * 6 + 4, none⟩ = some a4 := fun W h => (hcat.below h hltA) 4 _ rfl
          have q4 : ∀ W : World, Below (w.heap.size + 2) W0 W → W.cell? ⟨b', off' + j * 6 + 4, none⟩ = some b4 := fun W h => (hcat'.below h hltB) 4 _ rfl
          have p5 : ∀ W : World, Below (w.heap.size + 2) W0 W → W.cell? ⟨b, off + j * 6 + 5, none⟩ = some a5 := fun W h => (hcat.below h hltA) 5 _ rfl
          have q5 : ∀ W : World, Below (w.heap.size + 2) W0 W → W.cell? ⟨b', off' + j * 6 + 5, none⟩ = some b5 := fun W h => (hcat'.below h hltB) 5 _ rfl
          have HE : Hid (∀ W : World, Below (w.heap.size + 2) W0 W → RulR D W X [a0, a1, a2, a3, a4, a5] Fk) := hide fun W h => (RulR.good D).below hR h HF.out
          have HE' : Hid (∀ W : World, Below (w.heap.size + 2) W0 W → RulR D W Y [b0, b1, b2, b3, b4, b5] Fk') := hide fun W h => (RulR.good D).below hR' h HF'.out
          have hj0 : (0 : Int) ≤ (j : Int) := by omega
          have hj1 : (j : Int) < (x.rules.length : Int) := by omega
          have hj2 : (j : Int) < (y.rules.length : Int) := by omega
          have HX := hide hX
          have HY := hide hY
          clear hX hY hcat hcat' hFk hFk' hbF hbF' hcl hcl' hR hR' hlt'
          cases hx : eqRul D X Y
          · have Hbad : Hid (eqGrm D x y = false) := hide (by rw [Hr1.out, eqL_bad (f := eqRul D) HX.out HY.out hx])
            go_wp2_with fail
            go_region_held3 (fun W => Below (w.heap.size + 2) W0 W)
              (first | assumption | exact Below.drew (by assumption))
              ((go_at_call 95; refine Calls.mono (s_EqualRule D X Y _ _ Fk Fk' _ (HE.out _ (by (repeat (first | assumption | apply Below.drew)))) (HE'.out _ (by (repeat (first | assumption | apply Below.drew))))) ?_; rintro en w2 ⟨rfl, hb⟩; have hB2 : Below (w.heap.size + 2) W0 w2 := below_step (by (repeat (first | assumption | apply Below.drew))) hn0 hb; clear hb; rw [hx]))
            go_wp2_with fail
            go_ret
            exact ⟨ret_bool Hbad.out.symm, Hw.out _ (by first | assumption | exact Below.drew (by assumption))⟩
          have Hgood : Hid (eqRul D X Y = true) := hide (by exact hx)
          go_wp2_with fail
          go_region_held3 (fun W => Below (w.heap.size + 2) W0 W)
            (first | assumption | exact Below.drew (by assumption))
            ((go_at_call 95; refine Calls.mono (s_EqualRule D X Y _ _ Fk Fk' _ (HE.out _ (by (repeat (first | assumption | apply Below.drew)))) (HE'.out _ (by (repeat (first | assumption | apply Below.drew))))) ?_; rintro en w2 ⟨rfl, hb⟩; have hB2 : Below (w.heap.size + 2) W0 w2 := below_step (by (repeat (first | assumption | apply Below.drew))) hn0 hb; clear hb; rw [hx]))
          have HB2 : Hid (Below (w.heap.size + 2) W0 _) := hide (by first | assumption | exact Below.drew (by assumption))
          clear hx
          go_wp2_with fail
          go_roundw
          case rel =>
            refine ⟨j + 1, by omega, by go_num, hide (fun k X' Y' hk hx' hy' => ?_), HB2⟩
            by_cases hkj : k < j
            · exact Hall.out k X' Y' hkj hx' hy'
            · have hkj' : k = j := by omega
              subst hkj'
              rw [HX.out] at hx'
              rw [HY.out] at hy'
              injection hx' with hx'
              injection hy' with hy'
              rw [← hx', ← hy']
              exact Hgood.out
          case measure => simp [intOf]; omega
        · have Hyes : Hid (eqGrm D x y = true) := hide (by rw [Hr1.out]; exact eqL_all Hlr.out (fun k X Y hx hy => Hall.out k X Y (by have := (List.getElem?_eq_some_iff.1 hx).1; omega) hx hy))
          go_wp2_with fail
          go_ret
          exact ⟨ret_bool Hyes.out.symm, Hw.out _ hBr⟩
end Go.Proofs.Ythifibjkgiggfaa
