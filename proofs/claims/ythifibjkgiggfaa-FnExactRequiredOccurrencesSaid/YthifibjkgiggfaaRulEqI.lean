/- Rules compared: both sides. Conditions: none beyond that the rules can be read. -/
import Derived.Test.YthifibjkgiggfaaRulEqF
import Derived.Test.YthifibjkgiggfaaOccEq
namespace Go.Proofs.Ythifibjkgiggfaa
set_option maxRecDepth 100000
open Go.RowKit Go.WideShapes
set_option linter.unusedVariables false

def eqRul (D : Nat) (a b : Rul) : Bool := (a.name.toList == b.name.toList) && ((a.left.toList == b.left.toList) && (decide (a.right = b.right) && ((a.lit == b.lit) && (eqL (eqEqn D) a.eqs b.eqs && eqL (eqCon D) a.cons b.cons))))
theorem eqRul_lens {D : Nat} {a b : Rul} (h : ¬ (a.eqs.length = b.eqs.length ∧ a.cons.length = b.cons.length)) : eqRul D a b = false := by
  by_cases h1 : a.eqs.length = b.eqs.length
  · have h2 : a.cons.length ≠ b.cons.length := fun e => h ⟨h1, e⟩
    unfold eqRul
    rw [eqL_len (f := eqCon D) h2]
    simp
  · unfold eqRul
    rw [eqL_len (f := eqEqn D) h1]
    simp

set_option maxHeartbeats 4000000 in
theorem i_EqualRule (D : Nat) (x y : Rul) (cs cs' : List Value) (F F' : List Nat) (w : World) (h : RulR D w x cs F) (h' : RulR D w y cs' F') :
    Calls Try.prog 102 #[.agg cs.toArray, .agg cs'.toArray] w fun en w' => en = .returned (.bool (eqRul D x y)) ∧ Below w.heap.size w w' := by
  obtain ⟨p0, p1, p2, p3, p4, p5, rfl⟩ := list_6 ((RulR.good D).len h)
  obtain ⟨q0, q1, q2, q3, q4, q5, rfl⟩ := list_6 ((RulR.good D).len h')
  obtain ⟨v2, F2, v4, F4, v5, F5, hl, _, h0, h1, ⟨h2, g2⟩, h3, ⟨h4, g4⟩, ⟨h5, g5⟩, rfl⟩ := h
  obtain ⟨u2, G2, u4, G4, u5, G5, hl', _, k0, k1, ⟨k2, m2⟩, k3, ⟨k4, m4⟩, ⟨k5, m5⟩, rfl⟩ := h'
  obtain rfl := Option.some.inj h0
  obtain rfl := Option.some.inj h1
  obtain rfl := Option.some.inj h2
  obtain rfl := Option.some.inj h3
  obtain rfl := Option.some.inj h4
  obtain rfl := Option.some.inj h5
  obtain rfl := Option.some.inj k0
  obtain rfl := Option.some.inj k1
  obtain rfl := Option.some.inj k2
  obtain rfl := Option.some.inj k3
  obtain rfl := Option.some.inj k4
  obtain rfl := Option.some.inj k5
  obtain ⟨A2, c2, rfl, _, _⟩ := g2.form
  obtain ⟨A4, c4, rfl, hc4, hm4⟩ := g4.form
  obtain ⟨A5, c5, rfl, hc5, hm5⟩ := g5.form
  obtain ⟨B2, d2, rfl, _, _⟩ := m2.form
  obtain ⟨B4, d4, rfl, hd4, hn4⟩ := m4.form
  obtain ⟨B5, d5, rfl, hd5, hn5⟩ := m5.form
  unfold maxLen at hm4 hm5 hn4 hn5
  have Lg2 := hide (g2.lt (StrR.good D))
  have Hg2 : Hid (∀ W : World, Below w.heap.size w W → SlR 1 (StrR D) W x.right (.slice A2 x.right.length c2) F2) := hide fun W hW => g2.below (StrR.good D) hW Lg2.out
  have Lg4 := hide (g4.lt (EqnR.good D))
  have Hg4 : Hid (∀ W : World, Below w.heap.size w W → SlR 9 (EqnR D) W x.eqs (.slice A4 x.eqs.length c4) F4) := hide fun W hW => g4.below (EqnR.good D) hW Lg4.out
  have Lg5 := hide (g5.lt (ConR.good D))
  have Hg5 : Hid (∀ W : World, Below w.heap.size w W → SlR 16 (ConR D) W x.cons (.slice A5 x.cons.length c5) F5) := hide fun W hW => g5.below (ConR.good D) hW Lg5.out
  have Lm2 := hide (m2.lt (StrR.good D))
  have Hm2 : Hid (∀ W : World, Below w.heap.size w W → SlR 1 (StrR D) W y.right (.slice B2 y.right.length d2) G2) := hide fun W hW => m2.below (StrR.good D) hW Lm2.out
  have Lm4 := hide (m4.lt (EqnR.good D))
  have Hm4 : Hid (∀ W : World, Below w.heap.size w W → SlR 9 (EqnR D) W y.eqs (.slice B4 y.eqs.length d4) G4) := hide fun W hW => m4.below (EqnR.good D) hW Lm4.out
  have Lm5 := hide (m5.lt (ConR.good D))
  have Hm5 : Hid (∀ W : World, Below w.heap.size w W → SlR 16 (ConR D) W y.cons (.slice B5 y.cons.length d5) G5) := hide fun W hW => m5.below (ConR.good D) hW Lm5.out
  obtain ⟨C1, C2, hz0, hw0⟩ := boxes2 w [.string x.name, .string x.left, .slice A2 x.right.length c2, .bool x.lit, .slice A4 x.eqs.length c4, .slice A5 x.cons.length c5] [.string y.name, .string y.left, .slice B2 y.right.length d2, .bool y.lit, .slice B4 y.eqs.length d4, .slice B5 y.cons.length d5] 39 39
  show Calls _ _ #[.agg #[.string x.name, .string x.left, .slice A2 x.right.length c2, .bool x.lit, .slice A4 x.eqs.length c4, .slice A5 x.cons.length c5], .agg #[.string y.name, .string y.left, .slice B2 y.right.length d2, .bool y.lit, .slice B4 y.eqs.length d4, .slice B5 y.cons.length d5]] w _
  clear g2 g4 g5 m2 m4 m5 hl hl' h0 h1 h2 h3 h4 h5 k0 k1 k2 k3 k4 k5
  cases t0 : (x.name.toList == y.name.toList)
  · have Hr : Hid (eqRul D x y = false) := hide (by simp only [eqRul, t0, Bool.false_and, Bool.and_false])
    go_enter Try.func102, Try.ntmps102
    go_wp2_with fail
    go_ret
    exact ⟨ret_bool Hr.out.symm, hw0⟩
  cases t1 : (x.left.toList == y.left.toList)
  · have Hr : Hid (eqRul D x y = false) := hide (by simp only [eqRul, t0, t1, Bool.false_and, Bool.and_false])
    go_enter Try.func102, Try.ntmps102
    go_wp2_with fail
    go_ret
    exact ⟨ret_bool Hr.out.symm, hw0⟩
  cases t2 : (decide (x.right = y.right))
  · have Hr : Hid (eqRul D x y = false) := hide (by simp only [eqRul, t0, t1, t2, Bool.false_and, Bool.and_false])
    go_enter Try.func102, Try.ntmps102
    go_wp2_with fail
    generalize (w.alloc (Obj.cells #[.string x.name, .string x.left, .slice A2 x.right.length c2, .bool x.lit, .slice A4 x.eqs.length c4, .slice A5 x.cons.length c5] 39)).alloc (Obj.cells #[.string y.name, .string y.left, .slice B2 y.right.length d2, .bool y.lit, .slice B4 y.eqs.length d4, .slice B5 y.cons.length d5] 39) = W0 at C1 C2 hz0 hw0 ⊢
    have hn0 : w.heap.size + 2 ≤ W0.heap.size := by omega
    have Hw : Hid (∀ W : World, Below (w.heap.size + 2) W0 W → Below w.heap.size w W) := hide fun W h => hw0.trans (h.mono (by omega))
    have hB0 : Below (w.heap.size + 2) W0 W0 := Below.refl _ _
    have e0 := cell_rule C1 (n := w.heap.size + 2) (by omega) 0 rfl
    have g0 := cell_rule C2 (n := w.heap.size + 2) (by omega) 0 rfl
    have e1 := cell_rule C1 (n := w.heap.size + 2) (by omega) 1 rfl
    have g1 := cell_rule C2 (n := w.heap.size + 2) (by omega) 1 rfl
    have e2 := cell_rule C1 (n := w.heap.size + 2) (by omega) 2 rfl
    have g2 := cell_rule C2 (n := w.heap.size + 2) (by omega) 2 rfl
    have e3 := cell_rule C1 (n := w.heap.size + 2) (by omega) 3 rfl
    have g3 := cell_rule C2 (n := w.heap.size + 2) (by omega) 3 rfl
    have e4 := cell_rule C1 (n := w.heap.size + 2) (by omega) 4 rfl
    have g4 := cell_rule C2 (n := w.heap.size + 2) (by omega) 4 rfl
    have e5 := cell_rule C1 (n := w.heap.size + 2) (by omega) 5 rfl
    have g5 := cell_rule C2 (n := w.heap.size + 2) (by omega) 5 rfl
    clear C1 C2 hz0 hw0
    refine Calls.mono (t_EqualS D x.right y.right _ _ F2 G2 W0 (Hg2.out W0 (Hw.out W0 hB0)) (Hm2.out W0 (Hw.out W0 hB0))) ?_
    rintro en w1 ⟨rfl, hb⟩
    have hB1 : Below (w.heap.size + 2) W0 w1 := below_step hB0 hn0 hb
    clear hb
    rw [t2]
    go_wp2_with fail
    go_ret
    exact ⟨ret_bool Hr.out.symm, Hw.out _ hB1⟩
  cases t3 : (x.lit == y.lit)
  · have Hr : Hid (eqRul D x y = false) := hide (by simp only [eqRul, t0, t1, t2, t3, Bool.false_and, Bool.and_false])
    go_enter Try.func102, Try.ntmps102
    go_wp2_with fail
    generalize (w.alloc (Obj.cells #[.string x.name, .string x.left, .slice A2 x.right.length c2, .bool x.lit, .slice A4 x.eqs.length c4, .slice A5 x.cons.length c5] 39)).alloc (Obj.cells #[.string y.name, .string y.left, .slice B2 y.right.length d2, .bool y.lit, .slice B4 y.eqs.length d4, .slice B5 y.cons.length d5] 39) = W0 at C1 C2 hz0 hw0 ⊢
    have hn0 : w.heap.size + 2 ≤ W0.heap.size := by omega
    have Hw : Hid (∀ W : World, Below (w.heap.size + 2) W0 W → Below w.heap.size w W) := hide fun W h => hw0.trans (h.mono (by omega))
    have hB0 : Below (w.heap.size + 2) W0 W0 := Below.refl _ _
    have e0 := cell_rule C1 (n := w.heap.size + 2) (by omega) 0 rfl
    have g0 := cell_rule C2 (n := w.heap.size + 2) (by omega) 0 rfl
    have e1 := cell_rule C1 (n := w.heap.size + 2) (by omega) 1 rfl
    have g1 := cell_rule C2 (n := w.heap.size + 2) (by omega) 1 rfl
    have e2 := cell_rule C1 (n := w.heap.size + 2) (by omega) 2 rfl
    have g2 := cell_rule C2 (n := w.heap.size + 2) (by omega) 2 rfl
    have e3 := cell_rule C1 (n := w.heap.size + 2) (by omega) 3 rfl
    have g3 := cell_rule C2 (n := w.heap.size + 2) (by omega) 3 rfl
    have e4 := cell_rule C1 (n := w.heap.size + 2) (by omega) 4 rfl
    have g4 := cell_rule C2 (n := w.heap.size + 2) (by omega) 4 rfl
    have e5 := cell_rule C1 (n := w.heap.size + 2) (by omega) 5 rfl
    have g5 := cell_rule C2 (n := w.heap.size + 2) (by omega) 5 rfl
    clear C1 C2 hz0 hw0
    refine Calls.mono (t_EqualS D x.right y.right _ _ F2 G2 W0 (Hg2.out W0 (Hw.out W0 hB0)) (Hm2.out W0 (Hw.out W0 hB0))) ?_
    rintro en w1 ⟨rfl, hb⟩
    have hB1 : Below (w.heap.size + 2) W0 w1 := below_step hB0 hn0 hb
    clear hb
    rw [t2]
    go_wp2_with fail
    go_ret
    exact ⟨ret_bool Hr.out.symm, Hw.out _ hB1⟩
  cases t4 : (eqL (eqEqn D) x.eqs y.eqs)
  · have Hr : Hid (eqRul D x y = false) := hide (by simp only [eqRul, t0, t1, t2, t3, t4, Bool.false_and, Bool.and_false])
    go_enter Try.func102, Try.ntmps102
    go_wp2_with fail
    generalize (w.alloc (Obj.cells #[.string x.name, .string x.left, .slice A2 x.right.length c2, .bool x.lit, .slice A4 x.eqs.length c4, .slice A5 x.cons.length c5] 39)).alloc (Obj.cells #[.string y.name, .string y.left, .slice B2 y.right.length d2, .bool y.lit, .slice B4 y.eqs.length d4, .slice B5 y.cons.length d5] 39) = W0 at C1 C2 hz0 hw0 ⊢
    have hn0 : w.heap.size + 2 ≤ W0.heap.size := by omega
    have Hw : Hid (∀ W : World, Below (w.heap.size + 2) W0 W → Below w.heap.size w W) := hide fun W h => hw0.trans (h.mono (by omega))
    have hB0 : Below (w.heap.size + 2) W0 W0 := Below.refl _ _
    have e0 := cell_rule C1 (n := w.heap.size + 2) (by omega) 0 rfl
    have g0 := cell_rule C2 (n := w.heap.size + 2) (by omega) 0 rfl
    have e1 := cell_rule C1 (n := w.heap.size + 2) (by omega) 1 rfl
    have g1 := cell_rule C2 (n := w.heap.size + 2) (by omega) 1 rfl
    have e2 := cell_rule C1 (n := w.heap.size + 2) (by omega) 2 rfl
    have g2 := cell_rule C2 (n := w.heap.size + 2) (by omega) 2 rfl
    have e3 := cell_rule C1 (n := w.heap.size + 2) (by omega) 3 rfl
    have g3 := cell_rule C2 (n := w.heap.size + 2) (by omega) 3 rfl
    have e4 := cell_rule C1 (n := w.heap.size + 2) (by omega) 4 rfl
    have g4 := cell_rule C2 (n := w.heap.size + 2) (by omega) 4 rfl
    have e5 := cell_rule C1 (n := w.heap.size + 2) (by omega) 5 rfl
    have g5 := cell_rule C2 (n := w.heap.size + 2) (by omega) 5 rfl
    clear C1 C2 hz0 hw0
    refine Calls.mono (t_EqualS D x.right y.right _ _ F2 G2 W0 (Hg2.out W0 (Hw.out W0 hB0)) (Hm2.out W0 (Hw.out W0 hB0))) ?_
    rintro en w1 ⟨rfl, hb⟩
    have hB1 : Below (w.heap.size + 2) W0 w1 := below_step hB0 hn0 hb
    clear hb
    rw [t2]
    go_wp2_with fail
    refine Calls.mono (i_eqFuncEqn D x.eqs y.eqs A4 B4 c4 d4 F4 G4 w1 (Hg4.out w1 (Hw.out w1 hB1)) (Hm4.out w1 (Hw.out w1 hB1))) ?_
    rintro en w2 ⟨rfl, hb⟩
    have hB2 : Below (w.heap.size + 2) W0 w2 := below_step hB1 hn0 hb
    clear hb
    rw [t4]
    go_wp2_with fail
    go_ret
    exact ⟨ret_bool Hr.out.symm, Hw.out _ hB2⟩
  cases t5 : (eqL (eqCon D) x.cons y.cons)
  · have Hr : Hid (eqRul D x y = false) := hide (by simp only [eqRul, t0, t1, t2, t3, t4, t5, Bool.false_and, Bool.and_false])
    go_enter Try.func102, Try.ntmps102
    go_wp2_with fail
    generalize (w.alloc (Obj.cells #[.string x.name, .string x.left, .slice A2 x.right.length c2, .bool x.lit, .slice A4 x.eqs.length c4, .slice A5 x.cons.length c5] 39)).alloc (Obj.cells #[.string y.name, .string y.left, .slice B2 y.right.length d2, .bool y.lit, .slice B4 y.eqs.length d4, .slice B5 y.cons.length d5] 39) = W0 at C1 C2 hz0 hw0 ⊢
    have hn0 : w.heap.size + 2 ≤ W0.heap.size := by omega
    have Hw : Hid (∀ W : World, Below (w.heap.size + 2) W0 W → Below w.heap.size w W) := hide fun W h => hw0.trans (h.mono (by omega))
    have hB0 : Below (w.heap.size + 2) W0 W0 := Below.refl _ _
    have e0 := cell_rule C1 (n := w.heap.size + 2) (by omega) 0 rfl
    have g0 := cell_rule C2 (n := w.heap.size + 2) (by omega) 0 rfl
    have e1 := cell_rule C1 (n := w.heap.size + 2) (by omega) 1 rfl
    have g1 := cell_rule C2 (n := w.heap.size + 2) (by omega) 1 rfl
    have e2 := cell_rule C1 (n := w.heap.size + 2) (by omega) 2 rfl
    have g2 := cell_rule C2 (n := w.heap.size + 2) (by omega) 2 rfl
    have e3 := cell_rule C1 (n := w.heap.size + 2) (by omega) 3 rfl
    have g3 := cell_rule C2 (n := w.heap.size + 2) (by omega) 3 rfl
    have e4 := cell_rule C1 (n := w.heap.size + 2) (by omega) 4 rfl
    have g4 := cell_rule C2 (n := w.heap.size + 2) (by omega) 4 rfl
    have e5 := cell_rule C1 (n := w.heap.size + 2) (by omega) 5 rfl
    have g5 := cell_rule C2 (n := w.heap.size + 2) (by omega) 5 rfl
    clear C1 C2 hz0 hw0
    refine Calls.mono (t_EqualS D x.right y.right _ _ F2 G2 W0 (Hg2.out W0 (Hw.out W0 hB0)) (Hm2.out W0 (Hw.out W0 hB0))) ?_
    rintro en w1 ⟨rfl, hb⟩
    have hB1 : Below (w.heap.size + 2) W0 w1 := below_step hB0 hn0 hb
    clear hb
    rw [t2]
    go_wp2_with fail
    refine Calls.mono (i_eqFuncEqn D x.eqs y.eqs A4 B4 c4 d4 F4 G4 w1 (Hg4.out w1 (Hw.out w1 hB1)) (Hm4.out w1 (Hw.out w1 hB1))) ?_
    rintro en w2 ⟨rfl, hb⟩
    have hB2 : Below (w.heap.size + 2) W0 w2 := below_step hB1 hn0 hb
    clear hb
    rw [t4]
    go_wp2_with fail
    refine Calls.mono (i_eqFuncCon D x.cons y.cons A5 B5 c5 d5 F5 G5 w2 (Hg5.out w2 (Hw.out w2 hB2)) (Hm5.out w2 (Hw.out w2 hB2))) ?_
    rintro en w3 ⟨rfl, hb⟩
    have hB3 : Below (w.heap.size + 2) W0 w3 := below_step hB2 hn0 hb
    clear hb
    rw [t5]
    go_wp2_with fail
    go_ret
    exact ⟨ret_bool Hr.out.symm, Hw.out _ hB3⟩
  have Hr : Hid (eqRul D x y = true) := hide (by simp only [eqRul, t0, t1, t2, t3, t4, t5, Bool.and_self])
  go_enter Try.func102, Try.ntmps102
  go_wp2_with fail
  generalize (w.alloc (Obj.cells #[.string x.name, .string x.left, .slice A2 x.right.length c2, .bool x.lit, .slice A4 x.eqs.length c4, .slice A5 x.cons.length c5] 39)).alloc (Obj.cells #[.string y.name, .string y.left, .slice B2 y.right.length d2, .bool y.lit, .slice B4 y.eqs.length d4, .slice B5 y.cons.length d5] 39) = W0 at C1 C2 hz0 hw0 ⊢
  have hn0 : w.heap.size + 2 ≤ W0.heap.size := by omega
  have Hw : Hid (∀ W : World, Below (w.heap.size + 2) W0 W → Below w.heap.size w W) := hide fun W h => hw0.trans (h.mono (by omega))
  have hB0 : Below (w.heap.size + 2) W0 W0 := Below.refl _ _
  have e0 := cell_rule C1 (n := w.heap.size + 2) (by omega) 0 rfl
  have g0 := cell_rule C2 (n := w.heap.size + 2) (by omega) 0 rfl
  have e1 := cell_rule C1 (n := w.heap.size + 2) (by omega) 1 rfl
  have g1 := cell_rule C2 (n := w.heap.size + 2) (by omega) 1 rfl
  have e2 := cell_rule C1 (n := w.heap.size + 2) (by omega) 2 rfl
  have g2 := cell_rule C2 (n := w.heap.size + 2) (by omega) 2 rfl
  have e3 := cell_rule C1 (n := w.heap.size + 2) (by omega) 3 rfl
  have g3 := cell_rule C2 (n := w.heap.size + 2) (by omega) 3 rfl
  have e4 := cell_rule C1 (n := w.heap.size + 2) (by omega) 4 rfl
  have g4 := cell_rule C2 (n := w.heap.size + 2) (by omega) 4 rfl
  have e5 := cell_rule C1 (n := w.heap.size + 2) (by omega) 5 rfl
  have g5 := cell_rule C2 (n := w.heap.size + 2) (by omega) 5 rfl
  clear C1 C2 hz0 hw0
  refine Calls.mono (t_EqualS D x.right y.right _ _ F2 G2 W0 (Hg2.out W0 (Hw.out W0 hB0)) (Hm2.out W0 (Hw.out W0 hB0))) ?_
  rintro en w1 ⟨rfl, hb⟩
  have hB1 : Below (w.heap.size + 2) W0 w1 := below_step hB0 hn0 hb
  clear hb
  rw [t2]
  go_wp2_with fail
  refine Calls.mono (i_eqFuncEqn D x.eqs y.eqs A4 B4 c4 d4 F4 G4 w1 (Hg4.out w1 (Hw.out w1 hB1)) (Hm4.out w1 (Hw.out w1 hB1))) ?_
  rintro en w2 ⟨rfl, hb⟩
  have hB2 : Below (w.heap.size + 2) W0 w2 := below_step hB1 hn0 hb
  clear hb
  rw [t4]
  go_wp2_with fail
  refine Calls.mono (i_eqFuncCon D x.cons y.cons A5 B5 c5 d5 F5 G5 w2 (Hg5.out w2 (Hw.out w2 hB2)) (Hm5.out w2 (Hw.out w2 hB2))) ?_
  rintro en w3 ⟨rfl, hb⟩
  have hB3 : Below (w.heap.size + 2) W0 w3 := below_step hB2 hn0 hb
  clear hb
  rw [t5]
  go_wp2_with fail
  go_ret
  exact ⟨ret_bool Hr.out.symm, Hw.out _ hB3⟩
end Go.Proofs.Ythifibjkgiggfaa
