/- Rules compared: the reference's. Conditions: none beyond that the rules can be read. -/
import Derived.Test.YthifibjkgiggfaaRulEqI
import Derived.Deep.QuietTactic
import Derived.BigQuiet
namespace Go.Proofs.Ythifibjkgiggfaa
set_option maxRecDepth 100000
open Go.RowKit Go.WideShapes
set_option linter.unusedVariables false

set_option maxHeartbeats 4000000 in
theorem s_EqualRule (D : Nat) (x y : Rul) (cs cs' : List Value) (F F' : List Nat) (w : World) (h : RulR D w x cs F) (h' : RulR D w y cs' F') :
    Calls Try.prog 95 #[.agg cs.toArray, .agg cs'.toArray] w fun en w' => en = .returned (.bool (eqRul D x y)) ∧ Below w.heap.size w w' := by
  obtain ⟨p0, p1, p2, p3, p4, p5, rfl⟩ := list_6 ((RulR.good D).len h)
  obtain ⟨q0, q1, q2, q3, q4, q5, rfl⟩ := list_6 ((RulR.good D).len h')
  obtain ⟨v2, F2, v4, F4, v5, F5, hl, _, h0, h1, ⟨h2, g2⟩, h3, ⟨h4, g4⟩, ⟨h5, g5⟩, rfl⟩ := h
  obtain ⟨u2, G2, u4, G4, u5, G5, hl', _, k0, k1, ⟨k2, m2⟩, k3, ⟨k4, m4⟩, ⟨k5, m5⟩, rfl⟩ := h'
  obtain rfl := Option.some.inj h0
  obtain rfl := Option.some.inj h1
  obtain rfl := Option.some.inj h2
  obtain rfl := Option.some.inj h3
  obtain rfl := Option.some.inj h4
  obtain rfl := Option.some.inj h5
  obtain rfl := Option.some.inj k0
  obtain rfl := Option.some.inj k1
  obtain rfl := Option.some.inj k2
  obtain rfl := Option.some.inj k3
  obtain rfl := Option.some.inj k4
  obtain rfl := Option.some.inj k5
  obtain ⟨A2, c2, rfl, _, _⟩ := g2.form
  obtain ⟨A4, c4, rfl, hc4, hm4⟩ := g4.form
  obtain ⟨A5, c5, rfl, hc5, hm5⟩ := g5.form
  obtain ⟨B2, d2, rfl, _, _⟩ := m2.form
  obtain ⟨B4, d4, rfl, hd4, hn4⟩ := m4.form
  obtain ⟨B5, d5, rfl, hd5, hn5⟩ := m5.form
  unfold maxLen at hm4 hm5 hn4 hn5
  have Lg2 := hide (g2.lt (StrR.good D))
  have Hg2 : Hid (∀ W : World, Below w.heap.size w W → SlR 1 (StrR D) W x.right (.slice A2 x.right.length c2) F2) := hide fun W hW => g2.below (StrR.good D) hW Lg2.out
  have Lg4 := hide (g4.lt (EqnR.good D))
  have Hg4 : Hid (∀ W : World, Below w.heap.size w W → SlR 9 (EqnR D) W x.eqs (.slice A4 x.eqs.length c4) F4) := hide fun W hW => g4.below (EqnR.good D) hW Lg4.out
  have Lg5 := hide (g5.lt (ConR.good D))
  have Hg5 : Hid (∀ W : World, Below w.heap.size w W → SlR 16 (ConR D) W x.cons (.slice A5 x.cons.length c5) F5) := hide fun W hW => g5.below (ConR.good D) hW Lg5.out
  have Lm2 := hide (m2.lt (StrR.good D))
  have Hm2 : Hid (∀ W : World, Below w.heap.size w W → SlR 1 (StrR D) W y.right (.slice B2 y.right.length d2) G2) := hide fun W hW => m2.below (StrR.good D) hW Lm2.out
  have Lm4 := hide (m4.lt (EqnR.good D))
  have Hm4 : Hid (∀ W : World, Below w.heap.size w W → SlR 9 (EqnR D) W y.eqs (.slice B4 y.eqs.length d4) G4) := hide fun W hW => m4.below (EqnR.good D) hW Lm4.out
  have Lm5 := hide (m5.lt (ConR.good D))
  have Hm5 : Hid (∀ W : World, Below w.heap.size w W → SlR 16 (ConR D) W y.cons (.slice B5 y.cons.length d5) G5) := hide fun W hW => m5.below (ConR.good D) hW Lm5.out
  obtain ⟨C1, C2, hz0, hw0⟩ := boxes2 w [.string x.name, .string x.left, .slice A2 x.right.length c2, .bool x.lit, .slice A4 x.eqs.length c4, .slice A5 x.cons.length c5] [.string y.name, .string y.left, .slice B2 y.right.length d2, .bool y.lit, .slice B4 y.eqs.length d4, .slice B5 y.cons.length d5] 39 39
  show Calls _ _ #[.agg #[.string x.name, .string x.left, .slice A2 x.right.length c2, .bool x.lit, .slice A4 x.eqs.length c4, .slice A5 x.cons.length c5], .agg #[.string y.name, .string y.left, .slice B2 y.right.length d2, .bool y.lit, .slice B4 y.eqs.length d4, .slice B5 y.cons.length d5]] w _
  clear g2 g4 g5 m2 m4 m5 hl hl' h0 h1 h2 h3 h4 h5 k0 k1 k2 k3 k4 k5
  have hlx : x.eqs.length ≤ 9223372036854775807 := by omega
  have hlc : x.cons.length ≤ 9223372036854775807 := by omega
  clear hc4 hm4 hc5 hm5 hd4 hn4 hd5 hn5
  cases t0 : (x.name.toList != y.name.toList)
  case true =>
    have e : (x.name.toList == y.name.toList) = false := by simpa [bne] using t0
    have Hr : Hid (eqRul D x y = false) := hide (by simp only [eqRul, e, Bool.false_and, Bool.and_false])
    go_enter Try.func95, Try.ntmps95
    go_wp2_with fail
    go_ret
    exact ⟨ret_bool Hr.out.symm, hw0⟩
  have e100 : (x.name.toList == y.name.toList) = true := by simpa [bne] using t0
  have He0 := hide e100
  clear e100
  cases t1 : (x.left.toList != y.left.toList)
  case true =>
    have e : (x.left.toList == y.left.toList) = false := by simpa [bne] using t1
    have Hr : Hid (eqRul D x y = false) := hide (by simp only [eqRul, e, Bool.false_and, Bool.and_false, He0.out])
    have u0 := He0.out
    go_enter Try.func95, Try.ntmps95
    go_wp2_with fail
    go_ret
    exact ⟨ret_bool Hr.out.symm, hw0⟩
  have e101 : (x.left.toList == y.left.toList) = true := by simpa [bne] using t1
  have He1 := hide e101
  clear e101
  cases t2 : (x.lit != y.lit)
  case true =>
    have e : (x.lit == y.lit) = false := by simpa [bne] using t2
    have Hr : Hid (eqRul D x y = false) := hide (by simp only [eqRul, e, Bool.false_and, Bool.and_false, He0.out, He1.out])
    have u0 := He0.out
    have u1 := He1.out
    go_enter Try.func95, Try.ntmps95
    go_wp2_with fail
    go_ret
    exact ⟨ret_bool Hr.out.symm, hw0⟩
  have e102 : (x.lit == y.lit) = true := by simpa [bne] using t2
  have He2 := hide e102
  clear e102
  have hyl : y.lit = x.lit := (beq_iff_eq.1 He2.out).symm
  rw [hyl] at C1 C2 hz0 hw0 ⊢
  clear hyl t2
  cases t3 : (decide (x.right = y.right))
  case false =>
    have Hr : Hid (eqRul D x y = false) := hide (by simp only [eqRul, t3, Bool.false_and, Bool.and_false])
    have u0 := He0.out
    have u1 := He1.out
    go_enter Try.func95, Try.ntmps95
    go_wp2_with fail
    generalize (w.alloc (Obj.cells #[.string x.name, .string x.left, .slice A2 x.right.length c2, .bool x.lit, .slice A4 x.eqs.length c4, .slice A5 x.cons.length c5] 39)).alloc (Obj.cells #[.string y.name, .string y.left, .slice B2 y.right.length d2, .bool x.lit, .slice B4 y.eqs.length d4, .slice B5 y.cons.length d5] 39) = W0 at C1 C2 hz0 hw0 ⊢
    have hn0 : w.heap.size + 2 ≤ W0.heap.size := by omega
    have Hw : Hid (∀ W : World, Below (w.heap.size + 2) W0 W → Below w.heap.size w W) := hide fun W h => hw0.trans (h.mono (by omega))
    have hB0 : Below (w.heap.size + 2) W0 W0 := Below.refl _ _
    have e0 := cell_rule C1 (n := w.heap.size + 2) (by omega) 0 rfl
    have g0 := cell_rule C2 (n := w.heap.size + 2) (by omega) 0 rfl
    have e1 := cell_rule C1 (n := w.heap.size + 2) (by omega) 1 rfl
    have g1 := cell_rule C2 (n := w.heap.size + 2) (by omega) 1 rfl
    have e2 := cell_rule C1 (n := w.heap.size + 2) (by omega) 2 rfl
    have g2 := cell_rule C2 (n := w.heap.size + 2) (by omega) 2 rfl
    have e3 := cell_rule C1 (n := w.heap.size + 2) (by omega) 3 rfl
    have g3 := cell_rule C2 (n := w.heap.size + 2) (by omega) 3 rfl
    have e4 := cell_rule C1 (n := w.heap.size + 2) (by omega) 4 rfl
    have g4 := cell_rule C2 (n := w.heap.size + 2) (by omega) 4 rfl
    have e5 := cell_rule C1 (n := w.heap.size + 2) (by omega) 5 rfl
    have g5 := cell_rule C2 (n := w.heap.size + 2) (by omega) 5 rfl
    clear C1 C2 hz0 hw0
    refine Calls.mono (t_l3Texts D x.right y.right _ _ F2 G2 W0 (Hg2.out W0 (Hw.out W0 hB0)) (Hm2.out W0 (Hw.out W0 hB0))) ?_
    rintro en w1 ⟨rfl, hb⟩
    have hB1 : Below (w.heap.size + 2) W0 w1 := below_step hB0 hn0 hb
    clear hb
    rw [t3]
    go_wp2_with fail
    go_ret
    exact ⟨ret_bool Hr.out.symm, Hw.out _ hB1⟩
  have He3 := hide t3
  cases t4 : ((x.eqs.length : Int) != (y.eqs.length : Int))
  case true =>
    have hne : ¬ x.eqs.length = y.eqs.length := by intro e; rw [e] at t4; simp at t4
    have Hr : Hid (eqRul D x y = false) := hide (eqRul_lens (fun h => hne h.1))
    clear hne
    have u0 := He0.out
    have u1 := He1.out
    go_enter Try.func95, Try.ntmps95
    go_wp2_with fail
    generalize (w.alloc (Obj.cells #[.string x.name, .string x.left, .slice A2 x.right.length c2, .bool x.lit, .slice A4 x.eqs.length c4, .slice A5 x.cons.length c5] 39)).alloc (Obj.cells #[.string y.name, .string y.left, .slice B2 y.right.length d2, .bool x.lit, .slice B4 y.eqs.length d4, .slice B5 y.cons.length d5] 39) = W0 at C1 C2 hz0 hw0 ⊢
    have hn0 : w.heap.size + 2 ≤ W0.heap.size := by omega
    have Hw : Hid (∀ W : World, Below (w.heap.size + 2) W0 W → Below w.heap.size w W) := hide fun W h => hw0.trans (h.mono (by omega))
    have hB0 : Below (w.heap.size + 2) W0 W0 := Below.refl _ _
    have e0 := cell_rule C1 (n := w.heap.size + 2) (by omega) 0 rfl
    have g0 := cell_rule C2 (n := w.heap.size + 2) (by omega) 0 rfl
    have e1 := cell_rule C1 (n := w.heap.size + 2) (by omega) 1 rfl
    have g1 := cell_rule C2 (n := w.heap.size + 2) (by omega) 1 rfl
    have e2 := cell_rule C1 (n := w.heap.size + 2) (by omega) 2 rfl
    have g2 := cell_rule C2 (n := w.heap.size + 2) (by omega) 2 rfl
    have e3 := cell_rule C1 (n := w.heap.size + 2) (by omega) 3 rfl
    have g3 := cell_rule C2 (n := w.heap.size + 2) (by omega) 3 rfl
    have e4 := cell_rule C1 (n := w.heap.size + 2) (by omega) 4 rfl
    have g4 := cell_rule C2 (n := w.heap.size + 2) (by omega) 4 rfl
    have e5 := cell_rule C1 (n := w.heap.size + 2) (by omega) 5 rfl
    have g5 := cell_rule C2 (n := w.heap.size + 2) (by omega) 5 rfl
    clear C1 C2 hz0 hw0
    refine Calls.mono (t_l3Texts D x.right y.right _ _ F2 G2 W0 (Hg2.out W0 (Hw.out W0 hB0)) (Hm2.out W0 (Hw.out W0 hB0))) ?_
    rintro en w1 ⟨rfl, hb⟩
    have hB1 : Below (w.heap.size + 2) W0 w1 := below_step hB0 hn0 hb
    clear hb
    rw [t3]
    go_wp2_with fail
    go_ret
    exact ⟨ret_bool Hr.out.symm, Hw.out _ hB1⟩
  have Hl4 : Hid (x.eqs.length = y.eqs.length) := hide (Decidable.byContradiction fun e => by have h : ((x.eqs.length : Int) != (y.eqs.length : Int)) = true := (by rw [bne_iff_ne]; omega); rw [h] at t4; cases t4)
  cases t5 : ((x.cons.length : Int) != (y.cons.length : Int))
  case true =>
    have hne : ¬ x.cons.length = y.cons.length := by intro e; rw [e] at t5; simp at t5
    have Hr : Hid (eqRul D x y = false) := hide (eqRul_lens (fun h => hne h.2))
    clear hne
    have u0 := He0.out
    have u1 := He1.out
    go_enter Try.func95, Try.ntmps95
    go_wp2_with fail
    generalize (w.alloc (Obj.cells #[.string x.name, .string x.left, .slice A2 x.right.length c2, .bool x.lit, .slice A4 x.eqs.length c4, .slice A5 x.cons.length c5] 39)).alloc (Obj.cells #[.string y.name, .string y.left, .slice B2 y.right.length d2, .bool x.lit, .slice B4 y.eqs.length d4, .slice B5 y.cons.length d5] 39) = W0 at C1 C2 hz0 hw0 ⊢
    have hn0 : w.heap.size + 2 ≤ W0.heap.size := by omega
    have Hw : Hid (∀ W : World, Below (w.heap.size + 2) W0 W → Below w.heap.size w W) := hide fun W h => hw0.trans (h.mono (by omega))
    have hB0 : Below (w.heap.size + 2) W0 W0 := Below.refl _ _
    have e0 := cell_rule C1 (n := w.heap.size + 2) (by omega) 0 rfl
    have g0 := cell_rule C2 (n := w.heap.size + 2) (by omega) 0 rfl
    have e1 := cell_rule C1 (n := w.heap.size + 2) (by omega) 1 rfl
    have g1 := cell_rule C2 (n := w.heap.size + 2) (by omega) 1 rfl
    have e2 := cell_rule C1 (n := w.heap.size + 2) (by omega) 2 rfl
    have g2 := cell_rule C2 (n := w.heap.size + 2) (by omega) 2 rfl
    have e3 := cell_rule C1 (n := w.heap.size + 2) (by omega) 3 rfl
    have g3 := cell_rule C2 (n := w.heap.size + 2) (by omega) 3 rfl
    have e4 := cell_rule C1 (n := w.heap.size + 2) (by omega) 4 rfl
    have g4 := cell_rule C2 (n := w.heap.size + 2) (by omega) 4 rfl
    have e5 := cell_rule C1 (n := w.heap.size + 2) (by omega) 5 rfl
    have g5 := cell_rule C2 (n := w.heap.size + 2) (by omega) 5 rfl
    clear C1 C2 hz0 hw0
    refine Calls.mono (t_l3Texts D x.right y.right _ _ F2 G2 W0 (Hg2.out W0 (Hw.out W0 hB0)) (Hm2.out W0 (Hw.out W0 hB0))) ?_
    rintro en w1 ⟨rfl, hb⟩
    have hB1 : Below (w.heap.size + 2) W0 w1 := below_step hB0 hn0 hb
    clear hb
    rw [t3]
    go_wp2_with fail
    go_ret
    exact ⟨ret_bool Hr.out.symm, Hw.out _ hB1⟩
  have Hl5 : Hid (x.cons.length = y.cons.length) := hide (Decidable.byContradiction fun e => by have h : ((x.cons.length : Int) != (y.cons.length : Int)) = true := (by rw [bne_iff_ne]; omega); rw [h] at t5; cases t5)
  have Hhead : Hid (eqRul D x y = (eqL (eqEqn D) x.eqs y.eqs && eqL (eqCon D) x.cons y.cons)) := hide (by simp only [eqRul, He0.out, He1.out, He2.out, He3.out, Bool.true_and])
  have u0 := He0.out
  have u1 := He1.out
  go_enter Try.func95, Try.ntmps95
  go_wp2_with fail
  generalize (w.alloc (Obj.cells #[.string x.name, .string x.left, .slice A2 x.right.length c2, .bool x.lit, .slice A4 x.eqs.length c4, .slice A5 x.cons.length c5] 39)).alloc (Obj.cells #[.string y.name, .string y.left, .slice B2 y.right.length d2, .bool x.lit, .slice B4 y.eqs.length d4, .slice B5 y.cons.length d5] 39) = W0 at C1 C2 hz0 hw0 ⊢
  have hn0 : w.heap.size + 2 ≤ W0.heap.size := by omega
  have Hw : Hid (∀ W : World, Below (w.heap.size + 2) W0 W → Below w.heap.size w W) := hide fun W h => hw0.trans (h.mono (by omega))
  have hB0 : Below (w.heap.size + 2) W0 W0 := Below.refl _ _
  have e0 := cell_rule C1 (n := w.heap.size + 2) (by omega) 0 rfl
  have g0 := cell_rule C2 (n := w.heap.size + 2) (by omega) 0 rfl
  have e1 := cell_rule C1 (n := w.heap.size + 2) (by omega) 1 rfl
  have g1 := cell_rule C2 (n := w.heap.size + 2) (by omega) 1 rfl
  have e2 := cell_rule C1 (n := w.heap.size + 2) (by omega) 2 rfl
  have g2 := cell_rule C2 (n := w.heap.size + 2) (by omega) 2 rfl
  have e3 := cell_rule C1 (n := w.heap.size + 2) (by omega) 3 rfl
  have g3 := cell_rule C2 (n := w.heap.size + 2) (by omega) 3 rfl
  have e4 := cell_rule C1 (n := w.heap.size + 2) (by omega) 4 rfl
  have g4 := cell_rule C2 (n := w.heap.size + 2) (by omega) 4 rfl
  have e5 := cell_rule C1 (n := w.heap.size + 2) (by omega) 5 rfl
  have g5 := cell_rule C2 (n := w.heap.size + 2) (by omega) 5 rfl
  clear C1 C2 hz0 hw0
  refine Calls.mono (t_l3Texts D x.right y.right _ _ F2 G2 W0 (Hg2.out W0 (Hw.out W0 hB0)) (Hm2.out W0 (Hw.out W0 hB0))) ?_
  rintro en w1 ⟨rfl, hb⟩
  have hB1 : Below (w.heap.size + 2) W0 w1 := below_step hB0 hn0 hb
  clear hb
  rw [t3]
  go_wp2_with fail
  clear g0 g1 g2 g3 e0 e1 e2 e3 t0 t1 t3 t4 t5
  go_loopw [5] (fun i wr => ∃ j : Nat, j ≤ x.eqs.length ∧ i = .int .i64 j ∧ Hid (∀ k X Y, k < j → x.eqs[k]? = some X → y.eqs[k]? = some Y → eqEqn D X Y = true) ∧ Hid (Below (w.heap.size + 2) W0 wr)) (fun i _ => x.eqs.length - (intOf i).toNat)
  case atStart => exact ⟨0, by omega, rfl, hide (fun k X Y h => absurd h (by omega)), hide hB1⟩
  case round =>
    obtain ⟨j, hj, rfl, Hall, Hb⟩ := hrel
    have hBr := Hb.out
    clear hB1
    by_cases hlt : j < x.eqs.length
    · have hX : x.eqs[j]? = some x.eqs[j] := List.getElem?_eq_getElem hlt
      have hlt' : j < y.eqs.length := by have := Hl4.out; omega
      have hY : y.eqs[j]? = some y.eqs[j] := List.getElem?_eq_getElem hlt'
      generalize x.eqs[j] = X at hX
      generalize y.eqs[j] = Y at hY
      obtain ⟨b, off, cs, Fk, hA, _, hbF, hFk, hcl, hcat, hR⟩ := SlR.get (EqnR.good D) (Hg4.out W0 (Hw.out W0 hB0)) hX
      subst hA
      have hltA : b < (w.heap.size + 2) := Nat.lt_of_lt_of_le (Lg4.out b hbF) (by omega)
      have HF : Hid (∀ k ∈ Fk, k < (w.heap.size + 2)) := hide fun k hk => Nat.lt_of_lt_of_le (Lg4.out k (hFk k hk)) (by omega)
      obtain ⟨b', off', cs', Fk', hA, _, hbF', hFk', hcl', hcat', hR'⟩ := SlR.get (EqnR.good D) (Hm4.out W0 (Hw.out W0 hB0)) hY
      subst hA
      have hltB : b' < (w.heap.size + 2) := Nat.lt_of_lt_of_le (Lm4.out b' hbF') (by omega)
      have HF' : Hid (∀ k ∈ Fk', k < (w.heap.size + 2)) := hide fun k hk => Nat.lt_of_lt_of_le (Lm4.out k (hFk' k hk)) (by omega)
      obtain ⟨a0, a1, a2, a3, a4, a5, a6, a7, a8, rfl⟩ := list_9 hcl
      obtain ⟨b0, b1, b2, b3, b4, b5, b6, b7, b8, rfl⟩ := list_9 hcl'
      obtain ⟨f0, f1, _, hO, hE, hFF⟩ := hR
      obtain ⟨_, _, r0, r1, _⟩ := hO
      obtain ⟨f0', f1', _, hO', hE', hFF'⟩ := hR'
      obtain ⟨_, _, r0', r1', _⟩ := hO'
      obtain rfl : a0 = .int .i64 X.at_.pos := by simpa using r0
      obtain rfl : a1 = .string X.at_.name := by simpa using r1
      obtain rfl : b0 = .int .i64 Y.at_.pos := by simpa using r0'
      obtain rfl : b1 = .string Y.at_.name := by simpa using r1'
      have p0 : ∀ W : World, Below (w.heap.size + 2) W0 W → W.cell? ⟨b, off + j * 9, none⟩ = some (.int .i64 X.at_.pos) := fun W h => (hcat.below h hltA) 0 _ rfl
      have p1 : ∀ W : World, Below (w.heap.size + 2) W0 W → W.cell? ⟨b, off + j * 9 + 1, none⟩ = some (.string X.at_.name) := fun W h => (hcat.below h hltA) 1 _ rfl
      have p2 : ∀ W : World, Below (w.heap.size + 2) W0 W → W.cell? ⟨b, off + j * 9 + 2, none⟩ = some (a2) := fun W h => (hcat.below h hltA) 2 _ rfl
      have p3 : ∀ W : World, Below (w.heap.size + 2) W0 W → W.cell? ⟨b, off + j * 9 + 3, none⟩ = some (a3) := fun W h => (hcat.below h hltA) 3 _ rfl
      have p4 : ∀ W : World, Below (w.heap.size + 2) W0 W → W.cell? ⟨b, off + j * 9 + 4, none⟩ = some (a4) := fun W h => (hcat.below h hltA) 4 _ rfl
      have p5 : ∀ W : World, Below (w.heap.size + 2) W0 W → W.cell? ⟨b, off + j * 9 + 5, none⟩ = some (a5) := fun W h => (hcat.below h hltA) 5 _ rfl
      have p6 : ∀ W : World, Below (w.heap.size + 2) W0 W → W.cell? ⟨b, off + j * 9 + 6, none⟩ = some (a6) := fun W h => (hcat.below h hltA) 6 _ rfl
      have p7 : ∀ W : World, Below (w.heap.size + 2) W0 W → W.cell? ⟨b, off + j * 9 + 7, none⟩ = some (a7) := fun W h => (hcat.below h hltA) 7 _ rfl
      have p8 : ∀ W : World, Below (w.heap.size + 2) W0 W → W.cell? ⟨b, off + j * 9 + 8, none⟩ = some (a8) := fun W h => (hcat.below h hltA) 8 _ rfl
      have q0 : ∀ W : World, Below (w.heap.size + 2) W0 W → W.cell? ⟨b', off' + j * 9, none⟩ = some (.int .i64 Y.at_.pos) := fun W h => (hcat'.below h hltB) 0 _ rfl
      have q1 : ∀ W : World, Below (w.heap.size + 2) W0 W → W.cell? ⟨b', off' + j * 9 + 1, none⟩ = some (.string Y.at_.name) := fun W h => (hcat'.below h hltB) 1 _ rfl
      have q2 : ∀ W : World, Below (w.heap.size + 2) W0 W → W.cell? ⟨b', off' + j * 9 + 2, none⟩ = some (b2) := fun W h => (hcat'.below h hltB) 2 _ rfl
      have q3 : ∀ W : World, Below (w.heap.size + 2) W0 W → W.cell? ⟨b', off' + j * 9 + 3, none⟩ = some (b3) := fun W h => (hcat'.below h hltB) 3 _ rfl
      have q4 : ∀ W : World, Below (w.heap.size + 2) W0 W → W.cell? ⟨b', off' + j * 9 + 4, none⟩ = some (b4) := fun W h => (hcat'.below h hltB) 4 _ rfl
      have q5 : ∀ W : World, Below (w.heap.size + 2) W0 W → W.cell? ⟨b', off' + j * 9 + 5, none⟩ = some (b5) := fun W h => (hcat'.below h hltB) 5 _ rfl
      have q6 : ∀ W : World, Below (w.heap.size + 2) W0 W → W.cell? ⟨b', off' + j * 9 + 6, none⟩ = some (b6) := fun W h => (hcat'.below h hltB) 6 _ rfl
      have q7 : ∀ W : World, Below (w.heap.size + 2) W0 W → W.cell? ⟨b', off' + j * 9 + 7, none⟩ = some (b7) := fun W h => (hcat'.below h hltB) 7 _ rfl
      have q8 : ∀ W : World, Below (w.heap.size + 2) W0 W → W.cell? ⟨b', off' + j * 9 + 8, none⟩ = some (b8) := fun W h => (hcat'.below h hltB) 8 _ rfl
      have HE : Hid (∀ W : World, Below (w.heap.size + 2) W0 W → ExR D W X.expr [a2, a3, a4, a5, a6, a7, a8] f1) := hide fun W h => (ExR.good D).below hE h (fun k hk => HF.out k (by rw [hFF]; simp [hk]))
      have HE' : Hid (∀ W : World, Below (w.heap.size + 2) W0 W → ExR D W Y.expr [b2, b3, b4, b5, b6, b7, b8] f1') := hide fun W h => (ExR.good D).below hE' h (fun k hk => HF'.out k (by rw [hFF']; simp [hk]))
      have HX := hide hX
      have HY := hide hY
      have N : ∀ W : World, (binOp .neq 41 (.agg #[.int .i64 X.at_.pos, .string X.at_.name]) (.agg #[.int .i64 Y.at_.pos, .string Y.at_.name])).run Try.prog W = .ok (.bool !(eqOcc X.at_ Y.at_)) W := fun W => run_neqOcc _ _ _ _ W
      have Q : ∀ W : World, (Op.equalIn 10000 41 (.agg #[.int .i64 X.at_.pos, .string X.at_.name]) (.agg #[.int .i64 Y.at_.pos, .string Y.at_.name])).run Try.prog W = .ok (eqOcc X.at_ Y.at_) W := fun W => run_eqOcc _ _ _ _ W
      have hj0 : (0 : Int) ≤ (j : Int) := by omega
      have hj1 : (j : Int) < (x.eqs.length : Int) := by omega
      have hj2 : (j : Int) < (y.eqs.length : Int) := by omega
      clear hX hY hcat hcat' hFk hFk' hbF hbF' hcl hcl' hE hE' r0 r1 r0' r1' hlt' hFF hFF'
      cases hq : eqOcc X.at_ Y.at_
      · have Hbad : Hid (eqRul D x y = false) := hide (by rw [Hhead.out, eqL_bad (f := eqEqn D) HX.out HY.out (by unfold eqEqn; rw [hq]; rfl)]; rfl)
        rw [hq] at N Q
        simp only [Bool.not_false, Bool.not_true] at N
        go_wp2_with fail
        go_quiet (fail)
        go_wp2_with fail
        go_ret
        exact ⟨ret_bool Hbad.out.symm, Hw.out _ (by first | exact below_drewN hBr _ | assumption | exact Below.drew (by assumption))⟩
      cases hx : eqE D X.expr Y.expr
      · have Hbad : Hid (eqRul D x y = false) := hide (by rw [Hhead.out, eqL_bad (f := eqEqn D) HX.out HY.out (by unfold eqEqn; rw [hq, hx]; rfl)]; rfl)
        rw [hq] at N Q
        simp only [Bool.not_false, Bool.not_true] at N
        go_wp2_with fail
        first
          | (go_region_held3 (fun W => Below (w.heap.size + 2) W0 W)
              (first | assumption | exact Below.drew (by assumption))
              ((go_at_call 150; refine Calls.mono (s_EqualExpr D X.expr Y.expr _ _ f1 f1' _ (HE.out _ (by (repeat (first | assumption | apply Below.drew)))) (HE'.out _ (by (repeat (first | assumption | apply Below.drew))))) ?_; rintro en w2 ⟨rfl, hb⟩; have hB2 : Below (w.heap.size + 2) W0 w2 := below_step (by (repeat (first | assumption | apply Below.drew))) hn0 hb; clear hb; rw [hx])))
          | fail
        go_wp2_with fail
        go_ret
        exact ⟨ret_bool Hbad.out.symm, Hw.out _ (by first | exact below_drewN hBr _ | assumption | exact Below.drew (by assumption))⟩
      have Hgood : Hid (eqEqn D X Y = true) := hide (by unfold eqEqn; rw [hq, hx]; rfl)
      rw [hq] at N Q
      simp only [Bool.not_false, Bool.not_true] at N
      go_wp2_with fail
      first
        | (go_region_held3 (fun W => Below (w.heap.size + 2) W0 W)
            (first | assumption | exact Below.drew (by assumption))
            ((go_at_call 150; refine Calls.mono (s_EqualExpr D X.expr Y.expr _ _ f1 f1' _ (HE.out _ (by (repeat (first | assumption | apply Below.drew)))) (HE'.out _ (by (repeat (first | assumption | apply Below.drew))))) ?_; rintro en w2 ⟨rfl, hb⟩; have hB2 : Below (w.heap.size + 2) W0 w2 := below_step (by (repeat (first | assumption | apply Below.drew))) hn0 hb; clear hb; rw [hx])))
        | fail
      have HB2 : Hid (Below (w.heap.size + 2) W0 _) := hide (by first | assumption | exact Below.drew (by assumption))
      clear hq hx
      go_wp2_with fail
      go_roundw
      case rel =>
        refine ⟨j + 1, by omega, by go_num, hide (fun k X' Y' hk hx' hy' => ?_), HB2⟩
        by_cases hkj : k < j
        · exact Hall.out k X' Y' hkj hx' hy'
        · have hkj' : k = j := by omega
          subst hkj'
          rw [HX.out] at hx'
          rw [HY.out] at hy'
          injection hx' with hx'
          injection hy' with hy'
          rw [← hx', ← hy']
          exact Hgood.out
      case measure => simp [intOf]; omega
    · have HyesE : Hid (eqL (eqEqn D) x.eqs y.eqs = true) := hide (eqL_all Hl4.out (fun k X Y hx hy => Hall.out k X Y (by have := (List.getElem?_eq_some_iff.1 hx).1; omega) hx hy))
      clear Hall
      go_wp2_with fail
      go_loopw [6] (fun i wr => ∃ j : Nat, j ≤ x.cons.length ∧ i = .int .i64 j ∧ Hid (∀ k X Y, k < j → x.cons[k]? = some X → y.cons[k]? = some Y → eqCon D X Y = true) ∧ Hid (Below (w.heap.size + 2) W0 wr)) (fun i _ => x.cons.length - (intOf i).toNat)
      case atStart => exact ⟨0, by omega, rfl, hide (fun k X Y h => absurd h (by omega)), hide hBr⟩
      case round =>
        clear hBr Hb hlt
        obtain ⟨m, hm, rfl, Hall, Hc⟩ := hrel
        have hBm := Hc.out
        by_cases hlt : m < x.cons.length
        · have hX : x.cons[m]? = some x.cons[m] := List.getElem?_eq_getElem hlt
          have hlt' : m < y.cons.length := by have := Hl5.out; omega
          have hY : y.cons[m]? = some y.cons[m] := List.getElem?_eq_getElem hlt'
          generalize x.cons[m] = X at hX
          generalize y.cons[m] = Y at hY
          obtain ⟨b, off, cs, Fk, hA, _, hbF, hFk, hcl, hcat, hR⟩ := SlR.get (ConR.good D) (Hg5.out W0 (Hw.out W0 hB0)) hX
          subst hA
          have hltA : b < (w.heap.size + 2) := Nat.lt_of_lt_of_le (Lg5.out b hbF) (by omega)
          have HF : Hid (∀ k ∈ Fk, k < (w.heap.size + 2)) := hide fun k hk => Nat.lt_of_lt_of_le (Lg5.out k (hFk k hk)) (by omega)
          obtain ⟨b', off', cs', Fk', hA, _, hbF', hFk', hcl', hcat', hR'⟩ := SlR.get (ConR.good D) (Hm5.out W0 (Hw.out W0 hB0)) hY
          subst hA
          have hltB : b' < (w.heap.size + 2) := Nat.lt_of_lt_of_le (Lm5.out b' hbF') (by omega)
          have HF' : Hid (∀ k ∈ Fk', k < (w.heap.size + 2)) := hide fun k hk => Nat.lt_of_lt_of_le (Lm5.out k (hFk' k hk)) (by omega)
          have h1 := ConR.one hR
          have h1' := ConR.one hR'
          obtain ⟨f2, f3, _, _, s0, s1, hE, hV, hFF⟩ := hR
          obtain ⟨f2', f3', _, _, s0', s1', hE', hV', hFF'⟩ := hR'
          obtain ⟨C1, C2, hz1, hbb⟩ := boxes2 wr cs cs' 110 110
          have hcw := hcat.below hBm hltA
          have hBs : (w.heap.size + 2) ≤ wr.heap.size := Nat.le_trans hn0 hBm.size
          have hcw := hcat.below hBm hltA
          have hcw' := hcat'.below (below_alloc hn0 (.cells cs.toArray 110) hBm) hltB
          have hi : (Try.prog.info? 110).map (·.size) = some 16 := by kernel_rfl
          have hi2 : (Try.prog.info? 33).map (·.size) = some 7 := by kernel_rfl
          have Hi := hide hi
          have Hi2 := hide hi2
          have Hn := hide hcl
          have Hn' := hide hcl'
          have H1 := hide h1
          have H1' := hide h1'
          have Hcw := hide hcw
          have Hcw' := hide hcw'
          have HX := hide hX
          have HY := hide hY
          have Hs0 := hide s0
          have Hs1 := hide s1
          have Hs0' := hide s0'
          have Hs1' := hide s1'
          have HC1 := hide C1
          have HC2 := hide C2
          have Hz1 := hide hz1
          have Hbb := hide hbb
          have HEa : Hid (∀ W : World, Below (w.heap.size + 2) W0 W → ExR D W X.target ((cs.drop 2).take 7) f2) := hide fun W h => (ExR.good D).below hE h (fun k hk => HF.out k (by rw [hFF]; simp [hk]))
          have HVa : Hid (∀ W : World, Below (w.heap.size + 2) W0 W → ExR D W X.value ((cs.drop 9).take 7) f3) := hide fun W h => (ExR.good D).below hV h (fun k hk => HF.out k (by rw [hFF]; simp [hk]))
          have HEb : Hid (∀ W : World, Below (w.heap.size + 2) W0 W → ExR D W Y.target ((cs'.drop 2).take 7) f2') := hide fun W h => (ExR.good D).below hE' h (fun k hk => HF'.out k (by rw [hFF']; simp [hk]))
          have HVb : Hid (∀ W : World, Below (w.heap.size + 2) W0 W → ExR D W Y.value ((cs'.drop 9).take 7) f3') := hide fun W h => (ExR.good D).below hV' h (fun k hk => HF'.out k (by rw [hFF']; simp [hk]))
          have hj0 : (0 : Int) ≤ (m : Int) := by omega
          have hj1 : (m : Int) < (x.cons.length : Int) := by omega
          have hj2 : (m : Int) < (y.cons.length : Int) := by omega
          clear hX hY hcat hcat' hFk hFk' hbF hbF' hcl hcl' hE hE' hV hV' s0 s1 s0' s1' hlt' hFF hFF' h1 h1' hi hi2 hcw hcw' C1 C2 hz1 hbb
          have hBa : ∀ (W : World) (o : Obj), Below (w.heap.size + 2) W0 W → Below (w.heap.size + 2) W0 (W.alloc o) := fun W o h => below_alloc hn0 o h
          go_wp2_with (first
            | refine wpList_load_at 110 (.tmp 100) rfl Try.underlying110 rfl Hi.out rfl rfl Hn.out Hcw.out ?_
            | refine wpList_store_new 110 (.tmp 7) (.tmp 101) rfl Hi.out rfl rfl rfl rfl Hn.out H1.out rfl ?_
            | refine wpList_load_at 110 (.tmp 105) rfl Try.underlying110 rfl Hi.out rfl rfl Hn'.out Hcw'.out ?_
            | (refine wpList_store_new 110 (.tmp 8) (.tmp 106) rfl Hi.out rfl rfl rfl (World.size_alloc _ _) Hn'.out H1'.out rfl ?_; refine hold ?_))
          have C1 := HC1.out
          have C2 := HC2.out
          have hz1 := Hz1.out
          have hbb := Hbb.out
          clear HC1 HC2 Hz1 Hbb
          generalize (wr.alloc (Obj.cells cs.toArray 110)).alloc (Obj.cells cs'.toArray 110) = W1 at C1 C2 hz1 hbb ⊢
          have hn1 : wr.heap.size + 2 ≤ W1.heap.size := by omega
          have hW1 : ∀ W : World, Below (wr.heap.size + 2) W1 W → Below (w.heap.size + 2) W0 W := fun W h => hBm.trans ((hbb.trans (h.mono (by omega))).mono hBs)
          have hB1 : Below (wr.heap.size + 2) W1 W1 := Below.refl _ _
          have p0 := cell_rule C1 (n := wr.heap.size + 2) (by omega) 0 Hs0.out
          have p1 := cell_rule C1 (n := wr.heap.size + 2) (by omega) 1 Hs1.out
          have HLp2 : Hid (∀ W : World, Below (wr.heap.size + 2) W1 W → CellsAt W (wr.heap.size) 2 ((cs.drop 2).take 7)) := hide fun W h => (C1.sub 2 7).below h (by omega)
          have HLp9 : Hid (∀ W : World, Below (wr.heap.size + 2) W1 W → CellsAt W (wr.heap.size) 9 ((cs.drop 9).take 7)) := hide fun W h => (C1.sub 9 7).below h (by omega)
          have q0 := cell_rule C2 (n := wr.heap.size + 2) (by omega) 0 Hs0'.out
          have q1 := cell_rule C2 (n := wr.heap.size + 2) (by omega) 1 Hs1'.out
          have HLq2 : Hid (∀ W : World, Below (wr.heap.size + 2) W1 W → CellsAt W (wr.heap.size + 1) 2 ((cs'.drop 2).take 7)) := hide fun W h => (C2.sub 2 7).below h (by omega)
          have HLq9 : Hid (∀ W : World, Below (wr.heap.size + 2) W1 W → CellsAt W (wr.heap.size + 1) 9 ((cs'.drop 9).take 7)) := hide fun W h => (C2.sub 9 7).below h (by omega)
          clear C1 C2 hz1 hbb hBm
          have HW1 := hide hW1
          clear hW1
          cases t0 : (X.symbol.toList == Y.symbol.toList)
          · have Hbad : Hid (eqRul D x y = false) := hide (by rw [Hhead.out, eqL_bad (f := eqCon D) HX.out HY.out (by simp only [eqCon, t0, Bool.false_and, Bool.and_false])]; simp)
            refine Hold.go ?_
            go_wp2_with fail
            go_ret
            exact ⟨ret_bool Hbad.out.symm, Hw.out _ (HW1.out _ hB1)⟩
          cases t1 : (X.name.toList == Y.name.toList)
          · have Hbad : Hid (eqRul D x y = false) := hide (by rw [Hhead.out, eqL_bad (f := eqCon D) HX.out HY.out (by simp only [eqCon, t0, t1, Bool.false_and, Bool.and_false])]; simp)
            refine Hold.go ?_
            go_wp2_with fail
            go_ret
            exact ⟨ret_bool Hbad.out.symm, Hw.out _ (HW1.out _ hB1)⟩
          cases t2 : (eqE D X.target Y.target)
          · have Hbad : Hid (eqRul D x y = false) := hide (by rw [Hhead.out, eqL_bad (f := eqCon D) HX.out HY.out (by simp only [eqCon, t0, t1, t2, Bool.false_and, Bool.and_false])]; simp)
            refine Hold.go ?_
            go_wp2_with (first
          | refine wpList_load_at 33 (.tmp 120) rfl Try.underlying33 rfl Hi2.out rfl rfl (sub_len Hn.out 2 7 (by omega)) (HLp2.out _ (by assumption)) ?_
          | refine wpList_load_at 33 (.tmp 122) rfl Try.underlying33 rfl Hi2.out rfl rfl (sub_len Hn'.out 2 7 (by omega)) (HLq2.out _ (by assumption)) ?_)
            refine Calls.mono (s_EqualExpr D X.target Y.target _ _ f2 f2' _ (HEa.out _ (HW1.out _ hB1)) (HEb.out _ (HW1.out _ hB1))) ?_
            rintro en V2 ⟨rfl, hb⟩
            have hV2 : Below (wr.heap.size + 2) W1 V2 := below_step hB1 hn1 hb
            clear hb hB1
            rw [t2]
            go_wp2_with fail
            go_ret
            exact ⟨ret_bool Hbad.out.symm, Hw.out _ (HW1.out _ hV2)⟩
          cases t3 : (eqE D X.value Y.value)
          · have Hbad : Hid (eqRul D x y = false) := hide (by rw [Hhead.out, eqL_bad (f := eqCon D) HX.out HY.out (by simp only [eqCon, t0, t1, t2, t3, Bool.false_and, Bool.and_false])]; simp)
            refine Hold.go ?_
            go_wp2_with (first
          | refine wpList_load_at 33 (.tmp 120) rfl Try.underlying33 rfl Hi2.out rfl rfl (sub_len Hn.out 2 7 (by omega)) (HLp2.out _ (by assumption)) ?_
          | refine wpList_load_at 33 (.tmp 122) rfl Try.underlying33 rfl Hi2.out rfl rfl (sub_len Hn'.out 2 7 (by omega)) (HLq2.out _ (by assumption)) ?_)
            refine Calls.mono (s_EqualExpr D X.target Y.target _ _ f2 f2' _ (HEa.out _ (HW1.out _ hB1)) (HEb.out _ (HW1.out _ hB1))) ?_
            rintro en V2 ⟨rfl, hb⟩
            have hV2 : Below (wr.heap.size + 2) W1 V2 := below_step hB1 hn1 hb
            clear hb hB1
            rw [t2]
            go_wp2_with (first
          | refine wpList_load_at 33 (.tmp 128) rfl Try.underlying33 rfl Hi2.out rfl rfl (sub_len Hn.out 9 7 (by omega)) (HLp9.out _ (by assumption)) ?_
          | refine wpList_load_at 33 (.tmp 130) rfl Try.underlying33 rfl Hi2.out rfl rfl (sub_len Hn'.out 9 7 (by omega)) (HLq9.out _ (by assumption)) ?_)
            refine Calls.mono (s_EqualExpr D X.value Y.value _ _ f3 f3' _ (HVa.out _ (HW1.out _ hV2)) (HVb.out _ (HW1.out _ hV2))) ?_
            rintro en V3 ⟨rfl, hb⟩
            have hV3 : Below (wr.heap.size + 2) W1 V3 := below_step hV2 hn1 hb
            clear hb hV2
            rw [t3]
            go_wp2_with fail
            go_ret
            exact ⟨ret_bool Hbad.out.symm, Hw.out _ (HW1.out _ hV3)⟩
          have Hgood : Hid (eqCon D X Y = true) := hide (by simp only [eqCon, t0, t1, t2, t3, Bool.and_self])
          refine Hold.go ?_
          go_wp2_with (first
          | refine wpList_load_at 33 (.tmp 120) rfl Try.underlying33 rfl Hi2.out rfl rfl (sub_len Hn.out 2 7 (by omega)) (HLp2.out _ (by assumption)) ?_
          | refine wpList_load_at 33 (.tmp 122) rfl Try.underlying33 rfl Hi2.out rfl rfl (sub_len Hn'.out 2 7 (by omega)) (HLq2.out _ (by assumption)) ?_)
          refine Calls.mono (s_EqualExpr D X.target Y.target _ _ f2 f2' _ (HEa.out _ (HW1.out _ hB1)) (HEb.out _ (HW1.out _ hB1))) ?_
          rintro en V2 ⟨rfl, hb⟩
          have hV2 : Below (wr.heap.size + 2) W1 V2 := below_step hB1 hn1 hb
          clear hb hB1
          rw [t2]
          go_wp2_with (first
          | refine wpList_load_at 33 (.tmp 128) rfl Try.underlying33 rfl Hi2.out rfl rfl (sub_len Hn.out 9 7 (by omega)) (HLp9.out _ (by assumption)) ?_
          | refine wpList_load_at 33 (.tmp 130) rfl Try.underlying33 rfl Hi2.out rfl rfl (sub_len Hn'.out 9 7 (by omega)) (HLq9.out _ (by assumption)) ?_)
          refine Calls.mono (s_EqualExpr D X.value Y.value _ _ f3 f3' _ (HVa.out _ (HW1.out _ hV2)) (HVb.out _ (HW1.out _ hV2))) ?_
          rintro en V3 ⟨rfl, hb⟩
          have hV3 : Below (wr.heap.size + 2) W1 V3 := below_step hV2 hn1 hb
          clear hb hV2
          rw [t3]
          go_wp2_with fail
          have HB2 := hide (HW1.out _ hV3)
          clear hV3 t0 t1 t2 t3
          go_roundw
          case rel =>
            refine ⟨m + 1, by omega, by go_num, hide (fun k X' Y' hk hx' hy' => ?_), HB2⟩
            by_cases hkj : k < m
            · exact Hall.out k X' Y' hkj hx' hy'
            · have hkj' : k = m := by omega
              subst hkj'
              rw [HX.out] at hx'
              rw [HY.out] at hy'
              injection hx' with hx'
              injection hy' with hy'
              rw [← hx', ← hy']
              exact Hgood.out
          case measure => simp [intOf]; omega
        · have Hyes : Hid (eqRul D x y = true) := hide (by rw [Hhead.out, HyesE.out, eqL_all Hl5.out (fun k X Y hx hy => Hall.out k X Y (by have := (List.getElem?_eq_some_iff.1 hx).1; omega) hx hy)]; rfl)
          go_wp2_with fail
          go_ret
          exact ⟨ret_bool Hyes.out.symm, Hw.out _ Hc.out⟩
end Go.Proofs.Ythifibjkgiggfaa
