/- The closures of EqualRule and the comparison of slices by them. -/
import Derived.Test.YthifibjkgiggfaaOccEq
import Derived.Test.YthifibjkgiggfaaExEq
import Derived.Laws.StructEq
namespace Go.Proofs.Ythifibjkgiggfaa
set_option maxRecDepth 100000
open Go.RowKit Go.WideShapes
set_option linter.unusedVariables false
def eqEqn (D : Nat) (a b : Eqn) : Bool := eqOcc a.at_ b.at_ && eqE D a.expr b.expr
set_option maxRecDepth 100000 in
theorem i_clEqn (D : Nat) (x y : Eqn) (cs cs' : List Value) (F F' : List Nat) (w : World) (h : EqnR D w x cs F) (h' : EqnR D w y cs' F') :
    Calls Try.prog 154 #[.agg cs.toArray, .agg cs'.toArray] w fun en w' => en = .returned (.bool (eqEqn D x y)) ∧ Below w.heap.size w w' := by
  obtain ⟨a0, a1, a2, a3, a4, a5, a6, a7, a8, rfl⟩ := list_9 ((EqnR.good D).len h)
  obtain ⟨F0, F1, _, h0, h1, rfl⟩ := h
  obtain ⟨b0, b1, b2, b3, b4, b5, b6, b7, b8, rfl⟩ := list_9 ((EqnR.good D).len h')
  obtain ⟨pF0, pF1, _, ph0, ph1, rfl⟩ := h'
  have HF1 := hide ((ExR.good D).lt h1)
  have HXF1 : Hid (∀ W : World, Below w.heap.size w W → ExR D W x.expr [a2, a3, a4, a5, a6, a7, a8] F1) := hide fun W hW => (ExR.good D).below h1 hW HF1.out
  clear h1
  have HpF1 := hide ((ExR.good D).lt ph1)
  have HXpF1 : Hid (∀ W : World, Below w.heap.size w W → ExR D W y.expr [b2, b3, b4, b5, b6, b7, b8] pF1) := hide fun W hW => (ExR.good D).below ph1 hW HpF1.out
  clear ph1
  obtain ⟨_, _, hp0, hp1, _⟩ := h0
  obtain ⟨_, _, hq0, hq1, _⟩ := ph0
  have hp0 := hide hp0
  have hp1 := hide hp1
  have hq0 := hide hq0
  have hq1 := hide hq1
  obtain ⟨C1, C2, hz0, hw0⟩ := boxes2 w [a0, a1, a2, a3, a4, a5, a6, a7, a8] [b0, b1, b2, b3, b4, b5, b6, b7, b8] 95 95
  show Calls _ _ #[.agg #[a0, a1, a2, a3, a4, a5, a6, a7, a8], .agg #[b0, b1, b2, b3, b4, b5, b6, b7, b8]] w _
  go_enter Try.func154, Try.ntmps154
  go_wp2_with fail
  generalize (w.alloc (Obj.cells #[a0, a1, a2, a3, a4, a5, a6, a7, a8] 95)).alloc (Obj.cells #[b0, b1, b2, b3, b4, b5, b6, b7, b8] 95) = W0 at C1 C2 hz0 hw0 ⊢
  have hn0 : (w.heap.size + 2) ≤ W0.heap.size := by omega
  have Hw : Hid (∀ W : World, Below (w.heap.size + 2) W0 W → Below w.heap.size w W) := hide fun W h => hw0.trans (h.mono (by omega))
  have hB0 : Below (w.heap.size + 2) W0 W0 := Below.refl _ _
  have e0 := cell_rule C1 (n := (w.heap.size + 2)) (by omega) 0 (v := a0) rfl
  have g0 := cell_rule C2 (n := (w.heap.size + 2)) (by omega) 0 (v := b0) rfl
  have e1 := cell_rule C1 (n := (w.heap.size + 2)) (by omega) 1 (v := a1) rfl
  have g1 := cell_rule C2 (n := (w.heap.size + 2)) (by omega) 1 (v := b1) rfl
  have e2 := cell_rule C1 (n := (w.heap.size + 2)) (by omega) 2 (v := a2) rfl
  have g2 := cell_rule C2 (n := (w.heap.size + 2)) (by omega) 2 (v := b2) rfl
  have e3 := cell_rule C1 (n := (w.heap.size + 2)) (by omega) 3 (v := a3) rfl
  have g3 := cell_rule C2 (n := (w.heap.size + 2)) (by omega) 3 (v := b3) rfl
  have e4 := cell_rule C1 (n := (w.heap.size + 2)) (by omega) 4 (v := a4) rfl
  have g4 := cell_rule C2 (n := (w.heap.size + 2)) (by omega) 4 (v := b4) rfl
  have e5 := cell_rule C1 (n := (w.heap.size + 2)) (by omega) 5 (v := a5) rfl
  have g5 := cell_rule C2 (n := (w.heap.size + 2)) (by omega) 5 (v := b5) rfl
  have e6 := cell_rule C1 (n := (w.heap.size + 2)) (by omega) 6 (v := a6) rfl
  have g6 := cell_rule C2 (n := (w.heap.size + 2)) (by omega) 6 (v := b6) rfl
  have e7 := cell_rule C1 (n := (w.heap.size + 2)) (by omega) 7 (v := a7) rfl
  have g7 := cell_rule C2 (n := (w.heap.size + 2)) (by omega) 7 (v := b7) rfl
  have e8 := cell_rule C1 (n := (w.heap.size + 2)) (by omega) 8 (v := a8) rfl
  have g8 := cell_rule C2 (n := (w.heap.size + 2)) (by omega) 8 (v := b8) rfl
  obtain rfl : a0 = .int .i64 x.at_.pos := by simpa using hp0.out
  obtain rfl : a1 = .string x.at_.name := by simpa using hp1.out
  obtain rfl : b0 = .int .i64 y.at_.pos := by simpa using hq0.out
  obtain rfl : b1 = .string y.at_.name := by simpa using hq1.out
  clear hp0 hp1 hq0 hq1 C1 C2
  have E1 : ∀ W : World, (Op.equalIn 9999 3 (.int .i64 x.at_.pos) (.int .i64 y.at_.pos)).run Try.prog W = .ok (x.at_.pos == y.at_.pos) W := fun W => run_equalIn_int W 9998 _ _ _ _ _ rfl
  have E2 : ∀ W : World, (Op.equalIn 9999 9 (.string x.at_.name) (.string y.at_.name)).run Try.prog W = .ok (x.at_.name.toList == y.at_.name.toList) W := fun W => run_equalIn_string W 9998 _ _ _ rfl
  by_cases hp : x.at_.pos = y.at_.pos
  · by_cases hn : x.at_.name.toList = y.at_.name.toList
    · rw [beq_iff_eq.2 hp] at E1
      rw [beq_iff_eq.2 hn] at E2
      have Hr : Hid (eqEqn D x y = eqE D x.expr y.expr) := hide (by simp [eqEqn, eqOcc, hp, hn])
      go_wp2_with fail
      simp only [E1, E2, Result.andThen_ok, Bool.true_eq_false, if_true, if_false]
      go_wp2_with fail
      refine Calls.mono (i_EqualExpr D x.expr y.expr _ _ _ _ W0 (HXF1.out W0 (Hw.out W0 hB0)) (HXpF1.out W0 (Hw.out W0 hB0))) ?_
      rintro en w1 ⟨rfl, hb1⟩
      have Hb1 := hide ((Hw.out W0 hB0).trans (hb1.mono (by omega)))
      clear hb1
      go_wp2_with fail
      go_ret
      exact ⟨ret_bool Hr.out.symm, Hb1.out⟩
    · rw [beq_iff_eq.2 hp] at E1
      rw [beq_eq_false_iff_ne.2 hn] at E2
      have Hr : Hid (eqEqn D x y = false) := hide (by simp [eqEqn, eqOcc, hn])
      go_wp2_with fail
      simp only [E1, E2, Result.andThen_ok, Bool.true_eq_false, if_true, if_false]
      go_wp2_with fail
      go_ret
      exact ⟨ret_bool Hr.out.symm, Hw.out _ hB0⟩
  · rw [beq_eq_false_iff_ne.2 hp] at E1
    have Hr : Hid (eqEqn D x y = false) := hide (by simp [eqEqn, eqOcc, hp])
    go_wp2_with fail
    simp only [E1, Result.andThen_ok, Bool.true_eq_false, if_true, if_false]
    go_wp2_with fail
    go_ret
    exact ⟨ret_bool Hr.out.symm, Hw.out _ hB0⟩
def eqCon (D : Nat) (a b : Con) : Bool := ((a.symbol.toList == b.symbol.toList) && (a.name.toList == b.name.toList)) && eqE D a.target b.target && eqE D a.value b.value
set_option maxRecDepth 100000 in
set_option maxHeartbeats 2000000 in
theorem i_clCon (D : Nat) (x y : Con) (cs cs' : List Value) (F F' : List Nat) (w : World) (h : ConR D w x cs F) (h' : ConR D w y cs' F') :
    Calls Try.prog 157 #[.agg cs.toArray, .agg cs'.toArray] w fun en w' => en = .returned (.bool (eqCon D x y)) ∧ Below w.heap.size w w' := by
  obtain ⟨a0, a1, a2, a3, a4, a5, a6, a7, a8, a9, a10, a11, a12, a13, a14, a15, rfl⟩ := list_16 ((ConR.good D).len h)
  obtain ⟨F2, F3, _, hk, h0, h1, h2, h3, rfl⟩ := h
  obtain ⟨b0, b1, b2, b3, b4, b5, b6, b7, b8, b9, b10, b11, b12, b13, b14, b15, rfl⟩ := list_16 ((ConR.good D).len h')
  obtain ⟨pF2, pF3, _, phk, ph0, ph1, ph2, ph3, rfl⟩ := h'
  have HF2 := hide ((ExR.good D).lt h2)
  have HXF2 : Hid (∀ W : World, Below w.heap.size w W → ExR D W x.target [a2, a3, a4, a5, a6, a7, a8] F2) := hide fun W hW => (ExR.good D).below h2 hW HF2.out
  clear h2
  have HF3 := hide ((ExR.good D).lt h3)
  have HXF3 : Hid (∀ W : World, Below w.heap.size w W → ExR D W x.value [a9, a10, a11, a12, a13, a14, a15] F3) := hide fun W hW => (ExR.good D).below h3 hW HF3.out
  clear h3
  have HpF2 := hide ((ExR.good D).lt ph2)
  have HXpF2 : Hid (∀ W : World, Below w.heap.size w W → ExR D W y.target [b2, b3, b4, b5, b6, b7, b8] pF2) := hide fun W hW => (ExR.good D).below ph2 hW HpF2.out
  clear ph2
  have HpF3 := hide ((ExR.good D).lt ph3)
  have HXpF3 : Hid (∀ W : World, Below w.heap.size w W → ExR D W y.value [b9, b10, b11, b12, b13, b14, b15] pF3) := hide fun W hW => (ExR.good D).below ph3 hW HpF3.out
  clear ph3
  have hp0 := hide h0
  have hp1 := hide h1
  have hq0 := hide ph0
  have hq1 := hide ph1
  clear h0 h1 ph0 ph1
  obtain ⟨C1, C2, hz0, hw0⟩ := boxes2 w [a0, a1, a2, a3, a4, a5, a6, a7, a8, a9, a10, a11, a12, a13, a14, a15] [b0, b1, b2, b3, b4, b5, b6, b7, b8, b9, b10, b11, b12, b13, b14, b15] 110 110
  show Calls _ _ #[.agg #[a0, a1, a2, a3, a4, a5, a6, a7, a8, a9, a10, a11, a12, a13, a14, a15], .agg #[b0, b1, b2, b3, b4, b5, b6, b7, b8, b9, b10, b11, b12, b13, b14, b15]] w _
  go_enter Try.func157, Try.ntmps157
  go_wp2_with fail
  generalize (w.alloc (Obj.cells #[a0, a1, a2, a3, a4, a5, a6, a7, a8, a9, a10, a11, a12, a13, a14, a15] 110)).alloc (Obj.cells #[b0, b1, b2, b3, b4, b5, b6, b7, b8, b9, b10, b11, b12, b13, b14, b15] 110) = W0 at C1 C2 hz0 hw0 ⊢
  have hn0 : (w.heap.size + 2) ≤ W0.heap.size := by omega
  have Hw : Hid (∀ W : World, Below (w.heap.size + 2) W0 W → Below w.heap.size w W) := hide fun W h => hw0.trans (h.mono (by omega))
  have hB0 : Below (w.heap.size + 2) W0 W0 := Below.refl _ _
  have e0 := cell_rule C1 (n := (w.heap.size + 2)) (by omega) 0 (v := a0) rfl
  have g0 := cell_rule C2 (n := (w.heap.size + 2)) (by omega) 0 (v := b0) rfl
  have e1 := cell_rule C1 (n := (w.heap.size + 2)) (by omega) 1 (v := a1) rfl
  have g1 := cell_rule C2 (n := (w.heap.size + 2)) (by omega) 1 (v := b1) rfl
  have e2 := cell_rule C1 (n := (w.heap.size + 2)) (by omega) 2 (v := a2) rfl
  have g2 := cell_rule C2 (n := (w.heap.size + 2)) (by omega) 2 (v := b2) rfl
  have e3 := cell_rule C1 (n := (w.heap.size + 2)) (by omega) 3 (v := a3) rfl
  have g3 := cell_rule C2 (n := (w.heap.size + 2)) (by omega) 3 (v := b3) rfl
  have e4 := cell_rule C1 (n := (w.heap.size + 2)) (by omega) 4 (v := a4) rfl
  have g4 := cell_rule C2 (n := (w.heap.size + 2)) (by omega) 4 (v := b4) rfl
  have e5 := cell_rule C1 (n := (w.heap.size + 2)) (by omega) 5 (v := a5) rfl
  have g5 := cell_rule C2 (n := (w.heap.size + 2)) (by omega) 5 (v := b5) rfl
  have e6 := cell_rule C1 (n := (w.heap.size + 2)) (by omega) 6 (v := a6) rfl
  have g6 := cell_rule C2 (n := (w.heap.size + 2)) (by omega) 6 (v := b6) rfl
  have e7 := cell_rule C1 (n := (w.heap.size + 2)) (by omega) 7 (v := a7) rfl
  have g7 := cell_rule C2 (n := (w.heap.size + 2)) (by omega) 7 (v := b7) rfl
  have e8 := cell_rule C1 (n := (w.heap.size + 2)) (by omega) 8 (v := a8) rfl
  have g8 := cell_rule C2 (n := (w.heap.size + 2)) (by omega) 8 (v := b8) rfl
  have e9 := cell_rule C1 (n := (w.heap.size + 2)) (by omega) 9 (v := a9) rfl
  have g9 := cell_rule C2 (n := (w.heap.size + 2)) (by omega) 9 (v := b9) rfl
  have e10 := cell_rule C1 (n := (w.heap.size + 2)) (by omega) 10 (v := a10) rfl
  have g10 := cell_rule C2 (n := (w.heap.size + 2)) (by omega) 10 (v := b10) rfl
  have e11 := cell_rule C1 (n := (w.heap.size + 2)) (by omega) 11 (v := a11) rfl
  have g11 := cell_rule C2 (n := (w.heap.size + 2)) (by omega) 11 (v := b11) rfl
  have e12 := cell_rule C1 (n := (w.heap.size + 2)) (by omega) 12 (v := a12) rfl
  have g12 := cell_rule C2 (n := (w.heap.size + 2)) (by omega) 12 (v := b12) rfl
  have e13 := cell_rule C1 (n := (w.heap.size + 2)) (by omega) 13 (v := a13) rfl
  have g13 := cell_rule C2 (n := (w.heap.size + 2)) (by omega) 13 (v := b13) rfl
  have e14 := cell_rule C1 (n := (w.heap.size + 2)) (by omega) 14 (v := a14) rfl
  have g14 := cell_rule C2 (n := (w.heap.size + 2)) (by omega) 14 (v := b14) rfl
  have e15 := cell_rule C1 (n := (w.heap.size + 2)) (by omega) 15 (v := a15) rfl
  have g15 := cell_rule C2 (n := (w.heap.size + 2)) (by omega) 15 (v := b15) rfl
  obtain rfl : a0 = .string x.symbol := by simpa using hp0.out
  obtain rfl : a1 = .string x.name := by simpa using hp1.out
  obtain rfl : b0 = .string y.symbol := by simpa using hq0.out
  obtain rfl : b1 = .string y.name := by simpa using hq1.out
  clear hp0 hp1 hq0 hq1 C1 C2
  have G : ∀ (a b : Operand) (s t : ByteArray) (W : World), (eqGuard .eql 9 a b (.string s) (.string t)).run Try.prog W = .ok () W := fun a b s t W => by simp [eqGuard]
  have E : ∀ (s t : ByteArray) (W : World), (binOp .eql 9 (.string s) (.string t)).run Try.prog W = .ok (.bool (s.toList == t.toList)) W := fun s t W => by simp [binOp, Op.stringOp, beq_toListBytes]
  cases hp : x.symbol.toList == y.symbol.toList
  · have Hr : Hid (eqCon D x y = false) := hide (by simp only [eqCon, hp, Bool.false_and])
    go_wp2_with fail
    simp only [G, E, hp, Result.andThen_ok]
    go_wp2_with fail
    go_ret
    exact ⟨ret_bool Hr.out.symm, Hw.out _ hB0⟩
  cases hn : x.name.toList == y.name.toList
  · have Hr : Hid (eqCon D x y = false) := hide (by simp only [eqCon, hp, hn, Bool.and_false, Bool.false_and])
    go_wp2_with fail
    simp only [G, E, hp, Result.andThen_ok]
    go_wp2_with fail
    go_ret
    exact ⟨ret_bool Hr.out.symm, Hw.out _ hB0⟩
  cases ht : eqE D x.target y.target
  · have Hr : Hid (eqCon D x y = false) := hide (by simp only [eqCon, hp, hn, ht, Bool.and_false, Bool.false_and])
    go_wp2_with fail
    simp only [G, E, hp, Result.andThen_ok]
    go_wp2_with fail
    refine Calls.mono (i_EqualExpr D x.target y.target _ _ _ _ W0 (HXF2.out W0 (Hw.out W0 hB0)) (HXpF2.out W0 (Hw.out W0 hB0))) ?_
    rintro en w1 ⟨rfl, hb1⟩
    have hB1 : Below (w.heap.size + 2) W0 w1 := hb1.mono (by omega)
    clear hb1
    rw [ht]
    go_wp2_with fail
    go_ret
    exact ⟨ret_bool Hr.out.symm, Hw.out _ hB1⟩
  · have Hr : Hid (eqCon D x y = eqE D x.value y.value) := hide (by simp only [eqCon, hp, hn, ht, Bool.true_and])
    go_wp2_with fail
    simp only [G, E, hp, Result.andThen_ok]
    go_wp2_with fail
    refine Calls.mono (i_EqualExpr D x.target y.target _ _ _ _ W0 (HXF2.out W0 (Hw.out W0 hB0)) (HXpF2.out W0 (Hw.out W0 hB0))) ?_
    rintro en w1 ⟨rfl, hb1⟩
    have hB1 : Below (w.heap.size + 2) W0 w1 := hb1.mono (by omega)
    clear hb1
    rw [ht]
    go_wp2_with fail
    refine Calls.mono (i_EqualExpr D x.value y.value _ _ _ _ w1 (HXF3.out w1 (Hw.out w1 hB1)) (HXpF3.out w1 (Hw.out w1 hB1))) ?_
    rintro en w2 ⟨rfl, hb2⟩
    have hB2 : Below (w.heap.size + 2) W0 w2 := below_step hB1 (by omega) hb2
    clear hb2
    go_wp2_with fail
    go_ret
    exact ⟨ret_bool Hr.out.symm, Hw.out _ hB2⟩
end Go.Proofs.Ythifibjkgiggfaa
