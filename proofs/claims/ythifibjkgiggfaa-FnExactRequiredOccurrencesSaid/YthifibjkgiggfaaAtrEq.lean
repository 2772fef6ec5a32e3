/- Attributes compared by == and !=; slices of attributes compared, both sides; the closure of EqualGrammar. Conditions: none beyond that they can be read. -/
import Derived.Test.YthifibjkgiggfaaGrm
import Derived.Test.YthifibjkgiggfaaRulEqI
import Derived.Deep.QuietTactic
import Derived.BigQuiet
namespace Go.Proofs.Ythifibjkgiggfaa
set_option maxRecDepth 100000
open Go.RowKit Go.WideShapes
set_option linter.unusedVariables false

def eqAtr (_D : Nat) (a b : Atr) : Bool := (a.name.toList == b.name.toList) && ((a.type == b.type) && ((a.mode == b.mode) && (a.circ == b.circ)))
def eqSym (D : Nat) (a b : Sym) : Bool := (a.name.toList == b.name.toList) && eqL (eqAtr D) a.attrs b.attrs
theorem run_eqAtr (s s' : ByteArray) (t t' m m' : Int) (c c' : Bool) (W : World) : (Op.equalIn 10000 128 (.agg #[.string s, .int .i64 t, .int .i64 m, .bool c]) (.agg #[.string s', .int .i64 t', .int .i64 m', .bool c'])).run Try.prog W = .ok ((s.toList == s'.toList) && ((t == t') && ((m == m') && (c == c')))) W := by
  have E1 : ∀ W : World, (Op.equalIn 9999 9 (.string s) (.string s')).run Try.prog W = .ok (s.toList == s'.toList) W := fun W => run_equalIn_string W 9998 _ _ _ rfl
  have E2 : ∀ W : World, (Op.equalIn 9999 3 (.int .i64 t) (.int .i64 t')).run Try.prog W = .ok (t == t') W := fun W => run_equalIn_int W 9998 _ _ _ _ _ rfl
  have E3 : ∀ W : World, (Op.equalIn 9999 3 (.int .i64 m) (.int .i64 m')).run Try.prog W = .ok (m == m') W := fun W => run_equalIn_int W 9998 _ _ _ _ _ rfl
  have E4 : ∀ W : World, (Op.equalIn 9999 4 (.bool c) (.bool c')).run Try.prog W = .ok (c == c') W := fun W => run_equalIn_bool' W 9998 _ _ _ rfl
  cases h1 : (s.toList == s'.toList) <;> cases h2 : (t == t') <;> cases h3 : (m == m') <;> cases h4 : (c == c')
  all_goals
    rw [h1] at E1
    rw [h2] at E2
    rw [h3] at E3
    rw [h4] at E4
    go_simp
    try simp only [E1, E2, E3, E4, Result.andThen_ok, Bool.true_eq_false, if_true, if_false]
    try go_simp
theorem run_neqAtr (s s' : ByteArray) (t t' m m' : Int) (c c' : Bool) (W : World) : (binOp .neq 128 (.agg #[.string s, .int .i64 t, .int .i64 m, .bool c]) (.agg #[.string s', .int .i64 t', .int .i64 m', .bool c'])).run Try.prog W = .ok (.bool !((s.toList == s'.toList) && ((t == t') && ((m == m') && (c == c'))))) W := by
  rw [run_neq_struct, run_eqAtr]
  rfl
set_option maxRecDepth 100000 in
set_option maxHeartbeats 2000000 in
theorem s_l10Attributes (D : Nat) (l l' : List Atr) (v v' : Value) (F F' : List Nat) (w : World) (hs : SlR 4 (AtrR D) w l v F) (hs' : SlR 4 (AtrR D) w l' v' F') :
    Calls Try.prog 94 #[v, v'] w fun en w' => en = .returned (.bool (eqL (eqAtr D) l l')) ∧ Below w.heap.size w w' := by
  obtain ⟨A, cap, rfl, hlc, hm⟩ := hs.form
  obtain ⟨A', cap', rfl, hlc', hm'⟩ := hs'.form
  have HF := hide (hs.lt (AtrR.good D))
  have HF' := hide (hs'.lt (AtrR.good D))
  unfold maxLen at hm hm'
  have Hs := hide hs
  have Hs' := hide hs'
  clear hs hs'
  by_cases hll : l.length = l'.length
  · generalize hq : l'.length = q0 at *
    have Hq := hide hq
    clear hq
    subst hll
    go_enter Try.func94, Try.ntmps94
    go_wp2_with fail
    go_loopw [5] (fun i wr => ∃ j : Nat, j ≤ l.length ∧ i = .int .i64 j ∧ Hid (∀ k x y, k < j → l[k]? = some x → l'[k]? = some y → eqAtr D x y = true) ∧ Hid (Below w.heap.size w wr)) (fun i _ => l.length - (intOf i).toNat)
    case atStart => exact ⟨0, by omega, rfl, hide (fun k x y h => absurd h (by omega)), hide (Below.refl _ _)⟩
    case round =>
      obtain ⟨j, hj, rfl, Hall, Hb⟩ := hrel
      by_cases hlt : j < l.length
      · have hx : l[j]? = some l[j] := List.getElem?_eq_getElem hlt
        have hlt' : j < l'.length := by rw [Hq.out]; exact hlt
        have hy : l'[j]? = some l'[j] := List.getElem?_eq_getElem hlt'
        generalize l[j] = X at hx
        generalize l'[j] = Y at hy
        clear hlt'
        have Hx := hide hx
        have Hy := hide hy
        obtain ⟨b, off, cs, Fk, hA, _, hbF, hFk, hcl, hcat, hR⟩ := SlR.get (AtrR.good D) (Hs.out.below (AtrR.good D) Hb.out HF.out) hx
        subst hA
        obtain ⟨b', off', cs', Fk', hA, _, hbF', hFk', hcl', hcat', hR'⟩ := SlR.get (AtrR.good D) (Hs'.out.below (AtrR.good D) Hb.out HF'.out) hy
        subst hA
        obtain ⟨c0, c1, c2, c3, rfl⟩ := list4 hcl
        obtain ⟨d0, d1, d2, d3, rfl⟩ := list4 hcl'
        obtain ⟨_, _, h0, h1, h2, h3, _⟩ := hR
        obtain ⟨_, _, k0, k1, k2, k3, _⟩ := hR'
        obtain rfl := Option.some.inj h0
        obtain rfl := Option.some.inj h1
        obtain rfl := Option.some.inj h2
        obtain rfl := Option.some.inj h3
        obtain rfl := Option.some.inj k0
        obtain rfl := Option.some.inj k1
        obtain rfl := Option.some.inj k2
        obtain rfl := Option.some.inj k3
        obtain ⟨e0, e1, e2, e3⟩ := hcat.four
        obtain ⟨g0, g1, g2, g3⟩ := hcat'.four
        have N : ∀ W : World, (binOp .neq 128 (.agg #[.string X.name, .int .i64 X.type, .int .i64 X.mode, .bool X.circ]) (.agg #[.string Y.name, .int .i64 Y.type, .int .i64 Y.mode, .bool Y.circ])).run Try.prog W = .ok (.bool !(eqAtr D X Y)) W := fun W => run_neqAtr _ _ _ _ _ _ _ _ W
        have Q : ∀ W : World, (Op.equalIn 10000 128 (.agg #[.string X.name, .int .i64 X.type, .int .i64 X.mode, .bool X.circ]) (.agg #[.string Y.name, .int .i64 Y.type, .int .i64 Y.mode, .bool Y.circ])).run Try.prog W = .ok (eqAtr D X Y) W := fun W => run_eqAtr _ _ _ _ _ _ _ _ W
        have hj0 : (0 : Int) ≤ (j : Int) := by omega
        have hj1 : (j : Int) < (l.length : Int) := by omega
        clear hx hy hcat hcat' hFk hFk' hbF hbF' hcl hcl' h0 h1 h2 h3 k0 k1 k2 k3
        cases hxy : eqAtr D X Y
        · have Hbad := hide (eqL_bad (f := eqAtr D) Hx.out Hy.out hxy)
          rw [hxy] at N Q
          simp only [Bool.not_false, Bool.not_true] at N
          go_wp2_with fail
          go_quiet (fail)
          go_wp2_with fail
          go_ret
          exact ⟨ret_bool Hbad.out.symm, below_drewN Hb.out _⟩
        · have Hxy := hide hxy
          rw [hxy] at N Q
          simp only [Bool.not_false, Bool.not_true] at N
          go_wp2_with fail
          go_quiet (fail)
          go_wp2_with fail
          go_roundw
          case rel =>
            refine ⟨j + 1, by omega, by go_num, hide (fun k x' y' hk hx' hy' => ?_), hide (below_drewN Hb.out _)⟩
            by_cases hkj : k < j
            · exact Hall.out k x' y' hkj hx' hy'
            · have hkj' : k = j := by omega
              subst hkj'
              rw [Hx.out] at hx'
              rw [Hy.out] at hy'
              injection hx' with hx'
              injection hy' with hy'
              rw [← hx', ← hy']
              exact Hxy.out
          case measure => simp [intOf]; omega
      · have Hyes : Hid (eqL (eqAtr D) l l' = true) := hide (eqL_all Hq.out.symm (fun k x y hx hy => Hall.out k x y (by have := (List.getElem?_eq_some_iff.1 hx).1; omega) hx hy))
        go_wp2_with fail
        go_ret
        exact ⟨ret_bool Hyes.out.symm, Hb.out⟩
  · have hne : ((l.length : Int) != (l'.length : Int)) = true := by rw [bne_iff_ne]; omega
    have Hno := hide (eqL_len (f := eqAtr D) hll)
    clear hll
    go_enter Try.func94, Try.ntmps94
    go_wp2_with fail
    go_ret
    exact ⟨ret_bool Hno.out.symm, Below.refl _ _⟩
set_option maxRecDepth 100000 in
set_option maxHeartbeats 2000000 in
theorem t_EqualA (D : Nat) (l l' : List Atr) (v v' : Value) (F F' : List Nat) (w : World) (hs : SlR 4 (AtrR D) w l v F) (hs' : SlR 4 (AtrR D) w l' v' F') :
    Calls Try.prog 100 #[v, v'] w fun en w' => en = .returned (.bool (eqL (eqAtr D) l l')) ∧ Below w.heap.size w w' := by
  obtain ⟨A, cap, rfl, hlc, hm⟩ := hs.form
  obtain ⟨A', cap', rfl, hlc', hm'⟩ := hs'.form
  have HF := hide (hs.lt (AtrR.good D))
  have HF' := hide (hs'.lt (AtrR.good D))
  unfold maxLen at hm hm'
  have Hs := hide hs
  have Hs' := hide hs'
  clear hs hs'
  by_cases hll : l.length = l'.length
  · generalize hq : l'.length = q0 at *
    have Hq := hide hq
    clear hq
    subst hll
    go_enter Try.func100, Try.ntmps100
    go_wp2_with fail
    go_loopw [13] (fun i wr => ∃ j : Nat, j ≤ l.length ∧ i = .int .i64 j ∧ Hid (∀ k x y, k < j → l[k]? = some x → l'[k]? = some y → eqAtr D x y = true) ∧ Hid (Below w.heap.size w wr)) (fun i _ => l.length - (intOf i).toNat)
    case atStart => exact ⟨0, by omega, rfl, hide (fun k x y h => absurd h (by omega)), hide (Below.refl _ _)⟩
    case round =>
      obtain ⟨j, hj, rfl, Hall, Hb⟩ := hrel
      by_cases hlt : j < l.length
      · have hx : l[j]? = some l[j] := List.getElem?_eq_getElem hlt
        have hlt' : j < l'.length := by rw [Hq.out]; exact hlt
        have hy : l'[j]? = some l'[j] := List.getElem?_eq_getElem hlt'
        generalize l[j] = X at hx
        generalize l'[j] = Y at hy
        clear hlt'
        have Hx := hide hx
        have Hy := hide hy
        obtain ⟨b, off, cs, Fk, hA, _, hbF, hFk, hcl, hcat, hR⟩ := SlR.get (AtrR.good D) (Hs.out.below (AtrR.good D) Hb.out HF.out) hx
        subst hA
        obtain ⟨b', off', cs', Fk', hA, _, hbF', hFk', hcl', hcat', hR'⟩ := SlR.get (AtrR.good D) (Hs'.out.below (AtrR.good D) Hb.out HF'.out) hy
        subst hA
        obtain ⟨c0, c1, c2, c3, rfl⟩ := list4 hcl
        obtain ⟨d0, d1, d2, d3, rfl⟩ := list4 hcl'
        obtain ⟨_, _, h0, h1, h2, h3, _⟩ := hR
        obtain ⟨_, _, k0, k1, k2, k3, _⟩ := hR'
        obtain rfl := Option.some.inj h0
        obtain rfl := Option.some.inj h1
        obtain rfl := Option.some.inj h2
        obtain rfl := Option.some.inj h3
        obtain rfl := Option.some.inj k0
        obtain rfl := Option.some.inj k1
        obtain rfl := Option.some.inj k2
        obtain rfl := Option.some.inj k3
        obtain ⟨e0, e1, e2, e3⟩ := hcat.four
        obtain ⟨g0, g1, g2, g3⟩ := hcat'.four
        have N : ∀ W : World, (binOp .neq 128 (.agg #[.string X.name, .int .i64 X.type, .int .i64 X.mode, .bool X.circ]) (.agg #[.string Y.name, .int .i64 Y.type, .int .i64 Y.mode, .bool Y.circ])).run Try.prog W = .ok (.bool !(eqAtr D X Y)) W := fun W => run_neqAtr _ _ _ _ _ _ _ _ W
        have Q : ∀ W : World, (Op.equalIn 10000 128 (.agg #[.string X.name, .int .i64 X.type, .int .i64 X.mode, .bool X.circ]) (.agg #[.string Y.name, .int .i64 Y.type, .int .i64 Y.mode, .bool Y.circ])).run Try.prog W = .ok (eqAtr D X Y) W := fun W => run_eqAtr _ _ _ _ _ _ _ _ W
        have hj0 : (0 : Int) ≤ (j : Int) := by omega
        have hj1 : (j : Int) < (l.length : Int) := by omega
        clear hx hy hcat hcat' hFk hFk' hbF hbF' hcl hcl' h0 h1 h2 h3 k0 k1 k2 k3
        cases hxy : eqAtr D X Y
        · have Hbad := hide (eqL_bad (f := eqAtr D) Hx.out Hy.out hxy)
          rw [hxy] at N Q
          simp only [Bool.not_false, Bool.not_true] at N
          go_wp2_with fail
          go_quiet (fail)
          go_wp2_with fail
          go_ret
          exact ⟨ret_bool Hbad.out.symm, below_drewN Hb.out _⟩
        · have Hxy := hide hxy
          rw [hxy] at N Q
          simp only [Bool.not_false, Bool.not_true] at N
          go_wp2_with fail
          go_quiet (fail)
          go_wp2_with fail
          go_roundw
          case rel =>
            refine ⟨j + 1, by omega, by go_num, hide (fun k x' y' hk hx' hy' => ?_), hide (below_drewN Hb.out _)⟩
            by_cases hkj : k < j
            · exact Hall.out k x' y' hkj hx' hy'
            · have hkj' : k = j := by omega
              subst hkj'
              rw [Hx.out] at hx'
              rw [Hy.out] at hy'
              injection hx' with hx'
              injection hy' with hy'
              rw [← hx', ← hy']
              exact Hxy.out
          case measure => simp [intOf]; omega
      · have Hyes : Hid (eqL (eqAtr D) l l' = true) := hide (eqL_all Hq.out.symm (fun k x y hx hy => Hall.out k x y (by have := (List.getElem?_eq_some_iff.1 hx).1; omega) hx hy))
        go_wp2_with fail
        go_ret
        exact ⟨ret_bool Hyes.out.symm, Hb.out⟩
  · have hne : ((l.length : Int) != (l'.length : Int)) = true := by rw [bne_iff_ne]; omega
    have Hno := hide (eqL_len (f := eqAtr D) hll)
    clear hll
    go_enter Try.func100, Try.ntmps100
    go_wp2_with fail
    go_ret
    exact ⟨ret_bool Hno.out.symm, Below.refl _ _⟩
set_option maxRecDepth 100000 in
theorem i_clSym (D : Nat) (x y : Sym) (cs cs' : List Value) (F F' : List Nat) (w : World) (h : SymR D w x cs F) (h' : SymR D w y cs' F') :
    Calls Try.prog 99 #[.agg cs.toArray, .agg cs'.toArray] w fun en w' => en = .returned (.bool (eqSym D x y)) ∧ Below w.heap.size w w' := by
  obtain ⟨p0, p1, rfl⟩ := list2 ((SymR.good D).len h)
  obtain ⟨q0, q1, rfl⟩ := list2 ((SymR.good D).len h')
  obtain ⟨v1, F1, _, _, h0, ⟨h1, g1⟩, rfl⟩ := h
  obtain ⟨u1, G1, _, _, k0, ⟨k1, m1⟩, rfl⟩ := h'
  obtain rfl := Option.some.inj h0
  obtain rfl := Option.some.inj h1
  obtain rfl := Option.some.inj k0
  obtain rfl := Option.some.inj k1
  obtain ⟨A1, c1, rfl, _, _⟩ := g1.form
  obtain ⟨B1, d1, rfl, _, _⟩ := m1.form
  have HF := hide (g1.lt (AtrR.good D))
  have HG := hide (m1.lt (AtrR.good D))
  have Hg : Hid (∀ W : World, Below w.heap.size w W → SlR 4 (AtrR D) W x.attrs (.slice A1 x.attrs.length c1) F) := hide fun W hW => g1.below (AtrR.good D) hW HF.out
  have Hm : Hid (∀ W : World, Below w.heap.size w W → SlR 4 (AtrR D) W y.attrs (.slice B1 y.attrs.length d1) F') := hide fun W hW => m1.below (AtrR.good D) hW HG.out
  obtain ⟨C1, C2, hz0, hw0⟩ := boxes2 w [.string x.name, .slice A1 x.attrs.length c1] [.string y.name, .slice B1 y.attrs.length d1] 79 79
  show Calls _ _ #[.agg #[.string x.name, .slice A1 x.attrs.length c1], .agg #[.string y.name, .slice B1 y.attrs.length d1]] w _
  clear g1 m1 h0 h1 k0 k1
  cases t0 : (x.name.toList == y.name.toList)
  · have Hr : Hid (eqSym D x y = false) := hide (by simp only [eqSym, t0, Bool.false_and])
    go_enter Try.func99, Try.ntmps99
    go_wp2_with fail
    go_ret
    exact ⟨ret_bool Hr.out.symm, hw0⟩
  · have Hr : Hid (eqSym D x y = eqL (eqAtr D) x.attrs y.attrs) := hide (by simp only [eqSym, t0, Bool.true_and])
    go_enter Try.func99, Try.ntmps99
    go_wp2_with fail
    generalize (w.alloc (Obj.cells #[.string x.name, .slice A1 x.attrs.length c1] 79)).alloc (Obj.cells #[.string y.name, .slice B1 y.attrs.length d1] 79) = W0 at C1 C2 hz0 hw0 ⊢
    refine Calls.mono (t_EqualA D x.attrs y.attrs _ _ F F' W0 (Hg.out W0 hw0) (Hm.out W0 hw0)) ?_
    rintro en w1 ⟨rfl, hb⟩
    have HB := hide (hw0.trans (hb.mono hw0.size))
    clear hb hw0
    go_wp2_with fail
    go_ret
    exact ⟨ret_bool Hr.out.symm, HB.out⟩
end Go.Proofs.Ythifibjkgiggfaa
