/- Expressions: equality of both sides. Conditions: none beyond that the expressions can be read. -/
import Derived.Test.YtaihdnlpdibkoaaExCopy
import Derived.Deep.RegionHeld3
namespace Go.Proofs.Ytaihdnlpdibkoaa
set_option maxRecDepth 100000
open Go.RowKit Go.WideShapes

theorem box2_below {w w' : World} {bx b2 : Obj} (h : Below (w.heap.size + 2) ((w.alloc bx).alloc b2) w') : Below w.heap.size w w' := by
  have := box_below (w := w.alloc bx) (o := b2) (by rw [World.size_alloc]; exact h)
  rw [World.size_alloc] at this
  exact box_below this

theorem i_sameNode (d : Nat) (a b : Ex) (ca cb : List Value) (Fa Fb : List Nat) (w : World) (h : ExR (d + 1) w a ca Fa) (h' : ExR (d + 1) w b cb Fb) :
    Calls Try.prog 73 #[.agg ca.toArray, .agg cb.toArray] w fun en w' => en = .returned (.bool (eqHead a.h b.h)) ∧ Below w.heap.size w w' := by
    obtain ⟨A, cap, rfl, _, hl, hm, hs⟩ := ex_form h
    obtain ⟨A', cap', rfl, _, hl', hm', hs'⟩ := ex_form h'
    have HF := hide (hs.lt (ExR.good d))
    have HF' := hide (hs'.lt (ExR.good d))
    generalize hqa : eqHead a.h b.h = q
    have Hq := hide hqa
    clear hqa h h'
    obtain ⟨⟨k, n, p, t, s, m⟩, l⟩ := a
    obtain ⟨⟨k', n', p', t', s', m'⟩, l'⟩ := b
    simp only [Ex.args] at hs hs' hl hl' hm hm' HF HF'
    show Calls _ _ #[.agg #[.int .i64 k, .int .i64 n, .int .i64 p, .int .i64 t, .string s, .string m, .slice A l.length cap], .agg #[.int .i64 k', .int .i64 n', .int .i64 p', .int .i64 t', .string s', .string m', .slice A' l'.length cap']] w _
    simp only [Ex.h] at Hq
    by_cases h1 : k = k'
    · by_cases h2 : n = n'
      · by_cases h3 : p = p'
        · by_cases h4 : t = t'
          · by_cases h5 : s = s'
            · by_cases h6 : m = m'
              · subst h1 h2 h3 h4 h5 h6
                have hqq : q = true := by rw [← Hq.out]; simp [eqHead]
                rw [hqq]
                clear hqq Hq
                go_enter Try.func73, Try.ntmps73
                go_wp2_with fail
                go_ret
                exact ⟨rfl, ((Below.refl _ _).alloc (Nat.le_refl _) _).alloc (by simp) _⟩
              · have e1 : (m.toList != m'.toList) = true := by rw [bne_iff_ne]; intro e; exact h6 (by simpa [bytes_beq] using beq_iff_eq.2 e)
                have e2 : (m.toList == m'.toList) = false := by rw [bytes_beq]; simpa using h6
                subst h1 h2 h3 h4 h5
                have hqq : q = false := by rw [← Hq.out]; simp [eqHead, e2]
                rw [hqq]
                clear hqq Hq
                go_enter Try.func73, Try.ntmps73
                go_wp2_with fail
                go_ret
                exact ⟨rfl, ((Below.refl _ _).alloc (Nat.le_refl _) _).alloc (by simp) _⟩
            · have e1 : (s.toList != s'.toList) = true := by rw [bne_iff_ne]; intro e; exact h5 (by simpa [bytes_beq] using beq_iff_eq.2 e)
              have e2 : (s.toList == s'.toList) = false := by rw [bytes_beq]; simpa using h5
              subst h1 h2 h3 h4
              have hqq : q = false := by rw [← Hq.out]; simp [eqHead, e2]
              rw [hqq]
              clear hqq Hq
              go_enter Try.func73, Try.ntmps73
              go_wp2_with fail
              go_ret
              exact ⟨rfl, ((Below.refl _ _).alloc (Nat.le_refl _) _).alloc (by simp) _⟩
          · have e1 : (t != t') = true := by rw [bne_iff_ne]; exact h4
            have e2 : (t == t') = false := by rw [beq_eq_false_iff_ne]; exact h4
            subst h1 h2 h3
            have hqq : q = false := by rw [← Hq.out]; simp [eqHead, e2]
            rw [hqq]
            clear hqq Hq
            go_enter Try.func73, Try.ntmps73
            go_wp2_with fail
            go_ret
            exact ⟨rfl, ((Below.refl _ _).alloc (Nat.le_refl _) _).alloc (by simp) _⟩
        · have e1 : (p != p') = true := by rw [bne_iff_ne]; exact h3
          have e2 : (p == p') = false := by rw [beq_eq_false_iff_ne]; exact h3
          subst h1 h2
          have hqq : q = false := by rw [← Hq.out]; simp [eqHead, e2]
          rw [hqq]
          clear hqq Hq
          go_enter Try.func73, Try.ntmps73
          go_wp2_with fail
          go_ret
          exact ⟨rfl, ((Below.refl _ _).alloc (Nat.le_refl _) _).alloc (by simp) _⟩
      · have e1 : (n != n') = true := by rw [bne_iff_ne]; exact h2
        have e2 : (n == n') = false := by rw [beq_eq_false_iff_ne]; exact h2
        subst h1
        have hqq : q = false := by rw [← Hq.out]; simp [eqHead, e2]
        rw [hqq]
        clear hqq Hq
        go_enter Try.func73, Try.ntmps73
        go_wp2_with fail
        go_ret
        exact ⟨rfl, ((Below.refl _ _).alloc (Nat.le_refl _) _).alloc (by simp) _⟩
    · have e1 : (k != k') = true := by rw [bne_iff_ne]; exact h1
      have e2 : (k == k') = false := by rw [beq_eq_false_iff_ne]; exact h1
      have hqq : q = false := by rw [← Hq.out]; simp [eqHead, e2]
      rw [hqq]
      clear hqq Hq
      go_enter Try.func73, Try.ntmps73
      go_wp2_with fail
      go_ret
      exact ⟨rfl, ((Below.refl _ _).alloc (Nat.le_refl _) _).alloc (by simp) _⟩

def EqI (d : Nat) : Prop := ∀ (a b : Ex) (ca cb : List Value) (Fa Fb : List Nat) (w : World), ExR d w a ca Fa → ExR d w b cb Fb →
  Calls Try.prog 28 #[.agg ca.toArray, .agg cb.toArray] w fun en w' => en = .returned (.bool (eqE d a b)) ∧ Below w.heap.size w w'
set_option maxRecDepth 100000 in
theorem i_eqFunc {d : Nat} (hE : EqI d) (l l' : List Ex) (A A' : Option Addr) (cap cap' : Nat) (F F' : List Nat) (w : World) (hs : SlR 7 (ExR d) w l (.slice A l.length cap) F) (hs' : SlR 7 (ExR d) w l' (.slice A' l'.length cap') F') :
    Calls Try.prog 74 #[.slice A l.length cap, .slice A' l'.length cap', .func (.func 28) #[] #[]] w fun en w' => en = .returned (.bool (eqL (eqE d) l l')) ∧ Below w.heap.size w w' := by
  have HF := hide (hs.lt (ExR.good d))
  have HF' := hide (hs'.lt (ExR.good d))
  obtain ⟨_, hlc, hm⟩ := hs.bnd
  obtain ⟨_, hlc', hm'⟩ := hs'.bnd
  unfold maxLen at hm hm'
  have Hs := hide hs
  have Hs' := hide hs'
  have HE := hide hE
  clear hs hs' hE
  by_cases hll : l.length = l'.length
  · generalize hq : l'.length = q0 at *
    have Hq := hide hq
    clear hq
    subst hll
    go_enter Try.func74, Try.ntmps74
    go_wp2_with fail

    go_loopw [17] (fun i wr => ∃ j : Nat, j ≤ l.length ∧ i = .int .i64 j ∧ Hid (∀ k x y, k < j → l[k]? = some x → l'[k]? = some y → eqE d x y = true) ∧ Hid (Below w.heap.size w wr)) (fun i _ => l.length - (intOf i).toNat)
    case atStart => exact ⟨0, by omega, rfl, hide (fun k x y h => absurd h (by omega)), hide (Below.refl _ _)⟩
    case round =>
      obtain ⟨j, hj, rfl, Hall, Hb⟩ := hrel
      by_cases hlt : j < l.length
      · have hx : l[j]? = some l[j] := List.getElem?_eq_getElem hlt
        have hlt' : j < l'.length := by rw [Hq.out]; exact hlt
        have hy : l'[j]? = some l'[j] := List.getElem?_eq_getElem hlt'
        generalize l[j] = x at hx
        generalize l'[j] = y at hy
        clear hlt'
        have Hx := hide hx
        have Hy := hide hy
        obtain ⟨b, off, A1, cap1, Fk, hA, hbF, hFk, _, hl1, hm1, hcat, hR⟩ := ex_get (Hs.out.below (ExR.good d) Hb.out HF.out) hx
        subst hA
        obtain ⟨b', off', A2, cap2, Fk', hA, hbF', hFk', _, hl2, hm2, hcat', hR'⟩ := ex_get (Hs'.out.below (ExR.good d) Hb.out HF'.out) hy
        subst hA
        obtain ⟨e0, e1, e2, e3, e4, e5, e6⟩ := hcat.seven
        obtain ⟨g0, g1, g2, g3, g4, g5, g6⟩ := hcat'.seven
        have hblt := Nat.lt_of_lt_of_le (HF.out b hbF) Hb.out.size
        have hblt' := Nat.lt_of_lt_of_le (HF'.out b' hbF') Hb.out.size
        have HFk := hide ((ExR.good d).lt hR)
        have HFk' := hide ((ExR.good d).lt hR')
        have HR := hide hR
        have HR' := hide hR'
        clear hx hy hR hR' hcat hcat' hFk hFk' hbF hbF' hl1 hm1 hl2 hm2
        go_wp2_with fail
        refine Calls.mono (HE.out x y _ _ Fk Fk' _ ((ExR.good d).below HR.out (((Below.refl _ _).alloc (Nat.le_refl _) _).alloc (by rw [World.size_alloc]; omega) _) HFk.out) ((ExR.good d).below HR'.out (((Below.refl _ _).alloc (Nat.le_refl _) _).alloc (by rw [World.size_alloc]; omega) _) HFk'.out)) ?_
        rintro en w2 ⟨rfl, hb2⟩
        have HB2 : Hid (Below w.heap.size w w2) := hide (((Hb.out.alloc Hb.out.size _).alloc (by rw [World.size_alloc]; exact Nat.le_succ_of_le Hb.out.size) _).trans (hb2.mono (by rw [World.size_alloc, World.size_alloc]; have := Hb.out.size; omega)))
        clear hb2
        cases hxy : eqE d x y
        · have Hbad := hide (eqL_bad (f := eqE d) Hx.out Hy.out hxy)
          clear hxy
          go_wp2_with fail
          go_ret
          exact ⟨ret_bool Hbad.out.symm, HB2.out⟩
        · have Hxy := hide hxy
          clear hxy
          go_wp2_with fail
          go_roundw
          case rel =>
            refine ⟨j + 1, by omega, by go_num, hide (fun k x' y' hk hx' hy' => ?_), HB2⟩
            by_cases hkj : k < j
            · exact Hall.out k x' y' hkj hx' hy'
            · have hkj' : k = j := by omega
              subst hkj'
              rw [Hx.out] at hx'
              rw [Hy.out] at hy'
              injection hx' with hx'
              injection hy' with hy'
              rw [← hx', ← hy']
              exact Hxy.out
          case measure => simp [intOf]; omega
      · have Hyes : Hid (eqL (eqE d) l l' = true) := hide (eqL_all Hq.out.symm (fun k x y hx hy => Hall.out k x y (by have := (List.getElem?_eq_some_iff.1 hx).1; omega) hx hy))
        go_wp2_with fail
        go_ret
        exact ⟨ret_bool Hyes.out.symm, Hb.out⟩
  · have hne : ((l.length : Int) != (l'.length : Int)) = true := by rw [bne_iff_ne]; omega
    have Hno := hide (eqL_len (f := eqE d) hll)
    clear hll
    go_enter Try.func74, Try.ntmps74
    go_wp2_with fail
    go_ret
    exact ⟨ret_bool Hno.out.symm, Below.refl _ _⟩
set_option maxRecDepth 100000 in
theorem i_EqualExpr : ∀ d, EqI d
  | 0 => fun _ _ _ _ _ _ _ h _ => h.elim
  | d + 1 => fun a b ca cb Fa Fb w h h' => by
    have HSame : Hid (∀ W : World, Below w.heap.size w W → Calls Try.prog 73 #[.agg ca.toArray, .agg cb.toArray] W fun en w' => en = .returned (.bool (eqHead a.h b.h)) ∧ Below W.heap.size W w') := hide fun W hW =>
      i_sameNode d a b ca cb Fa Fb W ((ExR.good (d + 1)).below h hW ((ExR.good (d + 1)).lt h)) ((ExR.good (d + 1)).below h' hW ((ExR.good (d + 1)).lt h'))
    obtain ⟨A, cap, rfl, _, hl, hm, hs⟩ := ex_form h
    obtain ⟨A', cap', rfl, _, hl', hm', hs'⟩ := ex_form h'
    have HF := hide (hs.lt (ExR.good d))
    have HF' := hide (hs'.lt (ExR.good d))
    generalize hqa : eqE (d + 1) a b = q
    have Hq := hide hqa
    clear hqa h h'
    obtain ⟨⟨k, n, p, t, s, m⟩, l⟩ := a
    obtain ⟨⟨k', n', p', t', s', m'⟩, l'⟩ := b
    simp only [Ex.args] at hs hs' hl hl' hm hm' HF HF'
    show Calls _ _ #[.agg #[.int .i64 k, .int .i64 n, .int .i64 p, .int .i64 t, .string s, .string m, .slice A l.length cap], .agg #[.int .i64 k', .int .i64 n', .int .i64 p', .int .i64 t', .string s', .string m', .slice A' l'.length cap']] w _
    have Hq0 : Hid (eqHead ⟨k, n, p, t, s, m⟩ ⟨k', n', p', t', s', m'⟩ = false → q = false) := hide (fun hh => by rw [← Hq.out]; exact eqE_head hh)
    have Hq1 : Hid (eqHead ⟨k, n, p, t, s, m⟩ ⟨k', n', p', t', s', m'⟩ = true → q = eqL (eqE d) l l') := hide (fun hh => by rw [← Hq.out]; exact eqE_args hh)
    clear Hq
    simp only [Ex.h, ExH.cells] at HSame
    have HS : Hid (∀ W : World, Below w.heap.size w W → Calls Try.prog 74 #[.slice A l.length cap, .slice A' l'.length cap', .func (.func 28) #[] #[]] W fun en w' => en = .returned (.bool (eqL (eqE d) l l')) ∧ Below W.heap.size W w') := hide fun W hW =>
      i_eqFunc (i_EqualExpr d) l l' A A' cap cap' Fa Fb W (hs.below (ExR.good d) hW HF.out) (hs'.below (ExR.good d) hW HF'.out)
    clear hs hs' HF HF'
    have HC := hide (CellsAt.new w [.int .i64 k, .int .i64 n, .int .i64 p, .int .i64 t, .string s, .string m, .slice A l.length cap] 52)
    have HD := hide (CellsAt.new (w.alloc (Obj.cells #[.int .i64 k, .int .i64 n, .int .i64 p, .int .i64 t, .string s, .string m, .slice A l.length cap] 52)) [.int .i64 k', .int .i64 n', .int .i64 p', .int .i64 t', .string s', .string m', .slice A' l'.length cap'] 52)
    generalize hbx : Obj.cells #[.int .i64 k, .int .i64 n, .int .i64 p, .int .i64 t, .string s, .string m, .slice A l.length cap] 52 = bx at HC HD
    generalize hb2 : Obj.cells #[.int .i64 k', .int .i64 n', .int .i64 p', .int .i64 t', .string s', .string m', .slice A' l'.length cap'] 52 = b2 at HD
    rw [World.size_alloc] at HD
    have HC2 := hide (HC.out.below (w' := (w.alloc bx).alloc b2) ((Below.refl (w.heap.size + 1) _).alloc (by rw [World.size_alloc]; omega) _) (by omega))
    obtain ⟨c0, c1, c2, c3, c4, c5, c6⟩ := HC2.out.seven0
    obtain ⟨d0, d1, d2, d3, d4, d5, d6⟩ := HD.out.seven0
    go_enter Try.func28, Try.ntmps28
    go_wp2_with fail
    refine Calls.mono (HSame.out _ (((Below.refl _ _).alloc (Nat.le_refl _) _).alloc (by simp) _)) ?_
    rintro en w2 ⟨rfl, hb2⟩
    have HB2 : Hid (Below (w.heap.size + 2) ((w.alloc bx).alloc b2) w2) := hide (hb2.mono (by rw [World.size_alloc, World.size_alloc]; omega))
    clear hb2 c0 c1 c2 c3 c4 c5 c6 d0 d1 d2 d3 d4 d5 d6
    obtain ⟨c0, c1, c2, c3, c4, c5, c6⟩ := (HC2.out.below HB2.out (by omega)).seven0
    obtain ⟨d0, d1, d2, d3, d4, d5, d6⟩ := (HD.out.below HB2.out (by omega)).seven0
    cases hh : eqHead ⟨k, n, p, t, s, m⟩ ⟨k', n', p', t', s', m'⟩
    · have Hqq := hide (Hq0.out hh)
      go_wp2_with fail
      go_ret
      exact ⟨ret_bool Hqq.out.symm, box2_below HB2.out⟩
    · have Hqq := hide (Hq1.out hh)
      go_wp2_with fail
      refine Calls.mono (HS.out _ (box2_below HB2.out)) ?_
      rintro en w3 ⟨rfl, hb3⟩
      have HB3 : Hid (Below w.heap.size w w3) := hide ((box2_below HB2.out).trans (hb3.mono (box2_below HB2.out).size))
      clear hb3
      go_wp2_with fail
      go_ret
      exact ⟨ret_bool Hqq.out.symm, HB3.out⟩
end Go.Proofs.Ytaihdnlpdibkoaa
