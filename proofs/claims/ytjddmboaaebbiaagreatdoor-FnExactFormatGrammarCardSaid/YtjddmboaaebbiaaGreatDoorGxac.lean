/- Several texts of one proof in one file: Expressions: equality of both sides. Whether a number lies in a range. Conditions: each theorem names its own. -/
import Derived.Test.YtjddmboaaebbiaaGreatDoorGxab
import Derived.Deep.RegionHeld3
import Derived.Test.YtjddmboaaebbiaaGreatDoorRows
import Derived.Test.YtjddmboaaebbiaaGreatDoorGxaa

/- Expressions: equality of both sides. Conditions: none beyond that the expressions can be read. -/
namespace Go.Proofs.YtjddmboaaebbiaaGreatDoor
set_option linter.unusedSimpArgs false
set_option linter.unusedVariables false
set_option maxRecDepth 100000
open Go.RowKit Go.WideShapes

theorem box2_below {w w' : World} {bx b2 : Obj} (h : Below (w.heap.size + 2) ((w.alloc bx).alloc b2) w') : Below w.heap.size w w' := by
  have := box_below (w := w.alloc bx) (o := b2) (by rw [World.size_alloc]; exact h)
  rw [World.size_alloc] at this
  exact box_below this

theorem i_sameNode (d : Nat) (a b : Ex) (ca cb : List Value) (Fa Fb : List Nat) (w : World) (h : ExR (d + 1) w a ca Fa) (h' : ExR (d + 1) w b cb Fb) :
    Calls Tryz.prog 135 #[.agg ca.toArray, .agg cb.toArray] w fun en w' => en = .returned (.bool (eqHead a.h b.h)) ∧ Below w.heap.size w w' := by
    obtain ⟨A, cap, rfl, _, hl, hm, hs⟩ := ex_form h
    obtain ⟨A', cap', rfl, _, hl', hm', hs'⟩ := ex_form h'
    have HF := hide (hs.lt (ExR.good d))
    have HF' := hide (hs'.lt (ExR.good d))
    generalize hqa : eqHead a.h b.h = q
    have Hq := hide hqa
    clear hqa h h'
    obtain ⟨⟨k, n, p, t, s, m⟩, l⟩ := a
    obtain ⟨⟨k', n', p', t', s', m'⟩, l'⟩ := b
    simp only [Ex.args] at hs hs' hl hl' hm hm' HF HF'
    show Calls _ _ #[.agg #[.int .i64 k, .int .i64 n, .int .i64 p, .int .i64 t, .string s, .string m, .slice A l.length cap], .agg #[.int .i64 k', .int .i64 n', .int .i64 p', .int .i64 t', .string s', .string m', .slice A' l'.length cap']] w _
    simp only [Ex.h] at Hq
    by_cases h1 : k = k'
    · by_cases h2 : n = n'
      · by_cases h3 : p = p'
        · by_cases h4 : t = t'
          · by_cases h5 : s = s'
            · by_cases h6 : m = m'
              · subst h1 h2 h3 h4 h5 h6
                have hqq : q = true := by rw [← Hq.out]; simp [eqHead]
                rw [hqq]
                clear hqq Hq
                go_enter Tryz.func135, Tryz.ntmps135
                go_wp2_with fail
                go_ret
                exact ⟨rfl, ((Below.refl _ _).alloc (Nat.le_refl _) _).alloc (by simp) _⟩
              · have e1 : (m.toList != m'.toList) = true := by rw [bne_iff_ne]; intro e; exact h6 (by simpa [bytes_beq] using beq_iff_eq.2 e)
                have e2 : (m.toList == m'.toList) = false := by rw [bytes_beq]; simpa using h6
                subst h1 h2 h3 h4 h5
                have hqq : q = false := by rw [← Hq.out]; simp [eqHead, e2]
                rw [hqq]
                clear hqq Hq
                go_enter Tryz.func135, Tryz.ntmps135
                go_wp2_with fail
                go_ret
                exact ⟨rfl, ((Below.refl _ _).alloc (Nat.le_refl _) _).alloc (by simp) _⟩
            · have e1 : (s.toList != s'.toList) = true := by rw [bne_iff_ne]; intro e; exact h5 (by simpa [bytes_beq] using beq_iff_eq.2 e)
              have e2 : (s.toList == s'.toList) = false := by rw [bytes_beq]; simpa using h5
              subst h1 h2 h3 h4
              have hqq : q = false := by rw [← Hq.out]; simp [eqHead, e2]
              rw [hqq]
              clear hqq Hq
              go_enter Tryz.func135, Tryz.ntmps135
              go_wp2_with fail
              go_ret
              exact ⟨rfl, ((Below.refl _ _).alloc (Nat.le_refl _) _).alloc (by simp) _⟩
          · have e1 : (t != t') = true := by rw [bne_iff_ne]; exact h4
            have e2 : (t == t') = false := by rw [beq_eq_false_iff_ne]; exact h4
            subst h1 h2 h3
            have hqq : q = false := by rw [← Hq.out]; simp [eqHead, e2]
            rw [hqq]
            clear hqq Hq
            go_enter Tryz.func135, Tryz.ntmps135
            go_wp2_with fail
            go_ret
            exact ⟨rfl, ((Below.refl _ _).alloc (Nat.le_refl _) _).alloc (by simp) _⟩
        · have e1 : (p != p') = true := by rw [bne_iff_ne]; exact h3
          have e2 : (p == p') = false := by rw [beq_eq_false_iff_ne]; exact h3
          subst h1 h2
          have hqq : q = false := by rw [← Hq.out]; simp [eqHead, e2]
          rw [hqq]
          clear hqq Hq
          go_enter Tryz.func135, Tryz.ntmps135
          go_wp2_with fail
          go_ret
          exact ⟨rfl, ((Below.refl _ _).alloc (Nat.le_refl _) _).alloc (by simp) _⟩
      · have e1 : (n != n') = true := by rw [bne_iff_ne]; exact h2
        have e2 : (n == n') = false := by rw [beq_eq_false_iff_ne]; exact h2
        subst h1
        have hqq : q = false := by rw [← Hq.out]; simp [eqHead, e2]
        rw [hqq]
        clear hqq Hq
        go_enter Tryz.func135, Tryz.ntmps135
        go_wp2_with fail
        go_ret
        exact ⟨rfl, ((Below.refl _ _).alloc (Nat.le_refl _) _).alloc (by simp) _⟩
    · have e1 : (k != k') = true := by rw [bne_iff_ne]; exact h1
      have e2 : (k == k') = false := by rw [beq_eq_false_iff_ne]; exact h1
      have hqq : q = false := by rw [← Hq.out]; simp [eqHead, e2]
      rw [hqq]
      clear hqq Hq
      go_enter Tryz.func135, Tryz.ntmps135
      go_wp2_with fail
      go_ret
      exact ⟨rfl, ((Below.refl _ _).alloc (Nat.le_refl _) _).alloc (by simp) _⟩

end Go.Proofs.YtjddmboaaebbiaaGreatDoor

/- Whether a number lies in a range. Conditions: none. -/
namespace Go.Proofs.YtjddmboaaebbiaaGreatDoor
set_option linter.unusedSimpArgs false
set_option linter.unusedVariables false
set_option maxRecDepth 100000
open Go.RowKit

def inR (x lo hi : Int) : Bool := decide (lo ≤ x ∧ x ≤ hi)
theorem inR_yes {x lo hi : Int} (h : lo ≤ x ∧ x ≤ hi) : inR x lo hi = true := by unfold inR; exact decide_eq_true h
theorem inR_no {x lo hi : Int} (h : ¬ (lo ≤ x ∧ x ≤ hi)) : inR x lo hi = false := by unfold inR; exact decide_eq_false h
theorem s_l1In (x lo hi : Int) (w : World) : Calls Tryz.prog 49 #[.int .i64 x, .int .i64 lo, .int .i64 hi] w fun e w' => e = .returned (.bool (inR x lo hi)) ∧ w = w' := by
  by_cases h1 : lo ≤ x
  all_goals
    go_enter Tryz.func49, Tryz.ntmps49
    go_wp2
    go_ret
    exact ⟨ret_bool (by unfold inR; rw [Bool.eq_iff_iff]; simp; omega), rfl⟩
theorem i_within (x lo hi : Int) (w : World) : Calls Tryz.prog 57 #[.int .i64 x, .int .i64 lo, .int .i64 hi] w fun e w' => e = .returned (.bool (inR x lo hi)) ∧ w = w' := by
  by_cases h1 : lo ≤ x
  all_goals
    go_enter Tryz.func57, Tryz.ntmps57
    go_wp2
    go_ret
    exact ⟨ret_bool (by unfold inR; rw [Bool.eq_iff_iff]; simp; omega), rfl⟩

end Go.Proofs.YtjddmboaaebbiaaGreatDoor
