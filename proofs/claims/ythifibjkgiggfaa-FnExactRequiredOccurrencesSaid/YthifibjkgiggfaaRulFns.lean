/- Rules: the symbol at a position; comparisons of rules. Conditions: none beyond that the rules can be read. -/
import Derived.Test.YthifibjkgiggfaaRul
import Derived.Test.YthifibjkgiggfaaRange
import Derived.Test.YthifibjkgiggfaaExEq
namespace Go.Proofs.Ythifibjkgiggfaa
set_option maxRecDepth 100000
open Go.RowKit Go.WideShapes
set_option linter.unusedVariables false

def symAt (x : Rul) (pos : Int) : ByteArray := if pos = 0 then x.left else if 1 ≤ pos ∧ pos ≤ x.right.length then x.right.getD (pos - 1).toNat ⟨#[]⟩ else ⟨#[]⟩
set_option maxRecDepth 100000 in
theorem s_SymbolAt (D : Nat) (x : Rul) (cs : List Value) (F : List Nat) (w : World) (h : RulR D w x cs F) (pos : Int) (hpos : (Lit.int .i64 pos).wf = true) :
    Calls Try.prog 118 #[.agg cs.toArray, .int .i64 pos] w fun en w' => en = .returned (.string (symAt x pos)) ∧ Below w.heap.size w w' := by
  obtain ⟨c0, c1, c2, c3, c4, c5, rfl⟩ := list_6 ((RulR.good D).len h)
  obtain ⟨v2, F2, v4, F4, v5, F5, _, hk, h0, h1, ⟨h2, g2⟩, h3, ⟨h4, g4⟩, ⟨h5, g5⟩, rfl⟩ := h
  obtain rfl := Option.some.inj h0
  obtain rfl := Option.some.inj h1
  obtain rfl := Option.some.inj h2
  obtain rfl := Option.some.inj h3
  obtain rfl := Option.some.inj h4
  obtain rfl := Option.some.inj h5
  obtain ⟨A, cap, rfl, hlc, hm⟩ := g2.form
  unfold maxLen at hm
  have hmm : x.right.length ≤ 9223372036854775807 := by omega
  have hr := g2.strs.1
  clear hk g2 g4 g5 hlc hm
  by_cases hp0 : pos = 0
  · have hq : symAt x pos = x.left := by unfold symAt; rw [if_pos hp0]
    rw [hq]
    subst hp0
    go_enter Try.func118, Try.ntmps118
    go_wp2
    go_ret
    exact ⟨rfl, (Below.refl _ _).alloc (Nat.le_refl _) _⟩
  have e0 : (pos == 0) = false := by simpa using hp0
  by_cases hp : 1 ≤ pos ∧ pos ≤ x.right.length
  · obtain ⟨hp1, hp2⟩ := hp
    obtain ⟨k, hk⟩ := Int.eq_ofNat_of_zero_le (show 0 ≤ pos - 1 by omega)
    obtain rfl : pos = (k : Int) + 1 := by omega
    have hkl : k < x.right.length := by omega
    obtain ⟨b, off, y, hA, hb, hx, hc⟩ := hr.get hkl
    have hq : symAt x ((k : Int) + 1) = y := by
      unfold symAt
      rw [if_neg hp0, if_pos ⟨hp1, hp2⟩, show ((k : Int) + 1 - 1).toNat = k by omega, List.getD, hx]
      rfl
    rw [hq]
    subst hA
    have hk0 : (0 : Int) ≤ (k : Int) := by omega
    have hk1 : (k : Int) < (x.right.length : Int) := by omega
    have hes : (k : Int) + 1 - 1 = (k : Int) := by omega
    have Hx := hide hx
    have hin := inR_yes ⟨hp1, hp2⟩
    clear hr hx hq hk
    go_enter Try.func118, Try.ntmps118
    go_wp2_with (go_at_call 77; refine (s_l1In _ _ _ _).mono ?_; rintro e w' ⟨rfl, rfl⟩)
    go_ret
    exact ⟨rfl, (Below.refl _ _).alloc (Nat.le_refl _) _⟩
  · have hq : symAt x pos = ⟨#[]⟩ := by unfold symAt; rw [if_neg hp0, if_neg hp]
    rw [hq]
    have hin := inR_no hp
    clear hr hp hq
    go_enter Try.func118, Try.ntmps118
    go_wp2_with (go_at_call 77; refine (s_l1In _ _ _ _).mono ?_; rintro e w' ⟨rfl, rfl⟩)
    go_ret
    exact ⟨rfl, (Below.refl _ _).alloc (Nat.le_refl _) _⟩
set_option maxRecDepth 100000 in
theorem i_SymbolAt (D : Nat) (x : Rul) (cs : List Value) (F : List Nat) (w : World) (h : RulR D w x cs F) (pos : Int) (hpos : (Lit.int .i64 pos).wf = true) :
    Calls Try.prog 160 #[.agg cs.toArray, .int .i64 pos] w fun en w' => en = .returned (.string (symAt x pos)) ∧ Below w.heap.size w w' := by
  obtain ⟨c0, c1, c2, c3, c4, c5, rfl⟩ := list_6 ((RulR.good D).len h)
  obtain ⟨v2, F2, v4, F4, v5, F5, _, hk, h0, h1, ⟨h2, g2⟩, h3, ⟨h4, g4⟩, ⟨h5, g5⟩, rfl⟩ := h
  obtain rfl := Option.some.inj h0
  obtain rfl := Option.some.inj h1
  obtain rfl := Option.some.inj h2
  obtain rfl := Option.some.inj h3
  obtain rfl := Option.some.inj h4
  obtain rfl := Option.some.inj h5
  obtain ⟨A, cap, rfl, hlc, hm⟩ := g2.form
  unfold maxLen at hm
  have hmm : x.right.length ≤ 9223372036854775807 := by omega
  have hr := g2.strs.1
  clear hk g2 g4 g5 hlc hm
  by_cases hp0 : pos = 0
  · have hq : symAt x pos = x.left := by unfold symAt; rw [if_pos hp0]
    rw [hq]
    subst hp0
    go_enter Try.func160, Try.ntmps160
    go_wp2
    go_ret
    exact ⟨rfl, (Below.refl _ _).alloc (Nat.le_refl _) _⟩
  have e0 : (pos == 0) = false := by simpa using hp0
  by_cases hp : 1 ≤ pos ∧ pos ≤ x.right.length
  · obtain ⟨hp1, hp2⟩ := hp
    obtain ⟨k, hk⟩ := Int.eq_ofNat_of_zero_le (show 0 ≤ pos - 1 by omega)
    obtain rfl : pos = (k : Int) + 1 := by omega
    have hkl : k < x.right.length := by omega
    obtain ⟨b, off, y, hA, hb, hx, hc⟩ := hr.get hkl
    have hq : symAt x ((k : Int) + 1) = y := by
      unfold symAt
      rw [if_neg hp0, if_pos ⟨hp1, hp2⟩, show ((k : Int) + 1 - 1).toNat = k by omega, List.getD, hx]
      rfl
    rw [hq]
    subst hA
    have hk0 : (0 : Int) ≤ (k : Int) := by omega
    have hk1 : (k : Int) < (x.right.length : Int) := by omega
    have hes : (k : Int) + 1 - 1 = (k : Int) := by omega
    have Hx := hide hx
    have hin := inR_yes ⟨hp1, hp2⟩
    clear hr hx hq hk
    go_enter Try.func160, Try.ntmps160
    go_wp2_with (go_at_call 81; refine (i_within _ _ _ _).mono ?_; rintro e w' ⟨rfl, rfl⟩)
    go_ret
    exact ⟨rfl, (Below.refl _ _).alloc (Nat.le_refl _) _⟩
  · have hq : symAt x pos = ⟨#[]⟩ := by unfold symAt; rw [if_neg hp0, if_neg hp]
    rw [hq]
    have hin := inR_no hp
    clear hr hp hq
    go_enter Try.func160, Try.ntmps160
    go_wp2_with (go_at_call 81; refine (i_within _ _ _ _).mono ?_; rintro e w' ⟨rfl, rfl⟩)
    go_ret
    exact ⟨rfl, (Below.refl _ _).alloc (Nat.le_refl _) _⟩
end Go.Proofs.Ythifibjkgiggfaa
