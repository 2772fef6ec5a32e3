/- Occurrences compared: the library's Compare and Or, the program's comparison. Conditions: none. -/
import Derived.Test.YtaihdnlpdibkoaaUseP
import Derived.Test.YtaihdnlpdibkoaaInvL
import Derived.Test.YtaihdnlpdibkoaaOccEq
import Derived.Sort.Grow
namespace Go.Proofs.Ytaihdnlpdibkoaa
set_option maxRecDepth 100000
open Go.RowKit Go.WideShapes Go.Sort
set_option linter.unusedVariables false

theorem t_nanI (x : Int) (w : World) : Calls Try.prog 127 #[.int .i64 x] w fun e w' => e = .returned (.bool false) ∧ w' = w := by
  go_enter Try.func127, Try.ntmps127
  go_wp2_with fail
  go_ret
  exact ⟨by simp, rfl⟩
theorem t_nanS (x : ByteArray) (w : World) : Calls Try.prog 128 #[.string x] w fun e w' => e = .returned (.bool false) ∧ w' = w := by
  go_enter Try.func128, Try.ntmps128
  go_wp2_with fail
  go_ret
  exact ⟨by simp, rfl⟩
theorem t_CmpI (x y : Int) (w : World) : Calls Try.prog 94 #[.int .i64 x, .int .i64 y] w fun e w' => e = .returned (.int .i64 (cmpI x y)) ∧ w' = w := by
  unfold cmpI
  by_cases h1 : x < y
  · rw [if_pos h1]
    go_enter Try.func94, Try.ntmps94
    go_wp2_with (go_at_call 127; refine Calls.mono (t_nanI _ _) ?_; rintro e w2 ⟨rfl, hw2⟩; obtain rfl := hw2.symm)
    go_ret
    exact ⟨rfl, rfl⟩
  · rw [if_neg h1]
    by_cases h2 : x > y
    · rw [if_pos h2]
      go_enter Try.func94, Try.ntmps94
      go_wp2_with (go_at_call 127; refine Calls.mono (t_nanI _ _) ?_; rintro e w2 ⟨rfl, hw2⟩; obtain rfl := hw2.symm)
      go_ret
      exact ⟨rfl, rfl⟩
    · rw [if_neg h2]
      go_enter Try.func94, Try.ntmps94
      go_wp2_with (go_at_call 127; refine Calls.mono (t_nanI _ _) ?_; rintro e w2 ⟨rfl, hw2⟩; obtain rfl := hw2.symm)
      go_ret
      exact ⟨rfl, rfl⟩
theorem t_CmpS (x y : ByteArray) (w : World) : Calls Try.prog 95 #[.string x, .string y] w fun e w' => e = .returned (.int .i64 (cmpB x.data.toList y.data.toList)) ∧ w' = w := by
  unfold cmpB
  by_cases h1 : x.data.toList < y.data.toList
  · rw [if_pos h1]
    have b1 : Op.bytesLess x.toList y.toList = true := by rw [bytesLess_eq, Lib.toList_data, Lib.toList_data]; simpa using h1
    clear h1
    go_enter Try.func95, Try.ntmps95
    go_wp2_with (go_at_call 128; refine Calls.mono (t_nanS _ _) ?_; rintro e w2 ⟨rfl, hw2⟩; obtain rfl := hw2.symm)
    go_ret
    exact ⟨rfl, rfl⟩
  · rw [if_neg h1]
    have b1 : Op.bytesLess x.toList y.toList = false := by rw [bytesLess_eq, Lib.toList_data, Lib.toList_data]; simpa using h1
    by_cases h2 : y.data.toList < x.data.toList
    · rw [if_pos h2]
      have b2 : (x.toList == y.toList) = false := by
        rw [beq_eq_false_iff_ne, Lib.toList_data, Lib.toList_data]
        intro e
        rw [e] at h2
        exact List.lt_irrefl _ h2
      clear h1 h2
      go_enter Try.func95, Try.ntmps95
      go_wp2_with (go_at_call 128; refine Calls.mono (t_nanS _ _) ?_; rintro e w2 ⟨rfl, hw2⟩; obtain rfl := hw2.symm)
      go_ret
      exact ⟨rfl, rfl⟩
    · rw [if_neg h2]
      have b2 : (x.toList == y.toList) = true := by
        rw [beq_iff_eq, Lib.toList_data, Lib.toList_data]
        exact List.le_antisymm (List.not_lt.1 h2) (List.not_lt.1 h1)
      clear h1 h2
      go_enter Try.func95, Try.ntmps95
      go_wp2_with (go_at_call 128; refine Calls.mono (t_nanS _ _) ?_; rintro e w2 ⟨rfl, hw2⟩; obtain rfl := hw2.symm)
      go_ret
      exact ⟨rfl, rfl⟩
theorem t_Or (c d : Int) (g : Nat) (T : TypeId) (w : World) (h : w.heap[g]? = some (.cells #[.int .i64 c, .int .i64 d] T (0, 0))) :
    Calls Try.prog 93 #[.slice (some ⟨g, 0, none⟩) 2 2] w fun e w' => e = .returned (.int .i64 (if c ≠ 0 then c else d)) ∧ w' = w := by
  have q0 := cell_at (i := 0) h (by simp)
  have q1 := cell_at (i := 1) h (by simp)
  by_cases h0 : c = 0
  · subst h0
    have e0 : (if (0 : Int) ≠ 0 then (0 : Int) else d) = d := rfl
    rw [e0]
    by_cases h1 : d = 0
    · subst h1
      go_enter Try.func93, Try.ntmps93
      go_wp2_with fail
      refine wp_loop_rounds 3 ?_
      rw [rounds_succ]
      go_wp2_with fail
      rw [rounds_succ]
      go_wp2_with fail
      rw [rounds_succ]
      go_wp2_with fail
      go_ret
      exact ⟨rfl, rfl⟩
    · go_enter Try.func93, Try.ntmps93
      go_wp2_with fail
      refine wp_loop_rounds 3 ?_
      rw [rounds_succ]
      go_wp2_with fail
      rw [rounds_succ]
      go_wp2_with fail
      go_ret
      exact ⟨rfl, rfl⟩
  · rw [if_pos h0]
    go_enter Try.func93, Try.ntmps93
    go_wp2_with fail
    refine wp_loop_rounds 3 ?_
    rw [rounds_succ]
    go_wp2_with fail
    go_ret
    exact ⟨rfl, rfl⟩
end Go.Proofs.Ytaihdnlpdibkoaa
